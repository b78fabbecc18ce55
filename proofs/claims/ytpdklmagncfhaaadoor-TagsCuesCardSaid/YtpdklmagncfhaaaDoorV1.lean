/- That the code answers so, printed by a program. -/
import Derived.Test.YtpdklmagncfhaaaDoorF1
import Derived.Test.YtpdklmagncfhaaaDoorSl
import Derived.Test.YtpdklmagncfhaaaDoorK4
import Derived.Test.YtpdklmagncfhaaaDoorProg
set_option maxRecDepth 4000
set_option linter.all false
set_option linter.unusedVariables false
set_option linter.unusedSimpArgs false
namespace Go.Proofs.YtpdklmagncfhaaaDoor
open Go Go.Vg
theorem Tryd_mixed : Tryd.prog.follows .mixedOrders = true := by kernel_rfl
def T_jetsamlaw13_short : Tab := [(9, ⟨.str, 1, 16, [.str (.lit [])]⟩), (55, ⟨.slice 92, 1, 24, [.nilsl]⟩), (57, ⟨.struct [(0, 9), (1, 3), (2, 4), (3, 55)], 4, 56, [.str (.lit []), .int .i64 (.lit 0), .bool (.lit false), .nilsl]⟩), (90, ⟨.slice 97, 1, 24, [.nilsl]⟩), (92, ⟨.struct [(0, 3), (1, 3), (2, 9), (3, 4), (4, 4), (5, 90)], 6, 64, [.int .i64 (.lit 0), .int .i64 (.lit 0), .str (.lit []), .bool (.lit false), .bool (.lit false), .nilsl]⟩)]
theorem T_jetsamlaw13_short_ok : TabOk Tryd.prog T_jetsamlaw13_short := tab_ok [9, 55, 57, 90, 92]
theorem v_jetsamlaw13_short {y0 : tags_Cue} {r : Bool} (h : jetsamlaw13_short y0 = some r) : AVal Tryd.prog Gl 26 [e_tags_Cue y0] (e_bool r) := by
  refine aval_of' T_jetsamlaw13_short Gl 35 Tryd.func26 T_jetsamlaw13_short_ok Tryd_mixed fun P hP _ => ?_
  unfold jetsamlaw13_short at h
  conv => cbv
  refine .own ?_
  conv => cbv
  refine den_cut' (r := r) (jetsamlaw13_short_K1 y0) (fun j1 => ⟨[(1, .ptr 1 0), (3, .int .i64 (.v j1))], [(1, .var [.str (.v y0.Catalog), .int .i64 (.v y0.Lead), .bool (.v y0.Disc), .sl 6 e_tags_Track y0.L])], []⟩) ?_ (fun j1 h => ?_)
  · conv => cbv
    refine den_loop' (jetsamlaw13_short_L1 y0) h (fun a2 => ⟨[(1, .ptr 1 0), (3, .int .i64 (.v a2.1)), (4, .int .i64 (.v a2.2))], [(1, .var [.str (.v y0.Catalog), .int .i64 (.v y0.Lead), .bool (.v y0.Disc), .sl 6 e_tags_Track y0.L])], []⟩) (fun _ _ a2 x1 h hb1 hx1 => ?_)
    unfold jetsamlaw13_short_L1 at h
    conv => cbv
    refine den_br h (fun _ h => ?_) (fun _ h => ?_)
    · conv => cbv
      refine .mk ?_
      conv => cbv
      refine den_elem h fun p3 _ h => ?_
      conv => cbv
      exact den_back' h hb1
    conv => cbv
    replace h := den_out h hx1
    exact den_join' h
  unfold jetsamlaw13_short_K1 at h
  conv => cbv
  refine .mk ?_
  conv => cbv
  refine .mk ?_
  conv => cbv
  cases h
  exact lp
def T_unicode_utf8_word_string : Tab := [(5, ⟨.int .u8, 1, 1, [.int .u8 (.lit 0)]⟩), (9, ⟨.str, 1, 16, [.str (.lit [])]⟩), (125, ⟨.int .u64, 1, 8, [.int .u64 (.lit 0)]⟩)]
theorem T_unicode_utf8_word_string_ok : TabOk Tryd.prog T_unicode_utf8_word_string := tab_ok [5, 9, 125]
theorem v_unicode_utf8_word_string {y0 : List UInt8} {r : Int} (h : unicode_utf8_word_string y0 = some r) : AVal Tryd.prog Gl 67 [e_str y0] (e_u64 r) := by
  refine aval_of' T_unicode_utf8_word_string Gl 59 Tryd.func67 T_unicode_utf8_word_string_ok Tryd_mixed fun P hP _ => ?_
  unfold unicode_utf8_word_string at h
  conv => cbv
  refine .dup ?_
  conv => cbv
  refine .mk (some []) (by kernel_rfl) ?_
  conv => cbv
  refine den_elemS h fun b1 _ h => ?_
  conv => cbv
  refine den_elemS h fun b2 _ h => ?_
  conv => cbv
  refine .mk ?_
  conv => cbv
  refine den_elemS h fun b3 _ h => ?_
  conv => cbv
  refine .mk ?_
  conv => cbv
  refine den_elemS h fun b4 _ h => ?_
  conv => cbv
  refine .mk ?_
  conv => cbv
  refine den_elemS h fun b5 _ h => ?_
  conv => cbv
  refine .mk ?_
  conv => cbv
  refine den_elemS h fun b6 _ h => ?_
  conv => cbv
  refine .mk ?_
  conv => cbv
  refine den_elemS h fun b7 _ h => ?_
  conv => cbv
  refine den_elemS h fun b8 _ h => ?_
  conv => cbv
  refine .mk ?_
  conv => cbv
  cases h
  exact lp
def T_unicode_utf8_ValidString : Tab := [(3, ⟨.int .i64, 1, 8, [.int .i64 (.lit 0)]⟩), (5, ⟨.int .u8, 1, 1, [.int .u8 (.lit 0)]⟩), (9, ⟨.str, 1, 16, [.str (.lit [])]⟩), (106, ⟨.arr 256 5, 256, 256, [.int .u8 (.lit 0), .int .u8 (.lit 0), .int .u8 (.lit 0), .int .u8 (.lit 0), .int .u8 (.lit 0), .int .u8 (.lit 0), .int .u8 (.lit 0), .int .u8 (.lit 0), .int .u8 (.lit 0), .int .u8 (.lit 0), .int .u8 (.lit 0), .int .u8 (.lit 0), .int .u8 (.lit 0), .int .u8 (.lit 0), .int .u8 (.lit 0), .int .u8 (.lit 0), .int .u8 (.lit 0), .int .u8 (.lit 0), .int .u8 (.lit 0), .int .u8 (.lit 0), .int .u8 (.lit 0), .int .u8 (.lit 0), .int .u8 (.lit 0), .int .u8 (.lit 0), .int .u8 (.lit 0), .int .u8 (.lit 0), .int .u8 (.lit 0), .int .u8 (.lit 0), .int .u8 (.lit 0), .int .u8 (.lit 0), .int .u8 (.lit 0), .int .u8 (.lit 0), .int .u8 (.lit 0), .int .u8 (.lit 0), .int .u8 (.lit 0), .int .u8 (.lit 0), .int .u8 (.lit 0), .int .u8 (.lit 0), .int .u8 (.lit 0), .int .u8 (.lit 0), .int .u8 (.lit 0), .int .u8 (.lit 0), .int .u8 (.lit 0), .int .u8 (.lit 0), .int .u8 (.lit 0), .int .u8 (.lit 0), .int .u8 (.lit 0), .int .u8 (.lit 0), .int .u8 (.lit 0), .int .u8 (.lit 0), .int .u8 (.lit 0), .int .u8 (.lit 0), .int .u8 (.lit 0), .int .u8 (.lit 0), .int .u8 (.lit 0), .int .u8 (.lit 0), .int .u8 (.lit 0), .int .u8 (.lit 0), .int .u8 (.lit 0), .int .u8 (.lit 0), .int .u8 (.lit 0), .int .u8 (.lit 0), .int .u8 (.lit 0), .int .u8 (.lit 0), .int .u8 (.lit 0), .int .u8 (.lit 0), .int .u8 (.lit 0), .int .u8 (.lit 0), .int .u8 (.lit 0), .int .u8 (.lit 0), .int .u8 (.lit 0), .int .u8 (.lit 0), .int .u8 (.lit 0), .int .u8 (.lit 0), .int .u8 (.lit 0), .int .u8 (.lit 0), .int .u8 (.lit 0), .int .u8 (.lit 0), .int .u8 (.lit 0), .int .u8 (.lit 0), .int .u8 (.lit 0), .int .u8 (.lit 0), .int .u8 (.lit 0), .int .u8 (.lit 0), .int .u8 (.lit 0), .int .u8 (.lit 0), .int .u8 (.lit 0), .int .u8 (.lit 0), .int .u8 (.lit 0), .int .u8 (.lit 0), .int .u8 (.lit 0), .int .u8 (.lit 0), .int .u8 (.lit 0), .int .u8 (.lit 0), .int .u8 (.lit 0), .int .u8 (.lit 0), .int .u8 (.lit 0), .int .u8 (.lit 0), .int .u8 (.lit 0), .int .u8 (.lit 0), .int .u8 (.lit 0), .int .u8 (.lit 0), .int .u8 (.lit 0), .int .u8 (.lit 0), .int .u8 (.lit 0), .int .u8 (.lit 0), .int .u8 (.lit 0), .int .u8 (.lit 0), .int .u8 (.lit 0), .int .u8 (.lit 0), .int .u8 (.lit 0), .int .u8 (.lit 0), .int .u8 (.lit 0), .int .u8 (.lit 0), .int .u8 (.lit 0), .int .u8 (.lit 0), .int .u8 (.lit 0), .int .u8 (.lit 0), .int .u8 (.lit 0), .int .u8 (.lit 0), .int .u8 (.lit 0), .int .u8 (.lit 0), .int .u8 (.lit 0), .int .u8 (.lit 0), .int .u8 (.lit 0), .int .u8 (.lit 0), .int .u8 (.lit 0), .int .u8 (.lit 0), .int .u8 (.lit 0), .int .u8 (.lit 0), .int .u8 (.lit 0), .int .u8 (.lit 0), .int .u8 (.lit 0), .int .u8 (.lit 0), .int .u8 (.lit 0), .int .u8 (.lit 0), .int .u8 (.lit 0), .int .u8 (.lit 0), .int .u8 (.lit 0), .int .u8 (.lit 0), .int .u8 (.lit 0), .int .u8 (.lit 0), .int .u8 (.lit 0), .int .u8 (.lit 0), .int .u8 (.lit 0), .int .u8 (.lit 0), .int .u8 (.lit 0), .int .u8 (.lit 0), .int .u8 (.lit 0), .int .u8 (.lit 0), .int .u8 (.lit 0), .int .u8 (.lit 0), .int .u8 (.lit 0), .int .u8 (.lit 0), .int .u8 (.lit 0), .int .u8 (.lit 0), .int .u8 (.lit 0), .int .u8 (.lit 0), .int .u8 (.lit 0), .int .u8 (.lit 0), .int .u8 (.lit 0), .int .u8 (.lit 0), .int .u8 (.lit 0), .int .u8 (.lit 0), .int .u8 (.lit 0), .int .u8 (.lit 0), .int .u8 (.lit 0), .int .u8 (.lit 0), .int .u8 (.lit 0), .int .u8 (.lit 0), .int .u8 (.lit 0), .int .u8 (.lit 0), .int .u8 (.lit 0), .int .u8 (.lit 0), .int .u8 (.lit 0), .int .u8 (.lit 0), .int .u8 (.lit 0), .int .u8 (.lit 0), .int .u8 (.lit 0), .int .u8 (.lit 0), .int .u8 (.lit 0), .int .u8 (.lit 0), .int .u8 (.lit 0), .int .u8 (.lit 0), .int .u8 (.lit 0), .int .u8 (.lit 0), .int .u8 (.lit 0), .int .u8 (.lit 0), .int .u8 (.lit 0), .int .u8 (.lit 0), .int .u8 (.lit 0), .int .u8 (.lit 0), .int .u8 (.lit 0), .int .u8 (.lit 0), .int .u8 (.lit 0), .int .u8 (.lit 0), .int .u8 (.lit 0), .int .u8 (.lit 0), .int .u8 (.lit 0), .int .u8 (.lit 0), .int .u8 (.lit 0), .int .u8 (.lit 0), .int .u8 (.lit 0), .int .u8 (.lit 0), .int .u8 (.lit 0), .int .u8 (.lit 0), .int .u8 (.lit 0), .int .u8 (.lit 0), .int .u8 (.lit 0), .int .u8 (.lit 0), .int .u8 (.lit 0), .int .u8 (.lit 0), .int .u8 (.lit 0), .int .u8 (.lit 0), .int .u8 (.lit 0), .int .u8 (.lit 0), .int .u8 (.lit 0), .int .u8 (.lit 0), .int .u8 (.lit 0), .int .u8 (.lit 0), .int .u8 (.lit 0), .int .u8 (.lit 0), .int .u8 (.lit 0), .int .u8 (.lit 0), .int .u8 (.lit 0), .int .u8 (.lit 0), .int .u8 (.lit 0), .int .u8 (.lit 0), .int .u8 (.lit 0), .int .u8 (.lit 0), .int .u8 (.lit 0), .int .u8 (.lit 0), .int .u8 (.lit 0), .int .u8 (.lit 0), .int .u8 (.lit 0), .int .u8 (.lit 0), .int .u8 (.lit 0), .int .u8 (.lit 0), .int .u8 (.lit 0), .int .u8 (.lit 0), .int .u8 (.lit 0), .int .u8 (.lit 0), .int .u8 (.lit 0), .int .u8 (.lit 0), .int .u8 (.lit 0), .int .u8 (.lit 0), .int .u8 (.lit 0), .int .u8 (.lit 0), .int .u8 (.lit 0), .int .u8 (.lit 0), .int .u8 (.lit 0), .int .u8 (.lit 0), .int .u8 (.lit 0), .int .u8 (.lit 0), .int .u8 (.lit 0), .int .u8 (.lit 0)]⟩), (108, ⟨.struct [(0, 5), (1, 5)], 2, 2, [.int .u8 (.lit 0), .int .u8 (.lit 0)]⟩), (109, ⟨.arr 16 108, 32, 32, [.int .u8 (.lit 0), .int .u8 (.lit 0), .int .u8 (.lit 0), .int .u8 (.lit 0), .int .u8 (.lit 0), .int .u8 (.lit 0), .int .u8 (.lit 0), .int .u8 (.lit 0), .int .u8 (.lit 0), .int .u8 (.lit 0), .int .u8 (.lit 0), .int .u8 (.lit 0), .int .u8 (.lit 0), .int .u8 (.lit 0), .int .u8 (.lit 0), .int .u8 (.lit 0), .int .u8 (.lit 0), .int .u8 (.lit 0), .int .u8 (.lit 0), .int .u8 (.lit 0), .int .u8 (.lit 0), .int .u8 (.lit 0), .int .u8 (.lit 0), .int .u8 (.lit 0), .int .u8 (.lit 0), .int .u8 (.lit 0), .int .u8 (.lit 0), .int .u8 (.lit 0), .int .u8 (.lit 0), .int .u8 (.lit 0), .int .u8 (.lit 0), .int .u8 (.lit 0)]⟩)]
theorem T_unicode_utf8_ValidString_ok : TabOk Tryd.prog T_unicode_utf8_ValidString := tab_ok [3, 5, 9, 106, 108, 109]
set_option maxHeartbeats 2000000 in
theorem v_unicode_utf8_ValidString {y0 : List UInt8} {r : Bool} (h : unicode_utf8_ValidString y0 = some r) : AVal Tryd.prog Gl 34 [e_str y0] (e_bool r) := by
  refine aval_of' T_unicode_utf8_ValidString Gl 169 Tryd.func34 T_unicode_utf8_ValidString_ok Tryd_mixed fun P hP _ => ?_
  unfold unicode_utf8_ValidString at h
  conv => cbv
  refine den_cut' (r := r) unicode_utf8_ValidString_K1 (fun j1 => ⟨[], [], []⟩) ?_ (fun j1 h => ?_)
  · conv => cbv
    refine den_loop' unicode_utf8_ValidString_L1 h (fun a2 => ⟨[(0, .str (.v a2))], [], []⟩) (fun _ _ a2 x1 h hb1 hx1 => ?_)
    unfold unicode_utf8_ValidString_L1 at h
    conv => cbv
    refine den_br h (fun _ h => ?_) (fun _ h => ?_)
    · conv => cbv
      refine den_elemS h fun b3 _ h => ?_
      conv => cbv
      refine den_br h (fun _ h => ?_) (fun _ h => ?_)
      · conv => cbv
        refine den_subs h fun t4 _ h => ?_
        conv => cbv
        refine den_cut' (r := x1) unicode_utf8_ValidString_K2 (fun j5 => ⟨[(0, .str (.v j5))], [], []⟩) ?_ (fun j5 h => ?_)
        · conv => cbv
          refine .mk ?_
          conv => cbv
          refine den_br h (fun _ h => ?_) (fun _ h => ?_)
          · conv => cbv
            refine den_call' hP h (fun _ h => v_unicode_utf8_word_string h) fun r6 _ h => ?_
            conv => cbv
            refine den_br h (fun _ h => ?_) (fun _ h => ?_)
            · conv => cbv
              refine den_subs h fun t7 _ h => ?_
              conv => cbv
              refine den_cut' (r := x1) (unicode_utf8_ValidString_K3 t7) (fun j8 => ⟨[(0, .str (.v t7)), (21, .int .u64 (.v r6)), (22, .int .u64 (.ar .and .u64 (.v r6) (.lit 9259542123273814144))), (23, .bool (.cmp .eql (.ar .and .u64 (.v r6) (.lit 9259542123273814144)) (.lit 0))), (39, .bool (.v j8))], [], []⟩) ?_ (fun j8 h => ?_)
              · conv => cbv
                refine .mk (some []) (by kernel_rfl) ?_
                conv => cbv
                refine .mk ?_
                conv => cbv
                refine den_br h (fun _ h => ?_) (fun _ h => ?_)
                · conv => cbv
                  refine den_subs h fun t20 _ h => ?_
                  conv => cbv
                  refine den_call' hP h (fun _ h => v_unicode_utf8_word_string h) fun r21 _ h => ?_
                  conv => cbv
                  refine den_call' hP h (fun _ h => v_unicode_utf8_word_string h) fun r22 _ h => ?_
                  conv => cbv
                  refine .mk ?_
                  conv => cbv
                  exact den_join' h
                conv => cbv
                refine .mk ?_
                conv => cbv
                exact den_join' h
              unfold unicode_utf8_ValidString_K3 at h
              conv => cbv
              refine den_br h (fun _ h => ?_) (fun _ h => ?_)
              · conv => cbv
                refine den_subs h fun t9 _ h => ?_
                conv => cbv
                refine den_loop' unicode_utf8_ValidString_L2 h (fun a10 => ⟨[(0, .str (.v a10)), (21, .int .u64 (.v r6)), (22, .int .u64 (.ar .and .u64 (.v r6) (.lit 9259542123273814144))), (23, .bool (.cmp .eql (.ar .and .u64 (.v r6) (.lit 9259542123273814144)) (.lit 0)))], [], []⟩) (fun _ _ a10 x2 h hb2 hx2 => ?_)
                unfold unicode_utf8_ValidString_L2 at h
                conv => cbv
                refine den_cut' (r := x2) (unicode_utf8_ValidString_K4 a10) (fun j11 => ⟨[(0, .str (.v a10)), (21, .int .u64 (.v r6)), (22, .int .u64 (.ar .and .u64 (.v r6) (.lit 9259542123273814144))), (23, .bool (.cmp .eql (.ar .and .u64 (.v r6) (.lit 9259542123273814144)) (.lit 0))), (62, .bool (.v j11))], [], []⟩) ?_ (fun j11 h => ?_)
                · conv => cbv
                  refine .mk (some []) (by kernel_rfl) ?_
                  conv => cbv
                  refine .mk ?_
                  conv => cbv
                  refine den_br h (fun _ h => ?_) (fun _ h => ?_)
                  · conv => cbv
                    refine den_subs h fun t13 _ h => ?_
                    conv => cbv
                    refine den_subs h fun t14 _ h => ?_
                    conv => cbv
                    refine den_subs h fun t15 _ h => ?_
                    conv => cbv
                    refine .mk ?_
                    conv => cbv
                    refine den_call' hP h (fun _ h => v_unicode_utf8_word_string h) fun r16 _ h => ?_
                    conv => cbv
                    refine den_call' hP h (fun _ h => v_unicode_utf8_word_string h) fun r17 _ h => ?_
                    conv => cbv
                    refine den_call' hP h (fun _ h => v_unicode_utf8_word_string h) fun r18 _ h => ?_
                    conv => cbv
                    refine den_call' hP h (fun _ h => v_unicode_utf8_word_string h) fun r19 _ h => ?_
                    conv => cbv
                    refine .mk ?_
                    conv => cbv
                    exact den_join' h
                  conv => cbv
                  refine .mk ?_
                  conv => cbv
                  refine .mk ?_
                  conv => cbv
                  exact den_join' h
                unfold unicode_utf8_ValidString_K4 at h
                conv => cbv
                refine den_br h (fun _ h => ?_) (fun _ h => ?_)
                · conv => cbv
                  refine den_subs h fun t12 _ h => ?_
                  conv => cbv
                  exact den_back' h hb2
                conv => cbv
                replace h := den_out h hx2
                exact den_join' h
              conv => cbv
              exact den_join' h
            conv => cbv
            exact den_join' h
          conv => cbv
          exact den_join' h
        unfold unicode_utf8_ValidString_K2 at h
        conv => cbv
        exact den_back' h hb1
      conv => cbv
      refine den_elemV (f := e_u8) lp h fun p23 _ h => ?_
      conv => cbv
      refine .mk ?_
      conv => cbv
      refine den_elemV (f := e_unicode_utf8_acceptRange) lp h fun p24 _ h => ?_
      conv => cbv
      refine den_br h (fun _ h => ?_) (fun _ h => ?_)
      · conv => cbv
        refine den_cut' (r := x1) (unicode_utf8_ValidString_K5 a2) (fun j25 => ⟨[(0, .str (.v a2)), (94, .bool (.v j25))], [], []⟩) ?_ (fun j25 h => ?_)
        · conv => cbv
          refine .mk (some []) (by kernel_rfl) ?_
          conv => cbv
          refine .mk ?_
          conv => cbv
          refine den_br h (fun _ h => ?_) (fun _ h => ?_)
          · conv => cbv
            refine .mk ?_
            conv => cbv
            exact den_join' h
          conv => cbv
          refine den_elemS h fun b27 _ h => ?_
          conv => cbv
          refine .mk ?_
          conv => cbv
          refine den_br h (fun _ h => ?_) (fun _ h => ?_)
          · conv => cbv
            exact den_join' h
          conv => cbv
          refine den_elemS h fun b28 _ h => ?_
          conv => cbv
          exact den_join' h
        unfold unicode_utf8_ValidString_K5 at h
        conv => cbv
        refine den_br h (fun _ h => ?_) (fun _ h => ?_)
        · conv => cbv
          replace h := den_out h hx1
          cases h
          exact lp
        conv => cbv
        refine den_subs h fun t26 _ h => ?_
        conv => cbv
        exact den_back' h hb1
      conv => cbv
      refine den_br h (fun _ h => ?_) (fun _ h => ?_)
      · conv => cbv
        refine den_cut' (r := x1) (unicode_utf8_ValidString_K6 a2) (fun j29 => ⟨[(0, .str (.v a2)), (125, .bool (.v j29))], [], []⟩) ?_ (fun j29 h => ?_)
        · conv => cbv
          refine .mk (some []) (by kernel_rfl) ?_
          conv => cbv
          refine .mk ?_
          conv => cbv
          refine den_br h (fun _ h => ?_) (fun _ h => ?_)
          · conv => cbv
            refine .mk ?_
            conv => cbv
            refine .mk ?_
            conv => cbv
            refine .mk ?_
            conv => cbv
            exact den_join' h
          conv => cbv
          refine den_elemS h fun b31 _ h => ?_
          conv => cbv
          refine .mk ?_
          conv => cbv
          refine den_br h (fun _ h => ?_) (fun _ h => ?_)
          · conv => cbv
            refine .mk ?_
            conv => cbv
            refine .mk ?_
            conv => cbv
            exact den_join' h
          conv => cbv
          refine den_elemS h fun b32 _ h => ?_
          conv => cbv
          refine .mk ?_
          conv => cbv
          refine den_br h (fun _ h => ?_) (fun _ h => ?_)
          · conv => cbv
            refine .mk ?_
            conv => cbv
            exact den_join' h
          conv => cbv
          refine den_elemS h fun b33 _ h => ?_
          conv => cbv
          refine .mk ?_
          conv => cbv
          refine den_br h (fun _ h => ?_) (fun _ h => ?_)
          · conv => cbv
            exact den_join' h
          conv => cbv
          refine den_elemS h fun b34 _ h => ?_
          conv => cbv
          exact den_join' h
        unfold unicode_utf8_ValidString_K6 at h
        conv => cbv
        refine den_br h (fun _ h => ?_) (fun _ h => ?_)
        · conv => cbv
          replace h := den_out h hx1
          cases h
          exact lp
        conv => cbv
        refine den_subs h fun t30 _ h => ?_
        conv => cbv
        exact den_back' h hb1
      conv => cbv
      refine den_br h (fun _ h => ?_) (fun _ h => ?_)
      · conv => cbv
        refine den_cut' (r := x1) (unicode_utf8_ValidString_K7 a2) (fun j35 => ⟨[(0, .str (.v a2)), (166, .bool (.v j35))], [], []⟩) ?_ (fun j35 h => ?_)
        · conv => cbv
          refine .mk (some []) (by kernel_rfl) ?_
          conv => cbv
          refine .mk ?_
          conv => cbv
          refine den_br h (fun _ h => ?_) (fun _ h => ?_)
          · conv => cbv
            refine .mk ?_
            conv => cbv
            refine .mk ?_
            conv => cbv
            refine .mk ?_
            conv => cbv
            refine .mk ?_
            conv => cbv
            refine .mk ?_
            conv => cbv
            exact den_join' h
          conv => cbv
          refine den_elemS h fun b37 _ h => ?_
          conv => cbv
          refine .mk ?_
          conv => cbv
          refine den_br h (fun _ h => ?_) (fun _ h => ?_)
          · conv => cbv
            refine .mk ?_
            conv => cbv
            refine .mk ?_
            conv => cbv
            refine .mk ?_
            conv => cbv
            refine .mk ?_
            conv => cbv
            exact den_join' h
          conv => cbv
          refine den_elemS h fun b38 _ h => ?_
          conv => cbv
          refine .mk ?_
          conv => cbv
          refine den_br h (fun _ h => ?_) (fun _ h => ?_)
          · conv => cbv
            refine .mk ?_
            conv => cbv
            refine .mk ?_
            conv => cbv
            refine .mk ?_
            conv => cbv
            exact den_join' h
          conv => cbv
          refine den_elemS h fun b39 _ h => ?_
          conv => cbv
          refine .mk ?_
          conv => cbv
          refine den_br h (fun _ h => ?_) (fun _ h => ?_)
          · conv => cbv
            refine .mk ?_
            conv => cbv
            refine .mk ?_
            conv => cbv
            exact den_join' h
          conv => cbv
          refine den_elemS h fun b40 _ h => ?_
          conv => cbv
          refine .mk ?_
          conv => cbv
          refine den_br h (fun _ h => ?_) (fun _ h => ?_)
          · conv => cbv
            refine .mk ?_
            conv => cbv
            exact den_join' h
          conv => cbv
          refine den_elemS h fun b41 _ h => ?_
          conv => cbv
          refine den_br h (fun _ h => ?_) (fun _ h => ?_)
          · conv => cbv
            refine .mk ?_
            conv => cbv
            exact den_join' h
          conv => cbv
          refine den_elemS h fun b42 _ h => ?_
          conv => cbv
          refine .mk ?_
          conv => cbv
          exact den_join' h
        unfold unicode_utf8_ValidString_K7 at h
        conv => cbv
        refine den_br h (fun _ h => ?_) (fun _ h => ?_)
        · conv => cbv
          replace h := den_out h hx1
          cases h
          exact lp
        conv => cbv
        refine den_subs h fun t36 _ h => ?_
        conv => cbv
        exact den_back' h hb1
      conv => cbv
      replace h := den_out h hx1
      cases h
      exact lp
    conv => cbv
    replace h := den_out h hx1
    exact den_join' h
  unfold unicode_utf8_ValidString_K1 at h
  conv => cbv
  cases h
  exact lp
def T_slices_IndexFunc_sstring_string : Tab := [(9, ⟨.str, 1, 16, [.str (.lit [])]⟩), (22, ⟨.slice 9, 1, 24, [.nilsl]⟩)]
theorem T_slices_IndexFunc_sstring_string_ok : TabOk Tryd.prog T_slices_IndexFunc_sstring_string := tab_ok [9, 22]
theorem v_slices_IndexFunc_sstring_string {y0 : List (List UInt8)} {g1 : (List UInt8) → Option Bool} (fid1 : Nat) (hg1 : ∀ z0 r, g1 z0 = some r → AVal Tryd.prog Gl fid1 [e_str z0] (e_bool r)) {r : Int} (h : slices_IndexFunc_sstring_string y0 g1 = some r) : AVal Tryd.prog Gl 68 [(e_sl 1 e_str) y0, (.fn fid1 [] [])] (e_i64 r) := by
  refine aval_of' T_slices_IndexFunc_sstring_string Gl 19 Tryd.func68 T_slices_IndexFunc_sstring_string_ok Tryd_mixed fun P hP _ => ?_
  unfold slices_IndexFunc_sstring_string at h
  conv => cbv
  refine den_cut' (r := r) slices_IndexFunc_sstring_string_K1 (fun j1 => ⟨[], [], []⟩) ?_ (fun j1 h => ?_)
  · conv => cbv
    refine den_loop' (slices_IndexFunc_sstring_string_L1 y0 g1) h (fun a2 => ⟨[(0, .sl 1 e_str y0), (1, .fn fid1 [] []), (7, .int .i64 (.len y0)), (8, .int .i64 (.v a2))], [], []⟩) (fun _ _ a2 x1 h hb1 hx1 => ?_)
    unfold slices_IndexFunc_sstring_string_L1 at h
    conv => cbv
    refine den_br h (fun _ h => ?_) (fun _ h => ?_)
    · conv => cbv
      refine .mk ?_
      conv => cbv
      refine den_elem h fun p3 _ h => ?_
      conv => cbv
      refine den_call' hP h (fun _ h => hg1 _ _ h) fun r4 _ h => ?_
      conv => cbv
      refine den_br h (fun _ h => ?_) (fun _ h => ?_)
      · conv => cbv
        replace h := den_out h hx1
        cases h
        exact lp
      conv => cbv
      exact den_back' h hb1
    conv => cbv
    replace h := den_out h hx1
    exact den_join' h
  unfold slices_IndexFunc_sstring_string_K1 at h
  conv => cbv
  cases h
  exact lp
def T_slices_ContainsFunc_sstring_string : Tab := []
theorem T_slices_ContainsFunc_sstring_string_ok : TabOk Tryd.prog T_slices_ContainsFunc_sstring_string := tab_ok []
theorem v_slices_ContainsFunc_sstring_string {y0 : List (List UInt8)} {g1 : (List UInt8) → Option Bool} (fid1 : Nat) (hg1 : ∀ z0 r, g1 z0 = some r → AVal Tryd.prog Gl fid1 [e_str z0] (e_bool r)) {r : Bool} (h : slices_ContainsFunc_sstring_string y0 g1 = some r) : AVal Tryd.prog Gl 35 [(e_sl 1 e_str) y0, (.fn fid1 [] [])] (e_bool r) := by
  refine aval_of' T_slices_ContainsFunc_sstring_string Gl 9 Tryd.func35 T_slices_ContainsFunc_sstring_string_ok Tryd_mixed fun P hP _ => ?_
  unfold slices_ContainsFunc_sstring_string at h
  conv => cbv
  refine den_call' hP h (fun _ h => v_slices_IndexFunc_sstring_string _ hg1 h) fun r1 _ h => ?_
  conv => cbv
  cases h
  exact lp
theorem v_indexByte {s : List UInt8} {c r : Int} (h : indexByteF s c = some r) : AVal Tryd.prog Gl 103 [.str (.v s), e_u8 c] (e_i64 r) := by
  cases h
  have hargs : ∀ (w : World) (F : Nat → Prop) (β : Bt) (vs : Array Value), vs.size = [V.str (.v s), e_u8 c].length → (∀ (i : Nat) (v : Value) (x : V), vs[i]? = some v → [V.str (.v s), e_u8 c][i]? = some x → RA w F β [] v x) → vs = #[.string ⟨s.toArray⟩, .int .u8 c] ∧ s.length ≤ LIM := fun w F β vs h1 h2 => by
    have hl2 : vs.size = 2 := by simpa using h1
    have g0 : vs[0]? = some (vs[0]'(by omega)) := Array.getElem?_eq_getElem (by omega)
    have g1 : vs[1]? = some (vs[1]'(by omega)) := Array.getElem?_eq_getElem (by omega)
    have e0 := RA.of_str (h2 0 _ _ g0 rfl)
    have e1 := (RA.of_int (h2 1 _ _ g1 rfl)).1
    refine ⟨?_, e0.2⟩
    apply Array.ext
    · simpa using hl2
    · intro i h1' h2'
      simp at h2'
      match i, h2' with
      | 0, _ => exact e0.1
      | 1, _ => simpa [IE.den] using e1
  by_cases hs : s.length ≤ LIM
  · refine aval_of_calls (vs0 := #[.string ⟨s.toArray⟩, .int .u8 c]) (v := .int .i64 (Lib.indexByte s c.toNat.toUInt8)) Tryd.func103 rfl rfl (fun w F β vs h1 h2 => (hargs w F β vs h1 h2).1) (fun w => (Tryd.stringslite_IndexByte ⟨s.toArray⟩ c w).mono fun e w' ⟨he, hw⟩ => ⟨he, hw ▸ Keep.refl _ _⟩) (fun w F => .int _ _ _ rfl ((has_iff _ _).2 ?_))
    have h0 := Lib.indexByte_ge s c.toNat.toUInt8
    have h1 := indexByte_lt s c.toNat.toUInt8
    have h2 : LIM = 9223372036854775807 := rfl
    simp only [lo, hi]
    rcases h1 with h1 | rfl
    · exact ⟨by omega, by omega⟩
    · simp [Lib.indexByte]
  · exact ⟨⟨_, Tryd.func103, rfl, rfl⟩, fun w F β vs h1 h2 _ _ _ _ => absurd (hargs w F β vs h1 h2).2 hs⟩
def T_internal_stringslite_Index : Tab := [(3, ⟨.int .i64, 1, 8, [.int .i64 (.lit 0)]⟩), (9, ⟨.str, 1, 16, [.str (.lit [])]⟩)]
theorem T_internal_stringslite_Index_ok : TabOk Tryd.prog T_internal_stringslite_Index := tab_ok [3, 9]
theorem v_internal_stringslite_Index {y0 : List UInt8} {y1 : List UInt8} {r : Int} (h : internal_stringslite_Index y0 y1 = some r) : AVal Tryd.prog Gl 84 [e_str y0, e_str y1] (e_i64 r) := by
  refine aval_of' T_internal_stringslite_Index Gl 143 Tryd.func84 T_internal_stringslite_Index_ok Tryd_mixed fun P hP _ => ?_
  unfold internal_stringslite_Index at h
  conv => cbv
  refine .mk ?_
  conv => cbv
  refine den_br h (fun _ h => ?_) (fun _ h => ?_)
  · conv => cbv
    cases h
    exact lp
  conv => cbv
  refine den_br h (fun _ h => ?_) (fun _ h => ?_)
  · conv => cbv
    refine den_elemS h fun b1 _ h => ?_
    conv => cbv
    refine den_call' hP h (fun _ h => v_indexByte h) fun r2 _ h => ?_
    conv => cbv
    cases h
    exact lp
  conv => cbv
  refine den_br h (fun _ h => ?_) (fun _ h => ?_)
  · conv => cbv
    cases h
    exact lp
  conv => cbv
  exact den_none h
def T_internal_stringslite_Cut : Tab := [(9, ⟨.str, 1, 16, [.str (.lit [])]⟩)]
theorem T_internal_stringslite_Cut_ok : TabOk Tryd.prog T_internal_stringslite_Cut := tab_ok [9]
theorem v_internal_stringslite_Cut {y0 : List UInt8} {y1 : List UInt8} {r : (List UInt8) × (List UInt8) × Bool} (h : internal_stringslite_Cut y0 y1 = some r) : AVal Tryd.prog Gl 71 [e_str y0, e_str y1] (.tup [e_str r.1, e_str r.2.1, e_bool r.2.2]) := by
  refine aval_of' T_internal_stringslite_Cut Gl 23 Tryd.func71 T_internal_stringslite_Cut_ok Tryd_mixed fun P hP _ => ?_
  unfold internal_stringslite_Cut at h
  conv => cbv
  refine den_call' hP h (fun _ h => v_internal_stringslite_Index h) fun r1 _ h => ?_
  conv => cbv
  refine den_br h (fun _ h => ?_) (fun _ h => ?_)
  · conv => cbv
    refine .dup ?_
    conv => cbv
    refine .mk (some []) (by kernel_rfl) ?_
    conv => cbv
    refine den_subs h fun t2 _ h => ?_
    conv => cbv
    refine .mk ?_
    conv => cbv
    refine den_subs h fun t3 _ h => ?_
    conv => cbv
    refine .mk ?_
    conv => cbv
    cases h
    exact .tup _ _ lp
  conv => cbv
  cases h
  exact .tup _ _ lp
def T_strings_Cut : Tab := []
theorem T_strings_Cut_ok : TabOk Tryd.prog T_strings_Cut := tab_ok []
theorem v_strings_Cut {y0 : List UInt8} {y1 : List UInt8} {r : (List UInt8) × (List UInt8) × Bool} (h : strings_Cut y0 y1 = some r) : AVal Tryd.prog Gl 44 [e_str y0, e_str y1] (.tup [e_str r.1, e_str r.2.1, e_bool r.2.2]) := by
  refine aval_of' T_strings_Cut Gl 13 Tryd.func44 T_strings_Cut_ok Tryd_mixed fun P hP _ => ?_
  unfold strings_Cut at h
  conv => cbv
  refine den_call' hP h (fun _ h => v_internal_stringslite_Cut h) fun r1 _ h => ?_
  conv => cbv
  refine .mk ?_
  conv => cbv
  cases h
  exact lp
def Tx_tags_letters_c1 : Tab := [(5, ⟨.int .u8, 1, 1, [.int .u8 (.lit 0)]⟩)]
theorem Tx_tags_letters_c1_ok : TabOk Tryd.prog Tx_tags_letters_c1 := tab_ok [5]
theorem x_tags_letters_c1 {y0 : Int} {y1 : Int} {y2 : Int} {r : Unit} (h : tags_letters_c1 y0 y1 y2 = some r) : ACalls Tryd.prog Gl 76 [e_u8 y0, .ptr 10000 0, .ptr 10001 0] [(10000, .var [.int .u8 (.v y1)]), (10001, .var [.int .u8 (.v y2)])] (fun x o' => x = .bool (.ite (.cmp .lss (.v y0) (.v y1)) (.lit true) (.cmp .gtr (.v y0) (.v y2))) ∧ o' = [(10000, .var [.int .u8 (.v y1)]), (10001, .var [.int .u8 (.v y2)])]) := by
  refine acalls_of' Tx_tags_letters_c1 Gl 13 [10000, 10001] Tryd.func76 Tx_tags_letters_c1_ok Tryd_mixed fun P hP _ => ?_
  unfold tags_letters_c1 at h
  conv => cbv
  refine .mk ?_
  conv => cbv
  refine .mk [(10000, 10000, false), (10001, 10001, false)] [] rfl rfl ?_ ?_
  · conv => cbv
    cases h
    exact lp
  conv => cbv
  cases h
  exact lp
def Tx_slices_IndexFunc_sbyte_byte : Tab := [(5, ⟨.int .u8, 1, 1, [.int .u8 (.lit 0)]⟩), (27, ⟨.slice 5, 1, 24, [.nilsl]⟩)]
theorem Tx_slices_IndexFunc_sbyte_byte_ok : TabOk Tryd.prog Tx_slices_IndexFunc_sbyte_byte := tab_ok [5, 27]
theorem x_slices_IndexFunc_sbyte_byte {y0 : List Int} {y1 : Int} {y2 : Int} {r : Int} (h : slices_IndexFunc_sbyte_byte y0 y1 y2 = some r) : ACalls Tryd.prog Gl 93 [(e_sl 1 e_u8) y0, .fn 76 [] [.ptr 10000 0, .ptr 10001 0]] [(10000, .var [.int .u8 (.v y1)]), (10001, .var [.int .u8 (.v y2)])] (fun x o' => x = .int .i64 (.v r) ∧ o' = [(10000, .var [.int .u8 (.v y1)]), (10001, .var [.int .u8 (.v y2)])]) := by
  refine acalls_of' Tx_slices_IndexFunc_sbyte_byte Gl 19 [10000, 10001] Tryd.func93 Tx_slices_IndexFunc_sbyte_byte_ok Tryd_mixed fun P hP _ => ?_
  unfold slices_IndexFunc_sbyte_byte at h
  conv => cbv
  refine den_cut' (r := r) slices_IndexFunc_sbyte_byte_K1 (fun j1 => ⟨[], [(10000, .var [.int .u8 (.v y1)]), (10001, .var [.int .u8 (.v y2)])], []⟩) ?_ (fun j1 h => ?_)
  · conv => cbv
    refine den_loop' (slices_IndexFunc_sbyte_byte_L1 y0 y1 y2) h (fun a2 => ⟨[(0, .sl 1 e_u8 y0), (1, .fn 76 [] [.ptr 10000 0, .ptr 10001 0]), (7, .int .i64 (.len y0)), (8, .int .i64 (.v a2))], [(10000, .var [.int .u8 (.v y1)]), (10001, .var [.int .u8 (.v y2)])], []⟩) (fun _ _ a2 x1 h hb1 hx1 => ?_)
    unfold slices_IndexFunc_sbyte_byte_L1 at h
    conv => cbv
    refine den_br h (fun _ h => ?_) (fun _ h => ?_)
    · conv => cbv
      refine .mk ?_
      conv => cbv
      refine den_elem h fun p3 _ h => ?_
      conv => cbv
      refine den_own' [(10000, 10000, false), (10001, 10001, false)] [] hP h (fun _ h => x_tags_letters_c1 h) fun r4 _ h => ?_
      conv => cbv
      refine den_br h (fun _ h => ?_) (fun _ h => ?_)
      · conv => cbv
        replace h := den_out h hx1
        refine .mk [(10000, 10000, false), (10001, 10001, false)] [] rfl rfl ?_ ?_
        · conv => cbv
          cases h
          exact lp
        conv => cbv
        cases h
        exact lp
      conv => cbv
      exact den_back' h hb1
    conv => cbv
    replace h := den_out h hx1
    exact den_join' h
  unfold slices_IndexFunc_sbyte_byte_K1 at h
  conv => cbv
  refine .mk [(10000, 10000, false), (10001, 10001, false)] [] rfl rfl ?_ ?_
  · conv => cbv
    cases h
    exact lp
  conv => cbv
  cases h
  exact lp
def Tx_slices_ContainsFunc_sbyte_byte : Tab := []
theorem Tx_slices_ContainsFunc_sbyte_byte_ok : TabOk Tryd.prog Tx_slices_ContainsFunc_sbyte_byte := tab_ok []
theorem x_slices_ContainsFunc_sbyte_byte {y0 : List Int} {y1 : Int} {y2 : Int} {r : Bool} (h : slices_ContainsFunc_sbyte_byte y0 y1 y2 = some r) : ACalls Tryd.prog Gl 75 [(e_sl 1 e_u8) y0, .fn 76 [] [.ptr 10000 0, .ptr 10001 0]] [(10000, .var [.int .u8 (.v y1)]), (10001, .var [.int .u8 (.v y2)])] (fun x o' => x = .bool (.v r) ∧ o' = [(10000, .var [.int .u8 (.v y1)]), (10001, .var [.int .u8 (.v y2)])]) := by
  refine acalls_of' Tx_slices_ContainsFunc_sbyte_byte Gl 9 [10000, 10001] Tryd.func75 Tx_slices_ContainsFunc_sbyte_byte_ok Tryd_mixed fun P hP _ => ?_
  unfold slices_ContainsFunc_sbyte_byte at h
  conv => cbv
  refine den_own' [(10000, 10000, false), (10001, 10001, false)] [] hP h (fun _ h => x_slices_IndexFunc_sbyte_byte h) fun r1 _ h => ?_
  conv => cbv
  refine .mk [(10000, 10000, false), (10001, 10001, false)] [] rfl rfl ?_ ?_
  · conv => cbv
    cases h
    exact lp
  conv => cbv
  cases h
  exact lp
def T_tags_letters : Tab := [(5, ⟨.int .u8, 1, 1, [.int .u8 (.lit 0)]⟩), (9, ⟨.str, 1, 16, [.str (.lit [])]⟩), (27, ⟨.slice 5, 1, 24, [.nilsl]⟩)]
theorem T_tags_letters_ok : TabOk Tryd.prog T_tags_letters := tab_ok [5, 9, 27]
theorem v_tags_letters {y0 : List UInt8} {y1 : Int} {y2 : Int} {r : Bool} (h : tags_letters y0 y1 y2 = some r) : AVal Tryd.prog Gl 51 [e_str y0, e_u8 y1, e_u8 y2] (e_bool r) := by
  refine aval_of' T_tags_letters Gl 12 Tryd.func51 T_tags_letters_ok Tryd_mixed fun P hP _ => ?_
  unfold tags_letters at h
  conv => cbv
  refine .own ?_
  conv => cbv
  refine .own ?_
  conv => cbv
  refine .mk ?_
  conv => cbv
  refine den_bytes (fun l1 => ((slices_ContainsFunc_sbyte_byte l1 y1 y2).bind fun r2 => some (!r2))) h fun l1 _ h => ?_
  conv => cbv
  refine den_own' [(4, 10000, false), (5, 10001, false)] [] hP h (fun _ h => x_slices_ContainsFunc_sbyte_byte h) fun r2 _ h => ?_
  conv => cbv
  cases h
  exact lp
def T_tags_comment : Tab := []
theorem T_tags_comment_ok : TabOk Tryd.prog T_tags_comment := tab_ok []
theorem v_tags_comment {y0 : List UInt8} {r : Bool} (h : tags_comment y0 = some r) : AVal Tryd.prog Gl 37 [e_str y0] (e_bool r) := by
  refine aval_of' T_tags_comment Gl 25 Tryd.func37 T_tags_comment_ok Tryd_mixed fun P hP _ => ?_
  unfold tags_comment at h
  conv => cbv
  refine den_call' hP h (fun _ h => v_strings_Cut h) fun r1 _ h => ?_
  conv => cbv
  refine .mk ?_
  conv => cbv
  refine .mk ?_
  conv => cbv
  refine den_br h (fun _ h => ?_) (fun _ h => ?_)
  · conv => cbv
    refine den_call' hP h (fun _ h => v_tags_letters h) fun r2 _ h => ?_
    conv => cbv
    refine .mk ?_
    conv => cbv
    refine den_br h (fun _ h => ?_) (fun _ h => ?_)
    · conv => cbv
      refine den_call' hP h (fun _ h => v_unicode_utf8_ValidString h) fun r3 _ h => ?_
      conv => cbv
      cases h
      exact lp
    conv => cbv
    cases h
    exact lp
  conv => cbv
  refine .mk ?_
  conv => cbv
  cases h
  exact lp
def T_tags_Comments_Write_c1 : Tab := []
theorem T_tags_Comments_Write_c1_ok : TabOk Tryd.prog T_tags_Comments_Write_c1 := tab_ok []
theorem v_tags_Comments_Write_c1 {y0 : List UInt8} {r : Bool} (h : tags_Comments_Write_c1 y0 = some r) : AVal Tryd.prog Gl 36 [e_str y0] (e_bool r) := by
  refine aval_of' T_tags_Comments_Write_c1 Gl 6 Tryd.func36 T_tags_Comments_Write_c1_ok Tryd_mixed fun P hP _ => ?_
  unfold tags_Comments_Write_c1 at h
  conv => cbv
  refine den_call' hP h (fun _ h => v_tags_comment h) fun r1 _ h => ?_
  conv => cbv
  cases h
  exact lp
def T_tags_low : Tab := [(3, ⟨.int .i64, 1, 8, [.int .i64 (.lit 0)]⟩), (5, ⟨.int .u8, 1, 1, [.int .u8 (.lit 0)]⟩), (27, ⟨.slice 5, 1, 24, [.nilsl]⟩)]
theorem T_tags_low_ok : TabOk Tryd.prog T_tags_low := tab_ok [3, 5, 27]
theorem v_tags_low {y0 : Int} {r : List Int} (h : tags_low y0 = some r) : AVal Tryd.prog Gl 39 [e_i64 y0] ((e_sl 1 e_u8) r) := by
  refine aval_of' T_tags_low Gl 15 Tryd.func39 T_tags_low_ok Tryd_mixed fun P hP _ => ?_
  unfold tags_low at h
  conv => cbv
  refine .mk ?_
  conv => cbv
  refine .mk ?_
  conv => cbv
  refine .data ?_
  conv => cbv
  cases h
  exact .sls lp
def Tw_slices_Concat_sbyte_byte : Tab := [(5, ⟨.int .u8, 1, 1, [.int .u8 (.lit 0)]⟩), (27, ⟨.slice 5, 1, 24, [.nilsl]⟩), (112, ⟨.slice 27, 1, 24, [.nilsl]⟩)]
theorem Tw_slices_Concat_sbyte_byte_ok : TabOk Tryd.prog Tw_slices_Concat_sbyte_byte := tab_ok [5, 27, 112]
theorem w_slices_Concat_sbyte_byte {y0 : List (List Int)} {r : List Int} (h : slices_Concat_sbyte_byte y0 = some r) : ACalls Tryd.prog Gl 38 [(e_sl 1 (e_sl 1 e_u8)) y0] [] (fun x o' => x = .osl 20000 ∧ o' = [(20000, .arr false 5 1 e_u8 r)]) := by
  refine acalls_of' Tw_slices_Concat_sbyte_byte Gl 36 [] Tryd.func38 Tw_slices_Concat_sbyte_byte_ok Tryd_mixed fun P hP _ => ?_
  unfold slices_Concat_sbyte_byte at h
  conv => cbv
  refine den_cut' (r := r) (slices_Concat_sbyte_byte_K1 y0) (fun j1 => ⟨[(0, .sl 1 (e_sl 1 e_u8) y0), (3, .int .i64 (.v j1))], [], []⟩) ?_ (fun j1 h => ?_)
  · conv => cbv
    refine den_loop' (slices_Concat_sbyte_byte_L2 y0) h (fun a7 => ⟨[(0, .sl 1 (e_sl 1 e_u8) y0), (3, .int .i64 (.v a7.1)), (9, .sl 1 (e_sl 1 e_u8) y0), (10, .int .i64 (.len y0)), (11, .int .i64 (.v a7.2))], [], []⟩) (fun _ _ a7 x1 h hb1 hx1 => ?_)
    unfold slices_Concat_sbyte_byte_L2 at h
    conv => cbv
    refine den_br h (fun _ h => ?_) (fun _ h => ?_)
    · conv => cbv
      refine den_elem h fun p8 _ h => ?_
      conv => cbv
      refine den_br h (fun _ h => ?_) (fun _ h => ?_)
      · conv => cbv
        exact den_none h
      conv => cbv
      exact den_back' h hb1
    conv => cbv
    replace h := den_out h hx1
    exact den_join' h
  unfold slices_Concat_sbyte_byte_K1 at h
  conv => cbv
  refine den_own' (hl := (.cons _ _ _ _ (.same _) (.cons _ _ _ _ (.same _) .nil))) (ho := True.intro) [(24, 20000, true)] [] hP h (fun _ h => g_grow h) fun r2 _ h => ?_
  conv => cbv
  refine den_cut' (r := r) slices_Concat_sbyte_byte_K2 (fun j3 => ⟨[(6, .osl 24)], [(24, .arr false 5 1 e_u8 j3)], []⟩) ?_ (fun j3 h => ?_)
  · conv => cbv
    refine den_loop' (slices_Concat_sbyte_byte_L1 y0) h (fun a4 => ⟨[(6, .osl 24), (25, .sl 1 (e_sl 1 e_u8) y0), (26, .int .i64 (.len y0)), (27, .int .i64 (.v a4.1))], [(24, .arr false 5 1 e_u8 a4.2)], []⟩) (fun _ _ a4 x1 h hb1 hx1 => ?_)
    unfold slices_Concat_sbyte_byte_L1 at h
    conv => cbv
    refine den_br h (fun _ h => ?_) (fun _ h => ?_)
    · conv => cbv
      refine den_elem h fun p5 _ h => ?_
      conv => cbv
      refine den_app_own e_u8 (xs := p5) h rfl (News.map rfl) fun l6 _ h => ?_
      conv => cbv
      exact den_back' h hb1
    conv => cbv
    replace h := den_out h hx1
    exact den_join' h
  unfold slices_Concat_sbyte_byte_K2 at h
  conv => cbv
  refine .mk [(24, 20000, false)] [] rfl rfl ?_ ?_
  · conv => cbv
    cases h
    exact lp
  · conv => cbv
    cases h
    exact lp
def T_tags_full : Tab := [(27, ⟨.slice 5, 1, 24, [.nilsl]⟩)]
theorem T_tags_full_ok : TabOk Tryd.prog T_tags_full := tab_ok [27]
theorem v_tags_full {y0 : List Int} {r : (List Int) × Int} (h : tags_full y0 = some r) : AVal Tryd.prog Gl 40 [(e_sl 1 e_u8) y0] (.tup [(e_sl 1 e_u8) r.1, e_i64 r.2]) := by
  refine aval_of' T_tags_full Gl 8 Tryd.func40 T_tags_full_ok Tryd_mixed fun P hP _ => ?_
  unfold tags_full at h
  conv => cbv
  refine den_br h (fun _ h => ?_) (fun _ h => ?_)
  · conv => cbv
    cases h
    exact .tup _ _ lp
  conv => cbv
  cases h
  exact .tup _ _ lp
def T_tags_Comments_Write : Tab := [(5, ⟨.int .u8, 1, 1, [.int .u8 (.lit 0)]⟩), (9, ⟨.str, 1, 16, [.str (.lit [])]⟩), (22, ⟨.slice 9, 1, 24, [.nilsl]⟩), (24, ⟨.struct [(0, 9), (1, 22)], 2, 40, [.str (.lit []), .nilsl]⟩), (27, ⟨.slice 5, 1, 24, [.nilsl]⟩), (112, ⟨.slice 27, 1, 24, [.nilsl]⟩)]
theorem T_tags_Comments_Write_ok : TabOk Tryd.prog T_tags_Comments_Write := tab_ok [5, 9, 22, 24, 27, 112]
theorem v_tags_Comments_Write {y0 : tags_Comments} {r : (List Int) × Int} (h : tags_Comments_Write y0 = some r) : AVal Tryd.prog Gl 11 [e_tags_Comments y0] (.tup [(e_sl 1 e_u8) r.1, e_i64 r.2]) := by
  refine aval_of' T_tags_Comments_Write Gl 48 Tryd.func11 T_tags_Comments_Write_ok Tryd_mixed fun P hP _ => ?_
  unfold tags_Comments_Write at h
  conv => cbv
  refine .own ?_
  conv => cbv
  refine den_call' hP h (fun _ h => v_unicode_utf8_ValidString h) fun r1 _ h => ?_
  conv => cbv
  refine .mk ?_
  conv => cbv
  refine den_br h (fun _ h => ?_) (fun _ h => ?_)
  · conv => cbv
    cases h
    exact .tup _ _ lp
  conv => cbv
  refine den_call' hP h (fun _ h => v_slices_ContainsFunc_sstring_string _ (fun _ _ h => v_tags_Comments_Write_c1 h) h) fun r2 _ h => ?_
  conv => cbv
  refine den_br h (fun _ h => ?_) (fun _ h => ?_)
  · conv => cbv
    cases h
    exact .tup _ _ lp
  conv => cbv
  refine den_cut' (r := r) (tags_Comments_Write_K1 y0) (fun j3 => ⟨[(1, .ptr 1 0), (4, .osl 28)], [(1, .var [.str (.v y0.Vendor), .sl 1 e_str y0.L]), (28, .arr false 5 1 e_u8 j3)], []⟩) ?_ (fun j3 h => ?_)
  · conv => cbv
    refine .mk (some [28]) (by kernel_rfl) ?_
    conv => cbv
    refine .mk ?_
    conv => cbv
    refine ⟨?_, ?_⟩
    · refine den_call' hP h (fun _ h => v_tags_low h) fun r11 _ h => ?_
      conv => cbv
      refine ⟨?_, ?_⟩
      · refine den_bytes (fun l12 => ((tags_low (y0.L.length : Int)).bind fun r13 => (slices_Concat_sbyte_byte [r11, l12, r13]).bind fun r14 => tags_Comments_Write_K1 y0 r14)) h fun l12 _ h => ?_
        conv => cbv
        refine den_call' hP h (fun _ h => v_tags_low h) fun r13 _ h => ?_
        conv => cbv
        refine .mk ?_
        conv => cbv
        refine .data ?_
        conv => cbv
        refine den_own' (hl := (.cons _ _ _ _ (.sls (.cons _ _ _ _ (VEq.of_lepl (.cons _ _ _ _ (.same _) .nil) rfl) (.cons _ _ _ _ (VEq.of_lepl (.cons _ _ _ _ (.same _) .nil) rfl) (.cons _ _ _ _ (VEq.of_lepl (.cons _ _ _ _ (.same _) .nil) rfl) .nil)))) .nil)) (ho := True.intro) [(28, 20000, true)] [] hP h (fun _ h => w_slices_Concat_sbyte_byte h) fun r14 _ h => ?_
        conv => cbv
        exact den_join' h
      · refine den_call' hP h (fun _ h => v_tags_low h) fun r15 _ h => ?_
        conv => cbv
        refine den_bytes (fun l16 => ((slices_Concat_sbyte_byte [r11, l16, r15]).bind fun r17 => tags_Comments_Write_K1 y0 r17)) h fun l16 _ h => ?_
        conv => cbv
        refine .mk ?_
        conv => cbv
        refine .data ?_
        conv => cbv
        refine den_own' (hl := (.cons _ _ _ _ (.sls (.cons _ _ _ _ (VEq.of_lepl (.cons _ _ _ _ (.same _) .nil) rfl) (.cons _ _ _ _ (VEq.of_lepl (.cons _ _ _ _ (.same _) .nil) rfl) (.cons _ _ _ _ (VEq.of_lepl (.cons _ _ _ _ (.same _) .nil) rfl) .nil)))) .nil)) (ho := True.intro) [(28, 20000, true)] [] hP h (fun _ h => w_slices_Concat_sbyte_byte h) fun r17 _ h => ?_
        conv => cbv
        exact den_join' h
    · refine den_bytes (fun l18 => ((tags_low (y0.Vendor.length : Int)).bind fun r19 => (tags_low (y0.L.length : Int)).bind fun r20 => (slices_Concat_sbyte_byte [r19, l18, r20]).bind fun r21 => tags_Comments_Write_K1 y0 r21)) h fun l18 _ h => ?_
      conv => cbv
      refine den_call' hP h (fun _ h => v_tags_low h) fun r19 _ h => ?_
      conv => cbv
      refine den_call' hP h (fun _ h => v_tags_low h) fun r20 _ h => ?_
      conv => cbv
      refine .mk ?_
      conv => cbv
      refine .data ?_
      conv => cbv
      refine den_own' (hl := (.cons _ _ _ _ (.sls (.cons _ _ _ _ (VEq.of_lepl (.cons _ _ _ _ (.same _) .nil) rfl) (.cons _ _ _ _ (VEq.of_lepl (.cons _ _ _ _ (.same _) .nil) rfl) (.cons _ _ _ _ (VEq.of_lepl (.cons _ _ _ _ (.same _) .nil) rfl) .nil)))) .nil)) (ho := True.intro) [(28, 20000, true)] [] hP h (fun _ h => w_slices_Concat_sbyte_byte h) fun r21 _ h => ?_
      conv => cbv
      exact den_join' h
  unfold tags_Comments_Write_K1 at h
  conv => cbv
  refine den_cut' (r := r) tags_Comments_Write_K2 (fun j4 => ⟨[(4, .osl 28)], [(28, .arr false 5 1 e_u8 j4)], []⟩) ?_ (fun j4 h => ?_)
  · conv => cbv
    refine den_loop' (tags_Comments_Write_L1 y0) h (fun a6 => ⟨[(4, .osl 28), (30, .sl 1 e_str y0.L), (31, .int .i64 (.len y0.L)), (32, .int .i64 (.v a6.1))], [(28, .arr false 5 1 e_u8 a6.2)], []⟩) (fun _ _ a6 x1 h hb1 hx1 => ?_)
    unfold tags_Comments_Write_L1 at h
    conv => cbv
    refine den_br h (fun _ h => ?_) (fun _ h => ?_)
    · conv => cbv
      refine den_elem h fun p7 _ h => ?_
      conv => cbv
      refine .mk ?_
      conv => cbv
      refine den_call' hP h (fun _ h => v_tags_low h) fun r8 _ h => ?_
      conv => cbv
      refine den_app_own e_u8 (xs := r8) h rfl (News.map rfl) fun l9 _ h => ?_
      conv => cbv
      refine den_app_own e_u8 (xs := (bytesI p7)) h rfl (News.map (by first | rfl | (cases p7 <;> rfl))) fun l10 _ h => ?_
      conv => cbv
      exact den_back' h hb1
    conv => cbv
    replace h := den_out h hx1
    exact den_join' h
  unfold tags_Comments_Write_K2 at h
  conv => cbv
  refine .mk ?_
  conv => cbv
  refine den_call' hP h (fun _ h => v_tags_full h) fun r5 _ h => ?_
  conv => cbv
  cases h
  exact lp
def T_jetsamlaw11_Bytes : Tab := [(5, ⟨.int .u8, 1, 1, [.int .u8 (.lit 0)]⟩), (27, ⟨.slice 5, 1, 24, [.nilsl]⟩)]
theorem T_jetsamlaw11_Bytes_ok : TabOk Tryd.prog T_jetsamlaw11_Bytes := tab_ok [5, 27]
theorem v_jetsamlaw11_Bytes {y0 : List Int} {y1 : List Int} {r : Bool} (h : jetsamlaw11_Bytes y0 y1 = some r) : AVal Tryd.prog Gl 18 [(e_sl 1 e_u8) y0, (e_sl 1 e_u8) y1] (e_bool r) := by
  refine aval_of' T_jetsamlaw11_Bytes Gl 26 Tryd.func18 T_jetsamlaw11_Bytes_ok Tryd_mixed fun P hP _ => ?_
  unfold jetsamlaw11_Bytes at h
  conv => cbv
  refine den_br h (fun _ h => ?_) (fun _ h => ?_)
  · conv => cbv
    cases h
    exact lp
  conv => cbv
  refine den_cut' (r := r) jetsamlaw11_Bytes_K1 (fun j1 => ⟨[], [], []⟩) ?_ (fun j1 h => ?_)
  · conv => cbv
    refine den_loop' (jetsamlaw11_Bytes_L1 y0 y1) h (fun a2 => ⟨[(0, .sl 1 e_u8 y0), (1, .sl 1 e_u8 y1), (5, .int .i64 (.v a2))], [], []⟩) (fun _ _ a2 x1 h hb1 hx1 => ?_)
    unfold jetsamlaw11_Bytes_L1 at h
    conv => cbv
    refine den_br h (fun _ h => ?_) (fun _ h => ?_)
    · conv => cbv
      refine .dup ?_
      conv => cbv
      refine .mk (some []) (by kernel_rfl) ?_
      conv => cbv
      refine den_elem h fun p3 _ h => ?_
      conv => cbv
      refine .mk ?_
      conv => cbv
      refine den_elem h fun p4 _ h => ?_
      conv => cbv
      refine den_br h (fun _ h => ?_) (fun _ h => ?_)
      · conv => cbv
        replace h := den_out h hx1
        cases h
        exact lp
      conv => cbv
      exact den_back' h hb1
    conv => cbv
    replace h := den_out h hx1
    exact den_join' h
  unfold jetsamlaw11_Bytes_K1 at h
  conv => cbv
  cases h
  exact lp
def T_tags_small_c1 : Tab := []
theorem T_tags_small_c1_ok : TabOk Tryd.prog T_tags_small_c1 := tab_ok []
theorem v_tags_small_c1 {y0 : Int} {r : Int} (h : tags_small_c1 y0 = some r) : AVal Tryd.prog Gl 73 [e_i32 y0] (e_i32 r) := by
  refine aval_of' T_tags_small_c1 Gl 13 Tryd.func73 T_tags_small_c1_ok Tryd_mixed fun P hP _ => ?_
  unfold tags_small_c1 at h
  conv => cbv
  refine .mk ?_
  conv => cbv
  refine den_br h (fun _ h => ?_) (fun _ h => ?_)
  · conv => cbv
    cases h
    exact lp
  conv => cbv
  cases h
  exact lp
theorem gl_first : ∀ c, c < 256 → ∃ cs, glook Gl 0 = some cs ∧ cs[c]? = some (.int .u8 (.lit (Lib.firstT c))) := by
  have h : ((List.range 256).all fun c => decide ((((glook Gl 0).getD [])[c]?.map fun v => match v with | .int .u8 (.lit n) => n | _ => -1) = some ((Lib.firstT c : Nat) : Int))) = true := by kernel_rfl
  intro c hc
  have h1 := of_decide_eq_true (List.all_eq_true.1 h c (List.mem_range.2 hc))
  refine ⟨(glook Gl 0).getD [], rfl, ?_⟩
  cases e : ((glook Gl 0).getD [])[c]? with
  | none => rw [e] at h1; cases h1
  | some v =>
    rw [e] at h1
    simp only [Option.map_some, Option.some.injEq] at h1
    split at h1
    · rw [h1]
    · have := Int.natCast_nonneg (Lib.firstT c); omega
theorem gl_acc : ∀ i, i < 16 → ∃ cs, glook Gl 1 = some cs ∧ cs[2 * i]? = some (.int .u8 (.lit (Lib.accLo i))) ∧ cs[2 * i + 1]? = some (.int .u8 (.lit (Lib.accHi i))) := by
  have h : ((List.range 16).all fun c => decide ((((glook Gl 1).getD [])[2 * c]?.map fun v => match v with | .int .u8 (.lit n) => n | _ => -1) = some ((Lib.accLo c : Nat) : Int) ∧ (((glook Gl 1).getD [])[2 * c + 1]?.map fun v => match v with | .int .u8 (.lit n) => n | _ => -1) = some ((Lib.accHi c : Nat) : Int))) = true := by kernel_rfl
  intro c hc
  obtain ⟨h1, h2⟩ := of_decide_eq_true (List.all_eq_true.1 h c (List.mem_range.2 hc))
  have go : ∀ (j : Nat) (n : Nat), (((glook Gl 1).getD [])[j]?.map fun v => match v with | .int .u8 (.lit n) => n | _ => -1) = some (n : Int) → ((glook Gl 1).getD [])[j]? = some (.int .u8 (.lit n)) := fun j n h1 => by
    cases e : ((glook Gl 1).getD [])[j]? with
    | none => rw [e] at h1; cases h1
    | some v =>
      rw [e] at h1
      simp only [Option.map_some, Option.some.injEq] at h1
      split at h1
      · rw [h1]
      · omega
  exact ⟨(glook Gl 1).getD [], rfl, go _ _ h1, go _ _ h2⟩
theorem glb_cell {G : Glb} {w : World} {F : Nat → Prop} {g j : Nat} {cs : List V} {k : IntKind} {n : Int} (h : GlbOk G w F) (hg : glook G g = some cs) (hj : cs[j]? = some (.int k (.lit n))) : w.cell? ⟨g, j, none⟩ = some (.int k n) := by
  have hd := h.ok g cs hg
  generalize hp : Value.pointer (some ⟨g, 0, none⟩) = p at hd
  generalize hq : V.rptr cs = q at hd
  cases hd with
  | rptr a xs hs hF hb cv hone hcv hr =>
    cases hq
    injection hp with hp
    injection hp with hp
    subst hp
    have e := (RA.of_int (RA.d (β := fun _ => none) (o := []) _ _ (hr j _ hj))).1
    have := hcv j _ hj
    simpa [e, IE.den] using this
  | _ => first | (cases hq; done) | (cases hp; done)
theorem utf8_tabs {w : World} {F : Nat → Prop} (h : GlbOk Gl w F) : Lib.Utf8Tabs 0 1 w := by
  refine ⟨fun c hc => ?_, fun i hi => ?_⟩
  · obtain ⟨cs, h1, h2⟩ := gl_first c hc
    exact glb_cell h h1 h2
  · obtain ⟨cs, h1, h2, h3⟩ := gl_acc i hi
    exact ⟨glb_cell h h1 h2, glb_cell h h1 h3⟩
def smf (x : Int) : Int := if 65 ≤ x ∧ x ≤ 90 then x + 32 else x
theorem small_c1 (x : Int) : tags_small_c1 x = some (smf x) := by
  unfold tags_small_c1 smf
  by_cases h : 65 ≤ x ∧ x ≤ 90
  · have e1 : IntKind.i32.wrap (x + 97) = x + 97 := wrap_id ((has_iff _ _).2 (by simp only [lo, hi]; omega))
    have e2 : IntKind.i32.wrap (x + 97 - 65) = x + 97 - 65 := wrap_id ((has_iff _ _).2 (by simp only [lo, hi]; omega))
    rw [e1, e2, if_pos h, if_pos (by simp [h.1, h.2])]
    congr 1
    omega
  · rw [if_neg h, if_neg (by simp only [ge_iff_le, decide_eq_true_eq]; split <;> simp_all)]
theorem mapD_small : ∀ (l : List UInt8), l.all (fun b => decide (b.toNat < 128)) = true → Lib.mapD smf l = l.map foldB
  | [], _ => rfl
  | b :: t, h => by
    rw [List.all_cons, Bool.and_eq_true] at h
    have hb : b.toNat < 128 := by simpa using h.1
    rw [Lib.mapD_step smf (b :: t) (by simp), show Lib.decodeL (b :: t) = (b.toNat, 1) from by rw [Lib.decodeL_N]; exact Lib.decodeN_ascii _ _ _ _ _ hb]
    simp only [List.drop_succ_cons, List.drop_zero, List.map_cons]
    rw [mapD_small t h.2]
    have h0 : 0 ≤ smf b.toNat ∧ smf b.toNat ≤ 127 := by unfold smf; split <;> omega
    rw [if_pos h0.1, Lib.encodeRune, Lib.encodeRuneZ_one h0.1 h0.2]
    simp only [List.map_cons, List.map_nil, List.singleton_append, List.cons.injEq, and_true]
    unfold smf foldB
    by_cases hc : 65 ≤ b.toNat ∧ b.toNat ≤ 90
    · rw [if_pos hc, if_pos (by omega)]
      apply UInt8.toNat_inj.1
      have e : ((b.toNat : Int) + 32).toNat = b.toNat + 32 := by omega
      rw [e]
      simp
    · rw [if_neg hc, if_neg (by omega)]
      simp
theorem v_mapSmall {s r : List UInt8} (h : mapSmallF tags_small_c1 s = some r) : AVal Tryd.prog Gl 72 [.fn 73 [] [], .str (.v s)] (.str (.v r)) := by
  unfold mapSmallF at h
  split at h
  case isFalse => cases h
  rename_i hc
  cases h
  refine aval_of_calls_g (vs0 := #[.func (.func 73) #[] #[], .string ⟨s.toArray⟩]) (v := .string ⟨(s.map foldB).toArray⟩) Tryd.func72 rfl rfl (fun w F β vs h1 h2 => ?_) (fun w F hG => ?_) (fun w F => .str _ _ rfl ?_)
  · have hl2 : vs.size = 2 := by simpa using h1
    have g0 : vs[0]? = some (vs[0]'(by omega)) := Array.getElem?_eq_getElem (by omega)
    have g1 : vs[1]? = some (vs[1]'(by omega)) := Array.getElem?_eq_getElem (by omega)
    have e0 : vs[0]'(by omega) = .func (.func 73) #[] #[] := by
      have r0 := h2 0 _ _ g0 rfl
      obtain ⟨fs, cs, e, hf, hcs, _⟩ := RA.of_fn r0
      rw [e, Array.eq_empty_of_size_eq_zero hf, Array.eq_empty_of_size_eq_zero hcs]
    have e1 := (RA.of_str (h2 1 _ _ g1 rfl)).1
    apply Array.ext
    · simpa using hl2
    · intro i h1' h2'
      simp at h2'
      match i, h2' with
      | 0, _ => simpa using e0
      | 1, _ => exact e1
  · have hm := Tryd.strings_Map_grows 73 #[] (enters_of Tryd.func73 (by kernel_rfl) rfl) smf ⟨s.toArray⟩ w (by simpa [ByteArray.size] using hc.2) (fun W x hx hb => ?_) (fun x hx => by unfold smf; split <;> omega) (utf8_tabs hG)
    · refine hm.mono ?_
      rintro e w' ⟨rfl, hb⟩
      refine ⟨?_, keep_below rfl hb⟩
      rw [show (⟨s.toArray⟩ : ByteArray).data.toList = s from rfl, mapD_small s hc.1]
    · refine ((v_tags_small_c1 (small_c1 x)).calls rfl (glb_later rfl hG hb) rfl (fun i v y h1 h2 => ?_)).mono ?_
      · match i, h1, h2 with
        | 0, h1, h2 =>
          cases h1; cases h2
          exact .int _ _ _ rfl ((has_iff _ _).2 (by simp only [lo, hi]; omega))
        | i + 1, h1, _ => simp at h1
      · rintro e w' ⟨v, F', rfl, h3, h4, _⟩
        obtain ⟨rfl, _⟩ := RA.of_int (RA.d (β := fun _ => none) (o := []) _ _ h4)
        exact ⟨rfl, h3⟩
  · have : LIM = 9223372036854775807 := rfl
    simp only [SE.den, List.length_map]
    omega
def T_tags_small : Tab := []
theorem T_tags_small_ok : TabOk Tryd.prog T_tags_small := tab_ok []
theorem v_tags_small {y0 : List UInt8} {r : List UInt8} (h : tags_small y0 = some r) : AVal Tryd.prog Gl 45 [e_str y0] (e_str r) := by
  refine aval_of' T_tags_small Gl 5 Tryd.func45 T_tags_small_ok Tryd_mixed fun P hP _ => ?_
  unfold tags_small at h
  conv => cbv
  refine den_call' hP h (fun _ h => v_mapSmall h) fun r1 _ h => ?_
  conv => cbv
  cases h
  exact lp
def T_tags_Comments_Get : Tab := [(9, ⟨.str, 1, 16, [.str (.lit [])]⟩), (22, ⟨.slice 9, 1, 24, [.nilsl]⟩), (24, ⟨.struct [(0, 9), (1, 22)], 2, 40, [.str (.lit []), .nilsl]⟩)]
theorem T_tags_Comments_Get_ok : TabOk Tryd.prog T_tags_Comments_Get := tab_ok [9, 22, 24]
theorem v_tags_Comments_Get {y0 : tags_Comments} {y1 : List UInt8} {r : List (List UInt8)} (h : tags_Comments_Get y0 y1 = some r) : AVal Tryd.prog Gl 16 [e_tags_Comments y0, e_str y1] ((e_sl 1 e_str) r) := by
  refine aval_of' T_tags_Comments_Get Gl 38 Tryd.func16 T_tags_Comments_Get_ok Tryd_mixed fun P hP _ => ?_
  unfold tags_Comments_Get at h
  conv => cbv
  refine .own ?_
  conv => cbv
  refine den_cut' (r := r) tags_Comments_Get_K1 (fun j1 => ⟨[(5, .osl 1005)], [(1005, .arr false 9 1 e_str j1)], []⟩) ?_ (fun j1 h => ?_)
  · conv => cbv
    refine den_loop (tags_Comments_Get_L1 y0 y1) h (fun a2 : Int × (List (List UInt8)) => ⟨[(1, .str (.v y1)), (5, .osl 1005), (12, .sl 1 e_str y0.L), (13, .int .i64 (.len y0.L)), (14, .int .i64 (.v a2.1))], [(1005, .arr false 9 1 e_str a2.2)], []⟩) ?_ (fun _ _ a2 x1 h hb1 hx1 => ?_)
    · intro j0 hj
      conv => cbv
      subst hj
      exact ⟨⟨.arr _ _ _ _ _ _ rfl, trivial⟩, .same _, .own _ _ _ _ _ _ rfl rfl, .same _, .same _, .int _ _ _ rfl, trivial⟩
    unfold tags_Comments_Get_L1 at h
    conv => cbv
    refine den_br h (fun _ h => ?_) (fun _ h => ?_)
    · conv => cbv
      refine den_cut' (r := x1) (tags_Comments_Get_K2 a2) (fun j3 => ⟨[(1, .str (.v y1)), (5, .osl 1005), (12, .sl 1 e_str y0.L), (13, .int .i64 (.len y0.L)), (14, .int .i64 (.v a2.1))], [(1005, .arr false 9 1 e_str j3)], []⟩) ?_ (fun j3 h => ?_)
      · conv => cbv
        refine den_elem h fun p4 _ h => ?_
        conv => cbv
        refine den_call' hP h (fun _ h => v_strings_Cut h) fun r5 _ h => ?_
        conv => cbv
        refine .mk ?_
        conv => cbv
        refine .mk ?_
        conv => cbv
        refine den_br h (fun _ h => ?_) (fun _ h => ?_)
        · conv => cbv
          refine den_call' hP h (fun _ h => v_tags_small h) fun r6 _ h => ?_
          conv => cbv
          refine den_call' hP h (fun _ h => v_tags_small h) fun r7 _ h => ?_
          conv => cbv
          refine den_br h (fun _ h => ?_) (fun _ h => ?_)
          · conv => cbv
            refine .data ?_
            conv => cbv
            refine den_app_own e_str (xs := [r5.2.1]) h rfl lp fun l8 _ h => ?_
            conv => cbv
            exact den_join' h
          conv => cbv
          exact den_join' h
        conv => cbv
        exact den_join' h
      unfold tags_Comments_Get_K2 at h
      conv => cbv
      exact den_back' h hb1
    conv => cbv
    replace h := den_out h hx1
    exact den_join' h
  unfold tags_Comments_Get_K1 at h
  conv => cbv
  cases h
  exact lp
def T_jetsamlaw13_texts : Tab := [(9, ⟨.str, 1, 16, [.str (.lit [])]⟩), (22, ⟨.slice 9, 1, 24, [.nilsl]⟩)]
theorem T_jetsamlaw13_texts_ok : TabOk Tryd.prog T_jetsamlaw13_texts := tab_ok [9, 22]
theorem v_jetsamlaw13_texts {y0 : List (List UInt8)} {y1 : List (List UInt8)} {r : Bool} (h : jetsamlaw13_texts y0 y1 = some r) : AVal Tryd.prog Gl 15 [(e_sl 1 e_str) y0, (e_sl 1 e_str) y1] (e_bool r) := by
  refine aval_of' T_jetsamlaw13_texts Gl 26 Tryd.func15 T_jetsamlaw13_texts_ok Tryd_mixed fun P hP _ => ?_
  unfold jetsamlaw13_texts at h
  conv => cbv
  refine den_br h (fun _ h => ?_) (fun _ h => ?_)
  · conv => cbv
    cases h
    exact lp
  conv => cbv
  refine den_cut' (r := r) jetsamlaw13_texts_K1 (fun j1 => ⟨[], [], []⟩) ?_ (fun j1 h => ?_)
  · conv => cbv
    refine den_loop' (jetsamlaw13_texts_L1 y0 y1) h (fun a2 => ⟨[(0, .sl 1 e_str y0), (1, .sl 1 e_str y1), (5, .int .i64 (.v a2))], [], []⟩) (fun _ _ a2 x1 h hb1 hx1 => ?_)
    unfold jetsamlaw13_texts_L1 at h
    conv => cbv
    refine den_br h (fun _ h => ?_) (fun _ h => ?_)
    · conv => cbv
      refine .dup ?_
      conv => cbv
      refine .mk (some []) (by kernel_rfl) ?_
      conv => cbv
      refine den_elem h fun p3 _ h => ?_
      conv => cbv
      refine .mk ?_
      conv => cbv
      refine den_elem h fun p4 _ h => ?_
      conv => cbv
      refine den_br h (fun _ h => ?_) (fun _ h => ?_)
      · conv => cbv
        replace h := den_out h hx1
        cases h
        exact lp
      conv => cbv
      exact den_back' h hb1
    conv => cbv
    replace h := den_out h hx1
    exact den_join' h
  unfold jetsamlaw13_texts_K1 at h
  conv => cbv
  cases h
  exact lp
def T_jetsamlaw13_awake : Tab := [(5, ⟨.int .u8, 1, 1, [.int .u8 (.lit 0)]⟩), (9, ⟨.str, 1, 16, [.str (.lit [])]⟩), (22, ⟨.slice 9, 1, 24, [.nilsl]⟩), (24, ⟨.struct [(0, 9), (1, 22)], 2, 40, [.str (.lit []), .nilsl]⟩), (27, ⟨.slice 5, 1, 24, [.nilsl]⟩)]
theorem T_jetsamlaw13_awake_ok : TabOk Tryd.prog T_jetsamlaw13_awake := tab_ok [5, 9, 22, 24, 27]
theorem v_jetsamlaw13_awake {r : Bool} (h : jetsamlaw13_awake = some r) : AVal Tryd.prog Gl 10 [] (e_bool r) := by
  refine aval_of' T_jetsamlaw13_awake Gl 24 Tryd.func10 T_jetsamlaw13_awake_ok Tryd_mixed fun P hP _ => ?_
  unfold jetsamlaw13_awake at h
  conv => cbv
  refine .data ?_
  conv => cbv
  refine .mk ?_
  conv => cbv
  refine den_call' hP h (fun _ h => v_tags_Comments_Write h) fun r1 _ h => ?_
  conv => cbv
  refine .mk ?_
  conv => cbv
  refine den_br h (fun _ h => ?_) (fun _ h => ?_)
  · conv => cbv
    refine .data ?_
    conv => cbv
    refine den_call' hP h (fun _ h => v_jetsamlaw11_Bytes h) fun r2 _ h => ?_
    conv => cbv
    refine .mk ?_
    conv => cbv
    refine den_br h (fun _ h => ?_) (fun _ h => ?_)
    · conv => cbv
      refine den_call' hP h (fun _ h => v_tags_Comments_Get h) fun r3 _ h => ?_
      conv => cbv
      refine .data ?_
      conv => cbv
      refine den_call' hP h (fun _ h => v_jetsamlaw13_texts h) fun r4 _ h => ?_
      conv => cbv
      cases h
      exact lp
    conv => cbv
    cases h
    exact lp
  conv => cbv
  refine .mk ?_
  conv => cbv
  cases h
  exact lp
def T_jetsamlaw13_plain : Tab := [(3, ⟨.int .i64, 1, 8, [.int .i64 (.lit 0)]⟩), (4, ⟨.bool, 1, 1, [.bool (.lit false)]⟩), (9, ⟨.str, 1, 16, [.str (.lit [])]⟩), (55, ⟨.slice 92, 1, 24, [.nilsl]⟩), (57, ⟨.struct [(0, 9), (1, 3), (2, 4), (3, 55)], 4, 56, [.str (.lit []), .int .i64 (.lit 0), .bool (.lit false), .nilsl]⟩), (59, ⟨.slice 95, 1, 24, [.nilsl]⟩), (90, ⟨.slice 97, 1, 24, [.nilsl]⟩), (92, ⟨.struct [(0, 3), (1, 3), (2, 9), (3, 4), (4, 4), (5, 90)], 6, 64, [.int .i64 (.lit 0), .int .i64 (.lit 0), .str (.lit []), .bool (.lit false), .bool (.lit false), .nilsl]⟩), (93, ⟨.slice 98, 1, 24, [.nilsl]⟩), (95, ⟨.struct [(0, 3), (1, 3), (2, 3), (3, 9), (4, 93)], 5, 64, [.int .i64 (.lit 0), .int .i64 (.lit 0), .int .i64 (.lit 0), .str (.lit []), .nilsl]⟩), (97, ⟨.struct [(0, 3), (1, 3)], 2, 16, [.int .i64 (.lit 0), .int .i64 (.lit 0)]⟩), (98, ⟨.arr 2 3, 2, 16, [.int .i64 (.lit 0), .int .i64 (.lit 0)]⟩)]
theorem T_jetsamlaw13_plain_ok : TabOk Tryd.prog T_jetsamlaw13_plain := tab_ok [3, 4, 9, 55, 57, 59, 90, 92, 93, 95, 97, 98]
theorem v_jetsamlaw13_plain {y0 : tags_Cue} {r : List jetsamref13_Track} (h : jetsamlaw13_plain y0 = some r) : AVal Tryd.prog Gl 27 [e_tags_Cue y0] ((e_sl 5 e_jetsamref13_Track) r) := by
  refine aval_of' T_jetsamlaw13_plain Gl 66 Tryd.func27 T_jetsamlaw13_plain_ok Tryd_mixed fun P hP _ => ?_
  unfold jetsamlaw13_plain at h
  conv => cbv
  refine .own ?_
  conv => cbv
  refine den_cut' (r := r) jetsamlaw13_plain_K1 (fun j1 => ⟨[(3, .osl 1003)], [(1003, .arr false 95 5 e_jetsamref13_Track j1)], []⟩) ?_ (fun j1 h => ?_)
  · conv => cbv
    refine den_loop (jetsamlaw13_plain_L1 y0) h (fun a2 : Int × (List jetsamref13_Track) => ⟨[(1, .ptr 1 0), (3, .osl 1003), (4, .int .i64 (.v a2.1))], [(1, .var [.str (.v y0.Catalog), .int .i64 (.v y0.Lead), .bool (.v y0.Disc), .sl 6 e_tags_Track y0.L]), (1003, .arr false 95 5 e_jetsamref13_Track a2.2)], []⟩) ?_ (fun _ _ a2 x1 h hb1 hx1 => ?_)
    · intro j0 hj
      conv => cbv
      subst hj
      exact ⟨⟨.same _, .arr _ _ _ _ _ _ rfl, trivial⟩, .same _, .own _ _ _ _ _ _ rfl rfl, .int _ _ _ rfl, trivial⟩
    unfold jetsamlaw13_plain_L1 at h
    conv => cbv
    refine den_br h (fun _ h => ?_) (fun _ h => ?_)
    · conv => cbv
      refine den_cut' (r := x1) (jetsamlaw13_plain_K2 a2) (fun j3 => ⟨[(1, .ptr 1 0), (3, .osl 1003), (4, .int .i64 (.v a2.1))], [(1, .var [.str (.v y0.Catalog), .int .i64 (.v y0.Lead), .bool (.v y0.Disc), .sl 6 e_tags_Track y0.L]), (1003, .arr false 95 5 e_jetsamref13_Track j3)], []⟩) ?_ (fun j3 h => ?_)
      · conv => cbv
        refine .mk ?_
        conv => cbv
        refine den_elem h fun p4 _ h => ?_
        conv => cbv
        refine .mk ?_
        conv => cbv
        refine den_cut' (r := x1) (jetsamlaw13_plain_K3 a2 p4) (fun j5 => ⟨[(1, .ptr 1 0), (3, .osl 1003), (4, .int .i64 (.v a2.1)), (5, .ptr 5 0), (6, .ptr 6 0)], [(1, .var [.str (.v y0.Catalog), .int .i64 (.v y0.Lead), .bool (.v y0.Disc), .sl 6 e_tags_Track y0.L]), (5, .var [.int .i64 (.v p4.Offset), .int .i64 (.v p4.Number), .str (.v p4.Code), .bool (.v p4.Data), .bool (.v p4.Pre), .sl 2 e_tags_Index p4.L]), (6, .var [.int .i64 (.v p4.Offset), .int .i64 (.v p4.Number), .int .i64 (.v j5), .str (.v p4.Code), .nilsl]), (1003, .arr false 95 5 e_jetsamref13_Track a2.2)], []⟩) ?_ (fun j5 h => ?_)
        · conv => cbv
          refine den_br h (fun _ h => ?_) (fun _ h => ?_)
          · conv => cbv
            exact den_join' h
          conv => cbv
          exact den_join' h
        unfold jetsamlaw13_plain_K3 at h
        conv => cbv
        refine den_cut' (r := x1) (jetsamlaw13_plain_K4 a2 p4) (fun j6 => ⟨[(1, .ptr 1 0), (3, .osl 1003), (4, .int .i64 (.v a2.1)), (5, .ptr 5 0), (6, .ptr 6 0)], [(1, .var [.str (.v y0.Catalog), .int .i64 (.v y0.Lead), .bool (.v y0.Disc), .sl 6 e_tags_Track y0.L]), (5, .var [.int .i64 (.v p4.Offset), .int .i64 (.v p4.Number), .str (.v p4.Code), .bool (.v p4.Data), .bool (.v p4.Pre), .sl 2 e_tags_Index p4.L]), (6, .var [.int .i64 (.v p4.Offset), .int .i64 (.v p4.Number), .int .i64 (.v j6), .str (.v p4.Code), .nilsl]), (1003, .arr false 95 5 e_jetsamref13_Track a2.2)], []⟩) ?_ (fun j6 h => ?_)
        · conv => cbv
          refine den_br h (fun _ h => ?_) (fun _ h => ?_)
          · conv => cbv
            exact den_join' h
          conv => cbv
          exact den_join' h
        unfold jetsamlaw13_plain_K4 at h
        conv => cbv
        refine den_cut' (r := x1) (jetsamlaw13_plain_K5 a2 p4 j6) (fun j7 => ⟨[(1, .ptr 1 0), (3, .osl 1003), (4, .int .i64 (.v a2.1)), (6, .ptr 6 0)], [(1, .var [.str (.v y0.Catalog), .int .i64 (.v y0.Lead), .bool (.v y0.Disc), .sl 6 e_tags_Track y0.L]), (6, .var [.int .i64 (.v p4.Offset), .int .i64 (.v p4.Number), .int .i64 (.v j6), .str (.v p4.Code), .osl 2076]), (1003, .arr false 95 5 e_jetsamref13_Track a2.2), (2076, .arr false 98 2 (e_arr2 e_i64) j7)], []⟩) ?_ (fun j7 h => ?_)
        · conv => cbv
          refine den_loop (jetsamlaw13_plain_L2 a2 p4 j6) h (fun a9 : Int × (List (Arr2 Int)) => ⟨[(1, .ptr 1 0), (3, .osl 1003), (4, .int .i64 (.v a2.1)), (5, .ptr 5 0), (6, .ptr 6 0), (7, .int .i64 (.v a9.1))], [(1, .var [.str (.v y0.Catalog), .int .i64 (.v y0.Lead), .bool (.v y0.Disc), .sl 6 e_tags_Track y0.L]), (5, .var [.int .i64 (.v p4.Offset), .int .i64 (.v p4.Number), .str (.v p4.Code), .bool (.v p4.Data), .bool (.v p4.Pre), .sl 2 e_tags_Index p4.L]), (6, .var [.int .i64 (.v p4.Offset), .int .i64 (.v p4.Number), .int .i64 (.v j6), .str (.v p4.Code), .osl 2076]), (1003, .arr false 95 5 e_jetsamref13_Track a2.2), (2076, .arr false 98 2 (e_arr2 e_i64) a9.2)], []⟩) ?_ (fun _ _ a9 x2 h hb2 hx2 => ?_)
          · intro j0 hj
            conv => cbv
            subst hj
            exact ⟨⟨.same _, .same _, .var _ _ (.cons _ _ _ _ (.same _) (.cons _ _ _ _ (.same _) (.cons _ _ _ _ (.same _) (.cons _ _ _ _ (.same _) (.cons _ _ _ _ (.own _ _ _ _ _ _ rfl rfl) .nil))))), .same _, .arr _ _ _ _ _ _ rfl, trivial⟩, .same _, .same _, .same _, .same _, .same _, .int _ _ _ rfl, trivial⟩
          unfold jetsamlaw13_plain_L2 at h
          conv => cbv
          refine den_br h (fun _ h => ?_) (fun _ h => ?_)
          · conv => cbv
            refine .mk (some [6, 2076]) (by kernel_rfl) ?_
            conv => cbv
            refine den_elem h fun p10 _ h => ?_
            conv => cbv
            refine .mk ?_
            conv => cbv
            refine den_elem h fun p11 _ h => ?_
            conv => cbv
            refine .mk ?_
            conv => cbv
            refine ⟨?_, ?_⟩
            · refine .data ?_
              conv => cbv
              refine den_app_own (e_arr2 e_i64) (xs := [(⟨p10.Offset, p11.Number⟩ : Arr2 Int)]) h rfl lp fun l12 _ h => ?_
              conv => cbv
              refine .mk ?_
              conv => cbv
              exact den_back' h hb2
            · refine .data ?_
              conv => cbv
              refine den_app_own (e_arr2 e_i64) (xs := [(⟨p10.Offset, p11.Number⟩ : Arr2 Int)]) h rfl lp fun l13 _ h => ?_
              conv => cbv
              refine .mk ?_
              conv => cbv
              exact den_back' h hb2
          conv => cbv
          replace h := den_out h hx2
          exact den_join' h
        unfold jetsamlaw13_plain_K5 at h
        conv => cbv
        refine den_app_own e_jetsamref13_Track (xs := [(⟨p4.Offset, p4.Number, j6, p4.Code, j7⟩ : jetsamref13_Track)]) h rfl lp fun l8 _ h => ?_
        conv => cbv
        exact den_join' h
      unfold jetsamlaw13_plain_K2 at h
      conv => cbv
      exact den_back' h hb1
    conv => cbv
    replace h := den_out h hx1
    exact den_join' h
  unfold jetsamlaw13_plain_K1 at h
  conv => cbv
  cases h
  exact lp
def Tx_tags_within_c1 : Tab := [(3, ⟨.int .i64, 1, 8, [.int .i64 (.lit 0)]⟩)]
theorem Tx_tags_within_c1_ok : TabOk Tryd.prog Tx_tags_within_c1 := tab_ok [3]
theorem x_tags_within_c1 {y0 : Int} {y1 : Int} {y2 : Int} {r : Unit} (h : tags_within_c1 y0 y1 y2 = some r) : ACalls Tryd.prog Gl 78 [e_i64 y0, .ptr 10000 0, .ptr 10001 0] [(10000, .var [.int .i64 (.v y1)]), (10001, .var [.int .i64 (.v y2)])] (fun x o' => x = .bool (.ite (.cmp .lss (.v y0) (.v y1)) (.lit true) (.cmp .gtr (.v y0) (.v y2))) ∧ o' = [(10000, .var [.int .i64 (.v y1)]), (10001, .var [.int .i64 (.v y2)])]) := by
  refine acalls_of' Tx_tags_within_c1 Gl 13 [10000, 10001] Tryd.func78 Tx_tags_within_c1_ok Tryd_mixed fun P hP _ => ?_
  unfold tags_within_c1 at h
  conv => cbv
  refine .mk ?_
  conv => cbv
  refine .mk [(10000, 10000, false), (10001, 10001, false)] [] rfl rfl ?_ ?_
  · conv => cbv
    cases h
    exact lp
  conv => cbv
  cases h
  exact lp
def Tx_slices_IndexFunc_sint_int : Tab := [(3, ⟨.int .i64, 1, 8, [.int .i64 (.lit 0)]⟩), (88, ⟨.slice 3, 1, 24, [.nilsl]⟩)]
theorem Tx_slices_IndexFunc_sint_int_ok : TabOk Tryd.prog Tx_slices_IndexFunc_sint_int := tab_ok [3, 88]
theorem x_slices_IndexFunc_sint_int {y0 : List Int} {y1 : Int} {y2 : Int} {r : Int} (h : slices_IndexFunc_sint_int y0 y1 y2 = some r) : ACalls Tryd.prog Gl 94 [(e_sl 1 e_i64) y0, .fn 78 [] [.ptr 10000 0, .ptr 10001 0]] [(10000, .var [.int .i64 (.v y1)]), (10001, .var [.int .i64 (.v y2)])] (fun x o' => x = .int .i64 (.v r) ∧ o' = [(10000, .var [.int .i64 (.v y1)]), (10001, .var [.int .i64 (.v y2)])]) := by
  refine acalls_of' Tx_slices_IndexFunc_sint_int Gl 19 [10000, 10001] Tryd.func94 Tx_slices_IndexFunc_sint_int_ok Tryd_mixed fun P hP _ => ?_
  unfold slices_IndexFunc_sint_int at h
  conv => cbv
  refine den_cut' (r := r) slices_IndexFunc_sint_int_K1 (fun j1 => ⟨[], [(10000, .var [.int .i64 (.v y1)]), (10001, .var [.int .i64 (.v y2)])], []⟩) ?_ (fun j1 h => ?_)
  · conv => cbv
    refine den_loop' (slices_IndexFunc_sint_int_L1 y0 y1 y2) h (fun a2 => ⟨[(0, .sl 1 e_i64 y0), (1, .fn 78 [] [.ptr 10000 0, .ptr 10001 0]), (7, .int .i64 (.len y0)), (8, .int .i64 (.v a2))], [(10000, .var [.int .i64 (.v y1)]), (10001, .var [.int .i64 (.v y2)])], []⟩) (fun _ _ a2 x1 h hb1 hx1 => ?_)
    unfold slices_IndexFunc_sint_int_L1 at h
    conv => cbv
    refine den_br h (fun _ h => ?_) (fun _ h => ?_)
    · conv => cbv
      refine .mk ?_
      conv => cbv
      refine den_elem h fun p3 _ h => ?_
      conv => cbv
      refine den_own' [(10000, 10000, false), (10001, 10001, false)] [] hP h (fun _ h => x_tags_within_c1 h) fun r4 _ h => ?_
      conv => cbv
      refine den_br h (fun _ h => ?_) (fun _ h => ?_)
      · conv => cbv
        replace h := den_out h hx1
        refine .mk [(10000, 10000, false), (10001, 10001, false)] [] rfl rfl ?_ ?_
        · conv => cbv
          cases h
          exact lp
        conv => cbv
        cases h
        exact lp
      conv => cbv
      exact den_back' h hb1
    conv => cbv
    replace h := den_out h hx1
    exact den_join' h
  unfold slices_IndexFunc_sint_int_K1 at h
  conv => cbv
  refine .mk [(10000, 10000, false), (10001, 10001, false)] [] rfl rfl ?_ ?_
  · conv => cbv
    cases h
    exact lp
  conv => cbv
  cases h
  exact lp
def Tx_slices_ContainsFunc_sint_int : Tab := []
theorem Tx_slices_ContainsFunc_sint_int_ok : TabOk Tryd.prog Tx_slices_ContainsFunc_sint_int := tab_ok []
theorem x_slices_ContainsFunc_sint_int {y0 : List Int} {y1 : Int} {y2 : Int} {r : Bool} (h : slices_ContainsFunc_sint_int y0 y1 y2 = some r) : ACalls Tryd.prog Gl 77 [(e_sl 1 e_i64) y0, .fn 78 [] [.ptr 10000 0, .ptr 10001 0]] [(10000, .var [.int .i64 (.v y1)]), (10001, .var [.int .i64 (.v y2)])] (fun x o' => x = .bool (.v r) ∧ o' = [(10000, .var [.int .i64 (.v y1)]), (10001, .var [.int .i64 (.v y2)])]) := by
  refine acalls_of' Tx_slices_ContainsFunc_sint_int Gl 9 [10000, 10001] Tryd.func77 Tx_slices_ContainsFunc_sint_int_ok Tryd_mixed fun P hP _ => ?_
  unfold slices_ContainsFunc_sint_int at h
  conv => cbv
  refine den_own' [(10000, 10000, false), (10001, 10001, false)] [] hP h (fun _ h => x_slices_IndexFunc_sint_int h) fun r1 _ h => ?_
  conv => cbv
  refine .mk [(10000, 10000, false), (10001, 10001, false)] [] rfl rfl ?_ ?_
  · conv => cbv
    cases h
    exact lp
  conv => cbv
  cases h
  exact lp
def T_tags_within : Tab := []
theorem T_tags_within_ok : TabOk Tryd.prog T_tags_within := tab_ok []
theorem v_tags_within {y0 : Int} {y1 : Int} {y2 : List Int} {r : Bool} (h : tags_within y0 y1 y2 = some r) : AVal Tryd.prog Gl 52 [e_i64 y0, e_i64 y1, (e_sl 1 e_i64) y2] (e_bool r) := by
  refine aval_of' T_tags_within Gl 11 Tryd.func52 T_tags_within_ok Tryd_mixed fun P hP _ => ?_
  unfold tags_within at h
  conv => cbv
  refine .own ?_
  conv => cbv
  refine .own ?_
  conv => cbv
  refine den_own' [(3, 10000, false), (4, 10001, false)] [] hP h (fun _ h => x_slices_ContainsFunc_sint_int h) fun r1 _ h => ?_
  conv => cbv
  cases h
  exact lp
def T_slices_IndexFunc_stags_Index_tags_Index : Tab := [(90, ⟨.slice 97, 1, 24, [.nilsl]⟩), (97, ⟨.struct [(0, 3), (1, 3)], 2, 16, [.int .i64 (.lit 0), .int .i64 (.lit 0)]⟩)]
theorem T_slices_IndexFunc_stags_Index_tags_Index_ok : TabOk Tryd.prog T_slices_IndexFunc_stags_Index_tags_Index := tab_ok [90, 97]
theorem v_slices_IndexFunc_stags_Index_tags_Index {y0 : List tags_Index} {g1 : tags_Index → Option Bool} (fid1 : Nat) (hg1 : ∀ z0 r, g1 z0 = some r → AVal Tryd.prog Gl fid1 [e_tags_Index z0] (e_bool r)) {r : Int} (h : slices_IndexFunc_stags_Index_tags_Index y0 g1 = some r) : AVal Tryd.prog Gl 111 [(e_sl 2 e_tags_Index) y0, (.fn fid1 [] [])] (e_i64 r) := by
  refine aval_of' T_slices_IndexFunc_stags_Index_tags_Index Gl 19 Tryd.func111 T_slices_IndexFunc_stags_Index_tags_Index_ok Tryd_mixed fun P hP _ => ?_
  unfold slices_IndexFunc_stags_Index_tags_Index at h
  conv => cbv
  refine den_cut' (r := r) slices_IndexFunc_stags_Index_tags_Index_K1 (fun j1 => ⟨[], [], []⟩) ?_ (fun j1 h => ?_)
  · conv => cbv
    refine den_loop' (slices_IndexFunc_stags_Index_tags_Index_L1 y0 g1) h (fun a2 => ⟨[(0, .sl 2 e_tags_Index y0), (1, .fn fid1 [] []), (7, .int .i64 (.len y0)), (8, .int .i64 (.v a2))], [], []⟩) (fun _ _ a2 x1 h hb1 hx1 => ?_)
    unfold slices_IndexFunc_stags_Index_tags_Index_L1 at h
    conv => cbv
    refine den_br h (fun _ h => ?_) (fun _ h => ?_)
    · conv => cbv
      refine .mk ?_
      conv => cbv
      refine den_elem h fun p3 _ h => ?_
      conv => cbv
      refine den_call' hP h (fun _ h => hg1 _ _ h) fun r4 _ h => ?_
      conv => cbv
      refine den_br h (fun _ h => ?_) (fun _ h => ?_)
      · conv => cbv
        replace h := den_out h hx1
        cases h
        exact lp
      conv => cbv
      exact den_back' h hb1
    conv => cbv
    replace h := den_out h hx1
    exact den_join' h
  unfold slices_IndexFunc_stags_Index_tags_Index_K1 at h
  conv => cbv
  cases h
  exact lp
def T_slices_ContainsFunc_stags_Index_tags_Index : Tab := []
theorem T_slices_ContainsFunc_stags_Index_tags_Index_ok : TabOk Tryd.prog T_slices_ContainsFunc_stags_Index_tags_Index := tab_ok []
theorem v_slices_ContainsFunc_stags_Index_tags_Index {y0 : List tags_Index} {g1 : tags_Index → Option Bool} (fid1 : Nat) (hg1 : ∀ z0 r, g1 z0 = some r → AVal Tryd.prog Gl fid1 [e_tags_Index z0] (e_bool r)) {r : Bool} (h : slices_ContainsFunc_stags_Index_tags_Index y0 g1 = some r) : AVal Tryd.prog Gl 95 [(e_sl 2 e_tags_Index) y0, (.fn fid1 [] [])] (e_bool r) := by
  refine aval_of' T_slices_ContainsFunc_stags_Index_tags_Index Gl 9 Tryd.func95 T_slices_ContainsFunc_stags_Index_tags_Index_ok Tryd_mixed fun P hP _ => ?_
  unfold slices_ContainsFunc_stags_Index_tags_Index at h
  conv => cbv
  refine den_call' hP h (fun _ h => v_slices_IndexFunc_stags_Index_tags_Index _ hg1 h) fun r1 _ h => ?_
  conv => cbv
  cases h
  exact lp
def T_tags_Track_numbers_c1 : Tab := [(3, ⟨.int .i64, 1, 8, [.int .i64 (.lit 0)]⟩), (88, ⟨.slice 3, 1, 24, [.nilsl]⟩), (97, ⟨.struct [(0, 3), (1, 3)], 2, 16, [.int .i64 (.lit 0), .int .i64 (.lit 0)]⟩)]
theorem T_tags_Track_numbers_c1_ok : TabOk Tryd.prog T_tags_Track_numbers_c1 := tab_ok [3, 88, 97]
theorem v_tags_Track_numbers_c1 {y0 : tags_Index} {r : Bool} (h : tags_Track_numbers_c1 y0 = some r) : AVal Tryd.prog Gl 96 [e_tags_Index y0] (e_bool r) := by
  refine aval_of' T_tags_Track_numbers_c1 Gl 13 Tryd.func96 T_tags_Track_numbers_c1_ok Tryd_mixed fun P hP _ => ?_
  unfold tags_Track_numbers_c1 at h
  conv => cbv
  refine .own ?_
  conv => cbv
  refine .mk ?_
  conv => cbv
  refine den_br h (fun _ h => ?_) (fun _ h => ?_)
  · conv => cbv
    cases h
    exact lp
  conv => cbv
  refine .data ?_
  conv => cbv
  refine den_call' hP h (fun _ h => v_tags_within h) fun r1 _ h => ?_
  conv => cbv
  cases h
  exact lp
def T_tags_Track_numbers : Tab := [(3, ⟨.int .i64, 1, 8, [.int .i64 (.lit 0)]⟩), (88, ⟨.slice 3, 1, 24, [.nilsl]⟩), (90, ⟨.slice 97, 1, 24, [.nilsl]⟩), (92, ⟨.struct [(0, 3), (1, 3), (2, 9), (3, 4), (4, 4), (5, 90)], 6, 64, [.int .i64 (.lit 0), .int .i64 (.lit 0), .str (.lit []), .bool (.lit false), .bool (.lit false), .nilsl]⟩)]
theorem T_tags_Track_numbers_ok : TabOk Tryd.prog T_tags_Track_numbers := tab_ok [3, 88, 90, 92]
theorem v_tags_Track_numbers {y0 : tags_Track} {y1 : Bool} {r : Bool} (h : tags_Track_numbers y0 y1 = some r) : AVal Tryd.prog Gl 79 [e_tags_Track y0, e_bool y1] (e_bool r) := by
  refine aval_of' T_tags_Track_numbers Gl 34 Tryd.func79 T_tags_Track_numbers_ok Tryd_mixed fun P hP _ => ?_
  unfold tags_Track_numbers at h
  conv => cbv
  refine .own ?_
  conv => cbv
  refine den_cut' (r := r) (tags_Track_numbers_K1 y0) (fun j1 => ⟨[(2, .ptr 2 0), (5, .int .i64 (.v j1.1)), (6, .int .i64 (.v j1.2))], [(2, .var [.int .i64 (.v y0.Offset), .int .i64 (.v y0.Number), .str (.v y0.Code), .bool (.v y0.Data), .bool (.v y0.Pre), .sl 2 e_tags_Index y0.L])], []⟩) ?_ (fun j1 h => ?_)
  · conv => cbv
    refine den_br h (fun _ h => ?_) (fun _ h => ?_)
    · conv => cbv
      exact den_join' h
    conv => cbv
    exact den_join' h
  unfold tags_Track_numbers_K1 at h
  conv => cbv
  refine .data ?_
  conv => cbv
  refine den_call' hP h (fun _ h => v_tags_within h) fun r2 _ h => ?_
  conv => cbv
  refine .mk ?_
  conv => cbv
  refine den_br h (fun _ h => ?_) (fun _ h => ?_)
  · conv => cbv
    refine .mk ?_
    conv => cbv
    refine .mk ?_
    conv => cbv
    cases h
    exact lp
  conv => cbv
  refine .data ?_
  conv => cbv
  refine den_call' hP h (fun _ h => v_tags_within h) fun r3 _ h => ?_
  conv => cbv
  refine .mk ?_
  conv => cbv
  refine .mk ?_
  conv => cbv
  refine den_br h (fun _ h => ?_) (fun _ h => ?_)
  · conv => cbv
    cases h
    exact lp
  conv => cbv
  refine .data ?_
  conv => cbv
  refine den_call' hP h (fun _ h => v_tags_within h) fun r4 _ h => ?_
  conv => cbv
  refine den_br h (fun _ h => ?_) (fun _ h => ?_)
  · conv => cbv
    cases h
    exact lp
  conv => cbv
  refine den_call' hP h (fun _ h => v_slices_ContainsFunc_stags_Index_tags_Index _ (fun _ _ h => v_tags_Track_numbers_c1 h) h) fun r5 _ h => ?_
  conv => cbv
  cases h
  exact lp
def T_slices_IndexFunc_sbyte_byte_x2 : Tab := [(5, ⟨.int .u8, 1, 1, [.int .u8 (.lit 0)]⟩), (27, ⟨.slice 5, 1, 24, [.nilsl]⟩)]
theorem T_slices_IndexFunc_sbyte_byte_x2_ok : TabOk Tryd.prog T_slices_IndexFunc_sbyte_byte_x2 := tab_ok [5, 27]
theorem v_slices_IndexFunc_sbyte_byte_x2 {y0 : List Int} {g1 : Int → Option Bool} (fid1 : Nat) (hg1 : ∀ z0 r, g1 z0 = some r → AVal Tryd.prog Gl fid1 [e_u8 z0] (e_bool r)) {r : Int} (h : slices_IndexFunc_sbyte_byte_x2 y0 g1 = some r) : AVal Tryd.prog Gl 93 [(e_sl 1 e_u8) y0, (.fn fid1 [] [])] (e_i64 r) := by
  refine aval_of' T_slices_IndexFunc_sbyte_byte_x2 Gl 19 Tryd.func93 T_slices_IndexFunc_sbyte_byte_x2_ok Tryd_mixed fun P hP _ => ?_
  unfold slices_IndexFunc_sbyte_byte_x2 at h
  conv => cbv
  refine den_cut' (r := r) slices_IndexFunc_sbyte_byte_x2_K1 (fun j1 => ⟨[], [], []⟩) ?_ (fun j1 h => ?_)
  · conv => cbv
    refine den_loop' (slices_IndexFunc_sbyte_byte_x2_L1 y0 g1) h (fun a2 => ⟨[(0, .sl 1 e_u8 y0), (1, .fn fid1 [] []), (7, .int .i64 (.len y0)), (8, .int .i64 (.v a2))], [], []⟩) (fun _ _ a2 x1 h hb1 hx1 => ?_)
    unfold slices_IndexFunc_sbyte_byte_x2_L1 at h
    conv => cbv
    refine den_br h (fun _ h => ?_) (fun _ h => ?_)
    · conv => cbv
      refine .mk ?_
      conv => cbv
      refine den_elem h fun p3 _ h => ?_
      conv => cbv
      refine den_call' hP h (fun _ h => hg1 _ _ h) fun r4 _ h => ?_
      conv => cbv
      refine den_br h (fun _ h => ?_) (fun _ h => ?_)
      · conv => cbv
        replace h := den_out h hx1
        cases h
        exact lp
      conv => cbv
      exact den_back' h hb1
    conv => cbv
    replace h := den_out h hx1
    exact den_join' h
  unfold slices_IndexFunc_sbyte_byte_x2_K1 at h
  conv => cbv
  cases h
  exact lp
def T_slices_ContainsFunc_sbyte_byte_x2 : Tab := []
theorem T_slices_ContainsFunc_sbyte_byte_x2_ok : TabOk Tryd.prog T_slices_ContainsFunc_sbyte_byte_x2 := tab_ok []
theorem v_slices_ContainsFunc_sbyte_byte_x2 {y0 : List Int} {g1 : Int → Option Bool} (fid1 : Nat) (hg1 : ∀ z0 r, g1 z0 = some r → AVal Tryd.prog Gl fid1 [e_u8 z0] (e_bool r)) {r : Bool} (h : slices_ContainsFunc_sbyte_byte_x2 y0 g1 = some r) : AVal Tryd.prog Gl 75 [(e_sl 1 e_u8) y0, (.fn fid1 [] [])] (e_bool r) := by
  refine aval_of' T_slices_ContainsFunc_sbyte_byte_x2 Gl 9 Tryd.func75 T_slices_ContainsFunc_sbyte_byte_x2_ok Tryd_mixed fun P hP _ => ?_
  unfold slices_ContainsFunc_sbyte_byte_x2 at h
  conv => cbv
  refine den_call' hP h (fun _ h => v_slices_IndexFunc_sbyte_byte_x2 _ hg1 h) fun r1 _ h => ?_
  conv => cbv
  cases h
  exact lp
def T_tags_code_c1 : Tab := []
theorem T_tags_code_c1_ok : TabOk Tryd.prog T_tags_code_c1 := tab_ok []
theorem v_tags_code_c1 {y0 : Int} {r : Bool} (h : tags_code_c1 y0 = some r) : AVal Tryd.prog Gl 97 [e_u8 y0] (e_bool r) := by
  refine aval_of' T_tags_code_c1 Gl 17 Tryd.func97 T_tags_code_c1_ok Tryd_mixed fun P hP _ => ?_
  unfold tags_code_c1 at h
  conv => cbv
  refine .mk ?_
  conv => cbv
  refine .mk ?_
  conv => cbv
  cases h
  exact lp
def T_tags_code : Tab := [(5, ⟨.int .u8, 1, 1, [.int .u8 (.lit 0)]⟩), (9, ⟨.str, 1, 16, [.str (.lit [])]⟩), (27, ⟨.slice 5, 1, 24, [.nilsl]⟩)]
theorem T_tags_code_ok : TabOk Tryd.prog T_tags_code := tab_ok [5, 9, 27]
theorem v_tags_code {y0 : List UInt8} {r : Bool} (h : tags_code y0 = some r) : AVal Tryd.prog Gl 80 [e_str y0] (e_bool r) := by
  refine aval_of' T_tags_code Gl 16 Tryd.func80 T_tags_code_ok Tryd_mixed fun P hP _ => ?_
  unfold tags_code at h
  conv => cbv
  refine .mk ?_
  conv => cbv
  refine .mk ?_
  conv => cbv
  refine den_br h (fun _ h => ?_) (fun _ h => ?_)
  · conv => cbv
    cases h
    exact lp
  conv => cbv
  refine den_br h (fun _ h => ?_) (fun _ h => ?_)
  · conv => cbv
    refine den_bytes (fun l1 => ((slices_ContainsFunc_sbyte_byte_x2 l1 tags_code_c1).bind fun r2 => some (!r2))) h fun l1 _ h => ?_
    conv => cbv
    refine den_call' hP h (fun _ h => v_slices_ContainsFunc_sbyte_byte_x2 _ (fun _ _ h => v_tags_code_c1 h) h) fun r2 _ h => ?_
    conv => cbv
    cases h
    exact lp
  conv => cbv
  cases h
  exact lp
def T_tags_Cue_check : Tab := [(3, ⟨.int .i64, 1, 8, [.int .i64 (.lit 0)]⟩), (4, ⟨.bool, 1, 1, [.bool (.lit false)]⟩), (9, ⟨.str, 1, 16, [.str (.lit [])]⟩), (55, ⟨.slice 92, 1, 24, [.nilsl]⟩), (57, ⟨.struct [(0, 9), (1, 3), (2, 4), (3, 55)], 4, 56, [.str (.lit []), .int .i64 (.lit 0), .bool (.lit false), .nilsl]⟩), (92, ⟨.struct [(0, 3), (1, 3), (2, 9), (3, 4), (4, 4), (5, 90)], 6, 64, [.int .i64 (.lit 0), .int .i64 (.lit 0), .str (.lit []), .bool (.lit false), .bool (.lit false), .nilsl]⟩), (122, ⟨.map 3 4, 1, 8, [.junk]⟩)]
theorem T_tags_Cue_check_ok : TabOk Tryd.prog T_tags_Cue_check := tab_ok [3, 4, 9, 55, 57, 92, 122]
theorem v_tags_Cue_check {y0 : tags_Cue} {r : Int} (h : tags_Cue_check y0 = some r) : AVal Tryd.prog Gl 57 [e_tags_Cue y0] (e_i64 r) := by
  refine aval_of' T_tags_Cue_check Gl 73 Tryd.func57 T_tags_Cue_check_ok Tryd_mixed fun P hP _ => ?_
  unfold tags_Cue_check at h
  conv => cbv
  refine .own ?_
  conv => cbv
  refine den_br h (fun _ h => ?_) (fun _ h => ?_)
  · conv => cbv
    cases h
    exact lp
  conv => cbv
  refine .mk ?_
  conv => cbv
  refine den_cut' (r := r) (tags_Cue_check_K1 y0) (fun j1 => ⟨[(1, .ptr 1 0), (3, .bool (.ite (.cmp .leq (.len y0.L) (.lit 100)) (.cmp .geq (.v y0.Lead) (.lit 0)) (.lit false))), (4, .bool (.v j1))], [(1, .var [.str (.v y0.Catalog), .int .i64 (.v y0.Lead), .bool (.v y0.Disc), .sl 6 e_tags_Track y0.L])], []⟩) ?_ (fun j1 h => ?_)
  · conv => cbv
    refine .mk ?_
    conv => cbv
    refine den_br h (fun _ h => ?_) (fun _ h => ?_)
    · conv => cbv
      refine den_call' hP h (fun _ h => v_tags_letters h) fun r10 _ h => ?_
      conv => cbv
      exact den_join' h
    conv => cbv
    exact den_join' h
  unfold tags_Cue_check_K1 at h
  conv => cbv
  refine .mk e_bool ?_
  conv => cbv
  refine den_cut' (r := r) (tags_Cue_check_K2 y0) (fun j2 => ⟨[(1, .ptr 1 0), (3, .bool (.v j2.1)), (4, .bool (.v j2.2.1)), (5, .mp 30)], [(1, .var [.str (.v y0.Catalog), .int .i64 (.v y0.Lead), .bool (.v y0.Disc), .sl 6 e_tags_Track y0.L]), (30, .map e_bool j2.2.2)], []⟩) ?_ (fun j2 h => ?_)
  · conv => cbv
    refine den_loop (tags_Cue_check_L1 y0) h (fun a3 : Bool × Bool × Int × (List (Int × Bool)) => ⟨[(1, .ptr 1 0), (3, .bool (.v a3.1)), (4, .bool (.v a3.2.1)), (5, .mp 30), (32, .sl 6 e_tags_Track y0.L), (33, .int .i64 (.len y0.L)), (34, .int .i64 (.v a3.2.2.1))], [(1, .var [.str (.v y0.Catalog), .int .i64 (.v y0.Lead), .bool (.v y0.Disc), .sl 6 e_tags_Track y0.L]), (30, .map e_bool a3.2.2.2)], []⟩) ?_ (fun _ _ a3 x1 h hb1 hx1 => ?_)
    · intro j0 hj
      conv => cbv
      subst hj
      exact ⟨⟨.same _, .map _ _ _ rfl, trivial⟩, .same _, .bool _ _ rfl, .bool _ _ rfl, .same _, .same _, .same _, .int _ _ _ rfl, trivial⟩
    unfold tags_Cue_check_L1 at h
    conv => cbv
    refine den_br h (fun _ h => ?_) (fun _ h => ?_)
    · conv => cbv
      refine .mk ?_
      conv => cbv
      refine den_elem h fun p4 _ h => ?_
      conv => cbv
      refine den_cut' (r := x1) (tags_Cue_check_K3 a3 p4) (fun j5 => ⟨[(1, .ptr 1 0), (3, .bool (.v j5)), (4, .bool (.v a3.2.1)), (5, .mp 30), (7, .ptr 7 0), (32, .sl 6 e_tags_Track y0.L), (33, .int .i64 (.len y0.L)), (34, .int .i64 (.v a3.2.2.1))], [(1, .var [.str (.v y0.Catalog), .int .i64 (.v y0.Lead), .bool (.v y0.Disc), .sl 6 e_tags_Track y0.L]), (7, .var [.int .i64 (.v p4.Offset), .int .i64 (.v p4.Number), .str (.v p4.Code), .bool (.v p4.Data), .bool (.v p4.Pre), .sl 2 e_tags_Index p4.L]), (30, .map e_bool a3.2.2.2)], []⟩) ?_ (fun j5 h => ?_)
      · conv => cbv
        refine .mk ?_
        conv => cbv
        refine .mk ?_
        conv => cbv
        refine den_br h (fun _ h => ?_) (fun _ h => ?_)
        · conv => cbv
          refine den_call' hP h (fun _ h => v_tags_Track_numbers h) fun r9 _ h => ?_
          conv => cbv
          exact den_join' h
        conv => cbv
        exact den_join' h
      unfold tags_Cue_check_K3 at h
      conv => cbv
      refine den_cut' (r := x1) (tags_Cue_check_K4 a3 p4 j5) (fun j6 => ⟨[(1, .ptr 1 0), (3, .bool (.v j5)), (4, .bool (.v j6)), (5, .mp 30), (7, .ptr 7 0), (32, .sl 6 e_tags_Track y0.L), (33, .int .i64 (.len y0.L)), (34, .int .i64 (.v a3.2.2.1))], [(1, .var [.str (.v y0.Catalog), .int .i64 (.v y0.Lead), .bool (.v y0.Disc), .sl 6 e_tags_Track y0.L]), (7, .var [.int .i64 (.v p4.Offset), .int .i64 (.v p4.Number), .str (.v p4.Code), .bool (.v p4.Data), .bool (.v p4.Pre), .sl 2 e_tags_Index p4.L]), (30, .map e_bool a3.2.2.2)], []⟩) ?_ (fun j6 h => ?_)
      · conv => cbv
        refine .mk ?_
        conv => cbv
        refine den_br h (fun _ h => ?_) (fun _ h => ?_)
        · conv => cbv
          refine den_call' hP h (fun _ h => v_tags_code h) fun r8 _ h => ?_
          conv => cbv
          exact den_join' h
        conv => cbv
        exact den_join' h
      unfold tags_Cue_check_K4 at h
      conv => cbv
      refine den_mput true h (CEq.of_lep (.bool _ _ rfl) rfl) fun l7 _ h => ?_
      conv => cbv
      refine den_back h hb1 fun j0 hj => ?_
      conv => cbv
      subst hj
      exact ⟨⟨.same _, .map _ _ _ rfl, trivial⟩, .same _, .bool _ _ rfl, .bool _ _ rfl, .same _, .same _, .same _, .int _ _ _ rfl, trivial⟩
    conv => cbv
    replace h := den_out h hx1
    refine den_join h fun j0 hj => ?_
    conv => cbv
    subst hj
    exact ⟨⟨.same _, .map _ _ _ rfl, trivial⟩, .same _, .bool _ _ rfl, .bool _ _ rfl, .same _, trivial⟩
  unfold tags_Cue_check_K2 at h
  conv => cbv
  refine den_br h (fun _ h => ?_) (fun _ h => ?_)
  · conv => cbv
    cases h
    exact lp
  conv => cbv
  refine den_br h (fun _ h => ?_) (fun _ h => ?_)
  · conv => cbv
    cases h
    exact lp
  conv => cbv
  refine .mk ?_
  conv => cbv
  refine den_br h (fun _ h => ?_) (fun _ h => ?_)
  · conv => cbv
    cases h
    exact lp
  conv => cbv
  cases h
  exact lp
def T_tags_padding : Tab := [(5, ⟨.int .u8, 1, 1, [.int .u8 (.lit 0)]⟩), (9, ⟨.str, 1, 16, [.str (.lit [])]⟩), (27, ⟨.slice 5, 1, 24, [.nilsl]⟩)]
theorem T_tags_padding_ok : TabOk Tryd.prog T_tags_padding := tab_ok [5, 9, 27]
theorem v_tags_padding {y0 : List UInt8} {y1 : Int} {r : List Int} (h : tags_padding y0 y1 = some r) : AVal Tryd.prog Gl 58 [e_str y0, e_i64 y1] ((e_sl 1 e_u8) r) := by
  refine aval_of' T_tags_padding Gl 12 Tryd.func58 T_tags_padding_ok Tryd_mixed fun P hP _ => ?_
  unfold tags_padding at h
  conv => cbv
  refine den_make e_u8 (x := (0 : Int)) h lp fun l1 _ h => ?_
  conv => cbv
  refine den_copy e_u8 0 (l1.length : Int) (xs := (bytesI y0)) h rfl (.inl ⟨rfl, rfl, rfl⟩) (News.map (by first | rfl | (cases y0 <;> rfl))) (fun h => ?_) (fun c2 _ h => ?_)
  · conv => cbv
    cases h
    exact lp
  · conv => cbv
    cases h
    exact lp
def T_tags_high : Tab := [(3, ⟨.int .i64, 1, 8, [.int .i64 (.lit 0)]⟩), (5, ⟨.int .u8, 1, 1, [.int .u8 (.lit 0)]⟩), (27, ⟨.slice 5, 1, 24, [.nilsl]⟩)]
theorem T_tags_high_ok : TabOk Tryd.prog T_tags_high := tab_ok [3, 5, 27]
theorem v_tags_high {y0 : Int} {y1 : Int} {r : List Int} (h : tags_high y0 y1 = some r) : AVal Tryd.prog Gl 53 [e_i64 y0, e_i64 y1] ((e_sl 1 e_u8) r) := by
  refine aval_of' T_tags_high Gl 27 Tryd.func53 T_tags_high_ok Tryd_mixed fun P hP _ => ?_
  unfold tags_high at h
  conv => cbv
  refine den_make e_u8 (x := (0 : Int)) h lp fun l1 _ h => ?_
  conv => cbv
  refine den_cut' (r := r) tags_high_K1 (fun j2 => ⟨[(5, .osl 8)], [(8, .arr false 5 1 e_u8 j2)], []⟩) ?_ (fun j2 h => ?_)
  · conv => cbv
    refine den_loop' (tags_high_L1 y0 y1 l1) h (fun a3 => ⟨[(0, .int .i64 (.v y0)), (1, .int .i64 (.v y1)), (5, .osl 8), (10, .int .i64 (.len l1)), (11, .int .i64 (.v a3.1))], [(8, .arr false 5 1 e_u8 a3.2)], []⟩) (fun _ _ a3 x1 h hb1 hx1 => ?_)
    unfold tags_high_L1 at h
    conv => cbv
    refine den_br h (fun _ h => ?_) (fun _ h => ?_)
    · conv => cbv
      refine .mk ?_
      conv => cbv
      refine .mk ?_
      conv => cbv
      refine den_chk h fun h => ?_
      conv => cbv
      refine den_chk h fun h => ?_
      conv => cbv
      refine den_chk h fun h => ?_
      conv => cbv
      refine den_estore (f := e_u8) (IntKind.u8.wrap (shD .shr .i64 y0 (W (8 * a3.1)))) h (fun _ => CEqL.of_lepl lp rfl) fun l4 _ h => ?_
      conv => cbv
      exact den_back' h hb1
    conv => cbv
    replace h := den_out h hx1
    exact den_join' h
  unfold tags_high_K1 at h
  conv => cbv
  cases h
  exact lp
def T_tags_bit : Tab := []
theorem T_tags_bit_ok : TabOk Tryd.prog T_tags_bit := tab_ok []
theorem v_tags_bit {y0 : Bool} {y1 : Int} {r : Int} (h : tags_bit y0 y1 = some r) : AVal Tryd.prog Gl 59 [e_bool y0, e_i64 y1] (e_i64 r) := by
  refine aval_of' T_tags_bit Gl 7 Tryd.func59 T_tags_bit_ok Tryd_mixed fun P hP _ => ?_
  unfold tags_bit at h
  conv => cbv
  refine den_br h (fun _ h => ?_) (fun _ h => ?_)
  · conv => cbv
    cases h
    exact lp
  conv => cbv
  cases h
  exact lp
def T_tags_Cue_Write : Tab := [(3, ⟨.int .i64, 1, 8, [.int .i64 (.lit 0)]⟩), (4, ⟨.bool, 1, 1, [.bool (.lit false)]⟩), (5, ⟨.int .u8, 1, 1, [.int .u8 (.lit 0)]⟩), (9, ⟨.str, 1, 16, [.str (.lit [])]⟩), (27, ⟨.slice 5, 1, 24, [.nilsl]⟩), (55, ⟨.slice 92, 1, 24, [.nilsl]⟩), (57, ⟨.struct [(0, 9), (1, 3), (2, 4), (3, 55)], 4, 56, [.str (.lit []), .int .i64 (.lit 0), .bool (.lit false), .nilsl]⟩), (90, ⟨.slice 97, 1, 24, [.nilsl]⟩), (92, ⟨.struct [(0, 3), (1, 3), (2, 9), (3, 4), (4, 4), (5, 90)], 6, 64, [.int .i64 (.lit 0), .int .i64 (.lit 0), .str (.lit []), .bool (.lit false), .bool (.lit false), .nilsl]⟩), (97, ⟨.struct [(0, 3), (1, 3)], 2, 16, [.int .i64 (.lit 0), .int .i64 (.lit 0)]⟩), (112, ⟨.slice 27, 1, 24, [.nilsl]⟩)]
theorem T_tags_Cue_Write_ok : TabOk Tryd.prog T_tags_Cue_Write := tab_ok [3, 4, 5, 9, 27, 55, 57, 90, 92, 97, 112]
set_option maxHeartbeats 2000000 in
theorem v_tags_Cue_Write {y0 : tags_Cue} {r : (List Int) × Int} (h : tags_Cue_Write y0 = some r) : AVal Tryd.prog Gl 28 [e_tags_Cue y0] (.tup [(e_sl 1 e_u8) r.1, e_i64 r.2]) := by
  refine aval_of' T_tags_Cue_Write Gl 84 Tryd.func28 T_tags_Cue_Write_ok Tryd_mixed fun P hP _ => ?_
  unfold tags_Cue_Write at h
  conv => cbv
  refine .own ?_
  conv => cbv
  refine den_call' hP h (fun _ h => v_tags_Cue_check h) fun r1 _ h => ?_
  conv => cbv
  refine den_br h (fun _ h => ?_) (fun _ h => ?_)
  · conv => cbv
    cases h
    exact .tup _ _ lp
  conv => cbv
  refine den_cut' (r := r) (tags_Cue_Write_K1 y0) (fun j2 => ⟨[(1, .ptr 1 0), (5, .osl 31)], [(1, .var [.str (.v y0.Catalog), .int .i64 (.v y0.Lead), .bool (.v y0.Disc), .sl 6 e_tags_Track y0.L]), (31, .arr false 5 1 e_u8 j2)], []⟩) ?_ (fun j2 h => ?_)
  · conv => cbv
    refine .mk (some [25, 31]) (by kernel_rfl) ?_
    conv => cbv
    refine .mk ?_
    conv => cbv
    refine ⟨?_, ?_⟩
    · refine den_call' hP h (fun _ h => v_tags_padding h) fun r72 _ h => ?_
      conv => cbv
      refine ⟨?_, ?_⟩
      · refine den_call' hP h (fun _ h => v_tags_high h) fun r73 _ h => ?_
        conv => cbv
        refine .mk ?_
        conv => cbv
        refine ⟨?_, ?_⟩
        · refine den_call' hP h (fun _ h => v_tags_bit h) fun r74 _ h => ?_
          conv => cbv
          refine ⟨?_, ?_⟩
          · refine den_call' hP h (fun _ h => v_tags_high h) fun r75 _ h => ?_
            conv => cbv
            refine ⟨?_, ?_⟩
            · refine den_makeL 258 (fun l76 => ((tags_high (y0.L.length : Int) (1 : Int)).bind fun r77 => (slices_Concat_sbyte_byte [r72, r73, r75, l76, r77]).bind fun r78 => tags_Cue_Write_K1 y0 r78)) e_u8 (x := (0 : Int)) h rfl (by decide) (by decide) lp fun l76 _ h => ?_
              conv => cbv
              refine den_call' hP h (fun _ h => v_tags_high h) fun r77 _ h => ?_
              conv => cbv
              refine den_own' (hl := (.cons _ _ _ _ (.sls (.cons _ _ _ _ (VEq.of_lepl (.cons _ _ _ _ (.same _) .nil) rfl) (.cons _ _ _ _ (VEq.of_lepl (.cons _ _ _ _ (.same _) .nil) rfl) (.cons _ _ _ _ (VEq.of_lepl (.cons _ _ _ _ (.same _) .nil) rfl) (.cons _ _ _ _ (VEq.of_lepl (.cons _ _ _ _ (.same _) .nil) rfl) (.cons _ _ _ _ (VEq.of_lepl (.cons _ _ _ _ (.same _) .nil) rfl) .nil)))))) .nil)) (ho := True.intro) [(31, 20000, true)] [] hP h (fun _ h => w_slices_Concat_sbyte_byte h) fun r78 _ h => ?_
              conv => cbv
              refine .mk ?_
              conv => cbv
              exact den_join' h
            · refine den_call' hP h (fun _ h => v_tags_high h) fun r79 _ h => ?_
              conv => cbv
              refine den_makeL 258 (fun l80 => ((slices_Concat_sbyte_byte [r72, r73, r75, l80, r79]).bind fun r81 => tags_Cue_Write_K1 y0 r81)) e_u8 (x := (0 : Int)) h rfl (by decide) (by decide) lp fun l80 _ h => ?_
              conv => cbv
              refine den_own' (hl := (.cons _ _ _ _ (.sls (.cons _ _ _ _ (VEq.of_lepl (.cons _ _ _ _ (.same _) .nil) rfl) (.cons _ _ _ _ (VEq.of_lepl (.cons _ _ _ _ (.same _) .nil) rfl) (.cons _ _ _ _ (VEq.of_lepl (.cons _ _ _ _ (.same _) .nil) rfl) (.cons _ _ _ _ (VEq.of_lepl (.cons _ _ _ _ (.same _) .nil) rfl) (.cons _ _ _ _ (VEq.of_lepl (.cons _ _ _ _ (.same _) .nil) rfl) .nil)))))) .nil)) (ho := True.intro) [(31, 20000, true)] [] hP h (fun _ h => w_slices_Concat_sbyte_byte h) fun r81 _ h => ?_
              conv => cbv
              refine .mk ?_
              conv => cbv
              exact den_join' h
          · refine den_makeL 258 (fun l82 => ((tags_high r74 (1 : Int)).bind fun r83 => (tags_high (y0.L.length : Int) (1 : Int)).bind fun r84 => (slices_Concat_sbyte_byte [r72, r73, r83, l82, r84]).bind fun r85 => tags_Cue_Write_K1 y0 r85)) e_u8 (x := (0 : Int)) h rfl (by decide) (by decide) lp fun l82 _ h => ?_
            conv => cbv
            refine den_call' hP h (fun _ h => v_tags_high h) fun r83 _ h => ?_
            conv => cbv
            refine den_call' hP h (fun _ h => v_tags_high h) fun r84 _ h => ?_
            conv => cbv
            refine den_own' (hl := (.cons _ _ _ _ (.sls (.cons _ _ _ _ (VEq.of_lepl (.cons _ _ _ _ (.same _) .nil) rfl) (.cons _ _ _ _ (VEq.of_lepl (.cons _ _ _ _ (.same _) .nil) rfl) (.cons _ _ _ _ (VEq.of_lepl (.cons _ _ _ _ (.same _) .nil) rfl) (.cons _ _ _ _ (VEq.of_lepl (.cons _ _ _ _ (.same _) .nil) rfl) (.cons _ _ _ _ (VEq.of_lepl (.cons _ _ _ _ (.same _) .nil) rfl) .nil)))))) .nil)) (ho := True.intro) [(31, 20000, true)] [] hP h (fun _ h => w_slices_Concat_sbyte_byte h) fun r85 _ h => ?_
            conv => cbv
            refine .mk ?_
            conv => cbv
            exact den_join' h
        · refine den_makeL 258 (fun l86 => ((tags_bit y0.Disc (128 : Int)).bind fun r87 => (tags_high r87 (1 : Int)).bind fun r88 => (tags_high (y0.L.length : Int) (1 : Int)).bind fun r89 => (slices_Concat_sbyte_byte [r72, r73, r88, l86, r89]).bind fun r90 => tags_Cue_Write_K1 y0 r90)) e_u8 (x := (0 : Int)) h rfl (by decide) (by decide) lp fun l86 _ h => ?_
          conv => cbv
          refine den_call' hP h (fun _ h => v_tags_bit h) fun r87 _ h => ?_
          conv => cbv
          refine den_call' hP h (fun _ h => v_tags_high h) fun r88 _ h => ?_
          conv => cbv
          refine den_call' hP h (fun _ h => v_tags_high h) fun r89 _ h => ?_
          conv => cbv
          refine den_own' (hl := (.cons _ _ _ _ (.sls (.cons _ _ _ _ (VEq.of_lepl (.cons _ _ _ _ (.same _) .nil) rfl) (.cons _ _ _ _ (VEq.of_lepl (.cons _ _ _ _ (.same _) .nil) rfl) (.cons _ _ _ _ (VEq.of_lepl (.cons _ _ _ _ (.same _) .nil) rfl) (.cons _ _ _ _ (VEq.of_lepl (.cons _ _ _ _ (.same _) .nil) rfl) (.cons _ _ _ _ (VEq.of_lepl (.cons _ _ _ _ (.same _) .nil) rfl) .nil)))))) .nil)) (ho := True.intro) [(31, 20000, true)] [] hP h (fun _ h => w_slices_Concat_sbyte_byte h) fun r90 _ h => ?_
          conv => cbv
          refine .mk ?_
          conv => cbv
          exact den_join' h
      · refine den_makeL 258 (fun l91 => ((tags_high y0.Lead (8 : Int)).bind fun r92 => (tags_bit y0.Disc (128 : Int)).bind fun r93 => (tags_high r93 (1 : Int)).bind fun r94 => (tags_high (y0.L.length : Int) (1 : Int)).bind fun r95 => (slices_Concat_sbyte_byte [r72, r92, r94, l91, r95]).bind fun r96 => tags_Cue_Write_K1 y0 r96)) e_u8 (x := (0 : Int)) h rfl (by decide) (by decide) lp fun l91 _ h => ?_
        conv => cbv
        refine .mk ?_
        conv => cbv
        refine den_call' hP h (fun _ h => v_tags_high h) fun r92 _ h => ?_
        conv => cbv
        refine den_call' hP h (fun _ h => v_tags_bit h) fun r93 _ h => ?_
        conv => cbv
        refine den_call' hP h (fun _ h => v_tags_high h) fun r94 _ h => ?_
        conv => cbv
        refine den_call' hP h (fun _ h => v_tags_high h) fun r95 _ h => ?_
        conv => cbv
        refine den_own' (hl := (.cons _ _ _ _ (.sls (.cons _ _ _ _ (VEq.of_lepl (.cons _ _ _ _ (.same _) .nil) rfl) (.cons _ _ _ _ (VEq.of_lepl (.cons _ _ _ _ (.same _) .nil) rfl) (.cons _ _ _ _ (VEq.of_lepl (.cons _ _ _ _ (.same _) .nil) rfl) (.cons _ _ _ _ (VEq.of_lepl (.cons _ _ _ _ (.same _) .nil) rfl) (.cons _ _ _ _ (VEq.of_lepl (.cons _ _ _ _ (.same _) .nil) rfl) .nil)))))) .nil)) (ho := True.intro) [(31, 20000, true)] [] hP h (fun _ h => w_slices_Concat_sbyte_byte h) fun r96 _ h => ?_
        conv => cbv
        refine .mk ?_
        conv => cbv
        exact den_join' h
    · refine den_makeL 258 (fun l97 => ((tags_padding y0.Catalog (128 : Int)).bind fun r98 => (tags_high y0.Lead (8 : Int)).bind fun r99 => (tags_bit y0.Disc (128 : Int)).bind fun r100 => (tags_high r100 (1 : Int)).bind fun r101 => (tags_high (y0.L.length : Int) (1 : Int)).bind fun r102 => (slices_Concat_sbyte_byte [r98, r99, r101, l97, r102]).bind fun r103 => tags_Cue_Write_K1 y0 r103)) e_u8 (x := (0 : Int)) h rfl (by decide) (by decide) lp fun l97 _ h => ?_
      conv => cbv
      refine den_call' hP h (fun _ h => v_tags_padding h) fun r98 _ h => ?_
      conv => cbv
      refine .mk ?_
      conv => cbv
      refine den_call' hP h (fun _ h => v_tags_high h) fun r99 _ h => ?_
      conv => cbv
      refine den_call' hP h (fun _ h => v_tags_bit h) fun r100 _ h => ?_
      conv => cbv
      refine den_call' hP h (fun _ h => v_tags_high h) fun r101 _ h => ?_
      conv => cbv
      refine den_call' hP h (fun _ h => v_tags_high h) fun r102 _ h => ?_
      conv => cbv
      refine den_own' (hl := (.cons _ _ _ _ (.sls (.cons _ _ _ _ (VEq.of_lepl (.cons _ _ _ _ (.same _) .nil) rfl) (.cons _ _ _ _ (VEq.of_lepl (.cons _ _ _ _ (.same _) .nil) rfl) (.cons _ _ _ _ (VEq.of_lepl (.cons _ _ _ _ (.same _) .nil) rfl) (.cons _ _ _ _ (VEq.of_lepl (.cons _ _ _ _ (.same _) .nil) rfl) (.cons _ _ _ _ (VEq.of_lepl (.cons _ _ _ _ (.same _) .nil) rfl) .nil)))))) .nil)) (ho := True.intro) [(31, 20000, true)] [] hP h (fun _ h => w_slices_Concat_sbyte_byte h) fun r103 _ h => ?_
      conv => cbv
      refine .mk ?_
      conv => cbv
      exact den_join' h
  unfold tags_Cue_Write_K1 at h
  conv => cbv
  refine den_cut' (r := r) tags_Cue_Write_K2 (fun j3 => ⟨[(5, .sl 1 e_u8 j3)], [], []⟩) ?_ (fun j3 h => ?_)
  · conv => cbv
    refine den_loop' (tags_Cue_Write_L1 y0) h (fun a4 => ⟨[(5, .sl 1 e_u8 a4.1), (33, .sl 6 e_tags_Track y0.L), (34, .int .i64 (.len y0.L)), (35, .int .i64 (.v a4.2))], [], []⟩) (fun _ _ a4 x1 h hb1 hx1 => ?_)
    unfold tags_Cue_Write_L1 at h
    conv => cbv
    refine den_br h (fun _ h => ?_) (fun _ h => ?_)
    · conv => cbv
      refine den_cut' (r := x1) (tags_Cue_Write_K3 a4) (fun j5 => ⟨[(5, .sl 1 e_u8 j5), (33, .sl 6 e_tags_Track y0.L), (34, .int .i64 (.len y0.L)), (35, .int .i64 (.v a4.2))], [], []⟩) ?_ (fun j5 h => ?_)
      · conv => cbv
        refine den_elem h fun p6 _ h => ?_
        conv => cbv
        refine den_cut' (r := x1) (tags_Cue_Write_K4 a4 p6) (fun j7 => ⟨[(5, .osl 63), (7, .ptr 7 0), (33, .sl 6 e_tags_Track y0.L), (34, .int .i64 (.len y0.L)), (35, .int .i64 (.v a4.2))], [(7, .var [.int .i64 (.v p6.Offset), .int .i64 (.v p6.Number), .str (.v p6.Code), .bool (.v p6.Data), .bool (.v p6.Pre), .sl 2 e_tags_Index p6.L]), (63, .arr false 5 1 e_u8 j7)], []⟩) ?_ (fun j7 h => ?_)
        · conv => cbv
          refine .mk (some [57, 63]) (by kernel_rfl) ?_
          conv => cbv
          refine .mk ?_
          conv => cbv
          refine .mk ?_
          conv => cbv
          refine ⟨?_, ?_⟩
          · refine den_call' hP h (fun _ h => v_tags_high h) fun r21 _ h => ?_
            conv => cbv
            refine ⟨?_, ?_⟩
            · refine den_call' hP h (fun _ h => v_tags_high h) fun r22 _ h => ?_
              conv => cbv
              refine ⟨?_, ?_⟩
              · refine den_call' hP h (fun _ h => v_tags_padding h) fun r23 _ h => ?_
                conv => cbv
                refine .mk ?_
                conv => cbv
                refine ⟨?_, ?_⟩
                · refine den_call' hP h (fun _ h => v_tags_bit h) fun r24 _ h => ?_
                  conv => cbv
                  refine ⟨?_, ?_⟩
                  · refine den_call' hP h (fun _ h => v_tags_bit h) fun r25 _ h => ?_
                    conv => cbv
                    refine ⟨?_, ?_⟩
                    · refine den_call' hP h (fun _ h => v_tags_high h) fun r26 _ h => ?_
                      conv => cbv
                      refine ⟨?_, ?_⟩
                      · refine den_makeL 13 (fun l27 => ((tags_high (p6.L.length : Int) (1 : Int)).bind fun r28 => (slices_Concat_sbyte_byte [a4.1, r21, r22, r23, r26, l27, r28]).bind fun r29 => tags_Cue_Write_K4 a4 p6 r29)) e_u8 (x := (0 : Int)) h rfl (by decide) (by decide) lp fun l27 _ h => ?_
                        conv => cbv
                        refine den_call' hP h (fun _ h => v_tags_high h) fun r28 _ h => ?_
                        conv => cbv
                        refine .mk ?_
                        conv => cbv
                        refine den_own' (hl := (.cons _ _ _ _ (.sls (.cons _ _ _ _ (VEq.of_lepl (.cons _ _ _ _ (.same _) .nil) rfl) (.cons _ _ _ _ (VEq.of_lepl (.cons _ _ _ _ (.same _) .nil) rfl) (.cons _ _ _ _ (VEq.of_lepl (.cons _ _ _ _ (.same _) .nil) rfl) (.cons _ _ _ _ (VEq.of_lepl (.cons _ _ _ _ (.same _) .nil) rfl) (.cons _ _ _ _ (VEq.of_lepl (.cons _ _ _ _ (.same _) .nil) rfl) (.cons _ _ _ _ (VEq.of_lepl (.cons _ _ _ _ (.same _) .nil) rfl) (.cons _ _ _ _ (VEq.of_lepl (.cons _ _ _ _ (.same _) .nil) rfl) .nil)))))))) .nil)) (ho := True.intro) [(63, 20000, true)] [] hP h (fun _ h => w_slices_Concat_sbyte_byte h) fun r29 _ h => ?_
                        conv => cbv
                        exact den_join' h
                      · refine den_call' hP h (fun _ h => v_tags_high h) fun r30 _ h => ?_
                        conv => cbv
                        refine den_makeL 13 (fun l31 => ((slices_Concat_sbyte_byte [a4.1, r21, r22, r23, r26, l31, r30]).bind fun r32 => tags_Cue_Write_K4 a4 p6 r32)) e_u8 (x := (0 : Int)) h rfl (by decide) (by decide) lp fun l31 _ h => ?_
                        conv => cbv
                        refine .mk ?_
                        conv => cbv
                        refine den_own' (hl := (.cons _ _ _ _ (.sls (.cons _ _ _ _ (VEq.of_lepl (.cons _ _ _ _ (.same _) .nil) rfl) (.cons _ _ _ _ (VEq.of_lepl (.cons _ _ _ _ (.same _) .nil) rfl) (.cons _ _ _ _ (VEq.of_lepl (.cons _ _ _ _ (.same _) .nil) rfl) (.cons _ _ _ _ (VEq.of_lepl (.cons _ _ _ _ (.same _) .nil) rfl) (.cons _ _ _ _ (VEq.of_lepl (.cons _ _ _ _ (.same _) .nil) rfl) (.cons _ _ _ _ (VEq.of_lepl (.cons _ _ _ _ (.same _) .nil) rfl) (.cons _ _ _ _ (VEq.of_lepl (.cons _ _ _ _ (.same _) .nil) rfl) .nil)))))))) .nil)) (ho := True.intro) [(63, 20000, true)] [] hP h (fun _ h => w_slices_Concat_sbyte_byte h) fun r32 _ h => ?_
                        conv => cbv
                        exact den_join' h
                    · refine den_makeL 13 (fun l33 => ((tags_high (W (r24 + r25)) (1 : Int)).bind fun r34 => (tags_high (p6.L.length : Int) (1 : Int)).bind fun r35 => (slices_Concat_sbyte_byte [a4.1, r21, r22, r23, r34, l33, r35]).bind fun r36 => tags_Cue_Write_K4 a4 p6 r36)) e_u8 (x := (0 : Int)) h rfl (by decide) (by decide) lp fun l33 _ h => ?_
                      conv => cbv
                      refine den_call' hP h (fun _ h => v_tags_high h) fun r34 _ h => ?_
                      conv => cbv
                      refine den_call' hP h (fun _ h => v_tags_high h) fun r35 _ h => ?_
                      conv => cbv
                      refine .mk ?_
                      conv => cbv
                      refine den_own' (hl := (.cons _ _ _ _ (.sls (.cons _ _ _ _ (VEq.of_lepl (.cons _ _ _ _ (.same _) .nil) rfl) (.cons _ _ _ _ (VEq.of_lepl (.cons _ _ _ _ (.same _) .nil) rfl) (.cons _ _ _ _ (VEq.of_lepl (.cons _ _ _ _ (.same _) .nil) rfl) (.cons _ _ _ _ (VEq.of_lepl (.cons _ _ _ _ (.same _) .nil) rfl) (.cons _ _ _ _ (VEq.of_lepl (.cons _ _ _ _ (.same _) .nil) rfl) (.cons _ _ _ _ (VEq.of_lepl (.cons _ _ _ _ (.same _) .nil) rfl) (.cons _ _ _ _ (VEq.of_lepl (.cons _ _ _ _ (.same _) .nil) rfl) .nil)))))))) .nil)) (ho := True.intro) [(63, 20000, true)] [] hP h (fun _ h => w_slices_Concat_sbyte_byte h) fun r36 _ h => ?_
                      conv => cbv
                      exact den_join' h
                  · refine den_makeL 13 (fun l37 => ((tags_bit p6.Pre (64 : Int)).bind fun r38 => (tags_high (W (r24 + r38)) (1 : Int)).bind fun r39 => (tags_high (p6.L.length : Int) (1 : Int)).bind fun r40 => (slices_Concat_sbyte_byte [a4.1, r21, r22, r23, r39, l37, r40]).bind fun r41 => tags_Cue_Write_K4 a4 p6 r41)) e_u8 (x := (0 : Int)) h rfl (by decide) (by decide) lp fun l37 _ h => ?_
                    conv => cbv
                    refine den_call' hP h (fun _ h => v_tags_bit h) fun r38 _ h => ?_
                    conv => cbv
                    refine den_call' hP h (fun _ h => v_tags_high h) fun r39 _ h => ?_
                    conv => cbv
                    refine den_call' hP h (fun _ h => v_tags_high h) fun r40 _ h => ?_
                    conv => cbv
                    refine .mk ?_
                    conv => cbv
                    refine den_own' (hl := (.cons _ _ _ _ (.sls (.cons _ _ _ _ (VEq.of_lepl (.cons _ _ _ _ (.same _) .nil) rfl) (.cons _ _ _ _ (VEq.of_lepl (.cons _ _ _ _ (.same _) .nil) rfl) (.cons _ _ _ _ (VEq.of_lepl (.cons _ _ _ _ (.same _) .nil) rfl) (.cons _ _ _ _ (VEq.of_lepl (.cons _ _ _ _ (.same _) .nil) rfl) (.cons _ _ _ _ (VEq.of_lepl (.cons _ _ _ _ (.same _) .nil) rfl) (.cons _ _ _ _ (VEq.of_lepl (.cons _ _ _ _ (.same _) .nil) rfl) (.cons _ _ _ _ (VEq.of_lepl (.cons _ _ _ _ (.same _) .nil) rfl) .nil)))))))) .nil)) (ho := True.intro) [(63, 20000, true)] [] hP h (fun _ h => w_slices_Concat_sbyte_byte h) fun r41 _ h => ?_
                    conv => cbv
                    exact den_join' h
                · refine den_makeL 13 (fun l42 => ((tags_bit p6.Data (128 : Int)).bind fun r43 => (tags_bit p6.Pre (64 : Int)).bind fun r44 => (tags_high (W (r43 + r44)) (1 : Int)).bind fun r45 => (tags_high (p6.L.length : Int) (1 : Int)).bind fun r46 => (slices_Concat_sbyte_byte [a4.1, r21, r22, r23, r45, l42, r46]).bind fun r47 => tags_Cue_Write_K4 a4 p6 r47)) e_u8 (x := (0 : Int)) h rfl (by decide) (by decide) lp fun l42 _ h => ?_
                  conv => cbv
                  refine den_call' hP h (fun _ h => v_tags_bit h) fun r43 _ h => ?_
                  conv => cbv
                  refine den_call' hP h (fun _ h => v_tags_bit h) fun r44 _ h => ?_
                  conv => cbv
                  refine den_call' hP h (fun _ h => v_tags_high h) fun r45 _ h => ?_
                  conv => cbv
                  refine den_call' hP h (fun _ h => v_tags_high h) fun r46 _ h => ?_
                  conv => cbv
                  refine .mk ?_
                  conv => cbv
                  refine den_own' (hl := (.cons _ _ _ _ (.sls (.cons _ _ _ _ (VEq.of_lepl (.cons _ _ _ _ (.same _) .nil) rfl) (.cons _ _ _ _ (VEq.of_lepl (.cons _ _ _ _ (.same _) .nil) rfl) (.cons _ _ _ _ (VEq.of_lepl (.cons _ _ _ _ (.same _) .nil) rfl) (.cons _ _ _ _ (VEq.of_lepl (.cons _ _ _ _ (.same _) .nil) rfl) (.cons _ _ _ _ (VEq.of_lepl (.cons _ _ _ _ (.same _) .nil) rfl) (.cons _ _ _ _ (VEq.of_lepl (.cons _ _ _ _ (.same _) .nil) rfl) (.cons _ _ _ _ (VEq.of_lepl (.cons _ _ _ _ (.same _) .nil) rfl) .nil)))))))) .nil)) (ho := True.intro) [(63, 20000, true)] [] hP h (fun _ h => w_slices_Concat_sbyte_byte h) fun r47 _ h => ?_
                  conv => cbv
                  exact den_join' h
              · refine den_makeL 13 (fun l48 => ((tags_padding p6.Code (12 : Int)).bind fun r49 => (tags_bit p6.Data (128 : Int)).bind fun r50 => (tags_bit p6.Pre (64 : Int)).bind fun r51 => (tags_high (W (r50 + r51)) (1 : Int)).bind fun r52 => (tags_high (p6.L.length : Int) (1 : Int)).bind fun r53 => (slices_Concat_sbyte_byte [a4.1, r21, r22, r49, r52, l48, r53]).bind fun r54 => tags_Cue_Write_K4 a4 p6 r54)) e_u8 (x := (0 : Int)) h rfl (by decide) (by decide) lp fun l48 _ h => ?_
                conv => cbv
                refine .mk ?_
                conv => cbv
                refine den_call' hP h (fun _ h => v_tags_padding h) fun r49 _ h => ?_
                conv => cbv
                refine den_call' hP h (fun _ h => v_tags_bit h) fun r50 _ h => ?_
                conv => cbv
                refine den_call' hP h (fun _ h => v_tags_bit h) fun r51 _ h => ?_
                conv => cbv
                refine den_call' hP h (fun _ h => v_tags_high h) fun r52 _ h => ?_
                conv => cbv
                refine den_call' hP h (fun _ h => v_tags_high h) fun r53 _ h => ?_
                conv => cbv
                refine .mk ?_
                conv => cbv
                refine den_own' (hl := (.cons _ _ _ _ (.sls (.cons _ _ _ _ (VEq.of_lepl (.cons _ _ _ _ (.same _) .nil) rfl) (.cons _ _ _ _ (VEq.of_lepl (.cons _ _ _ _ (.same _) .nil) rfl) (.cons _ _ _ _ (VEq.of_lepl (.cons _ _ _ _ (.same _) .nil) rfl) (.cons _ _ _ _ (VEq.of_lepl (.cons _ _ _ _ (.same _) .nil) rfl) (.cons _ _ _ _ (VEq.of_lepl (.cons _ _ _ _ (.same _) .nil) rfl) (.cons _ _ _ _ (VEq.of_lepl (.cons _ _ _ _ (.same _) .nil) rfl) (.cons _ _ _ _ (VEq.of_lepl (.cons _ _ _ _ (.same _) .nil) rfl) .nil)))))))) .nil)) (ho := True.intro) [(63, 20000, true)] [] hP h (fun _ h => w_slices_Concat_sbyte_byte h) fun r54 _ h => ?_
                conv => cbv
                exact den_join' h
            · refine den_makeL 13 (fun l55 => ((tags_high p6.Number (1 : Int)).bind fun r56 => (tags_padding p6.Code (12 : Int)).bind fun r57 => (tags_bit p6.Data (128 : Int)).bind fun r58 => (tags_bit p6.Pre (64 : Int)).bind fun r59 => (tags_high (W (r58 + r59)) (1 : Int)).bind fun r60 => (tags_high (p6.L.length : Int) (1 : Int)).bind fun r61 => (slices_Concat_sbyte_byte [a4.1, r21, r56, r57, r60, l55, r61]).bind fun r62 => tags_Cue_Write_K4 a4 p6 r62)) e_u8 (x := (0 : Int)) h rfl (by decide) (by decide) lp fun l55 _ h => ?_
              conv => cbv
              refine den_call' hP h (fun _ h => v_tags_high h) fun r56 _ h => ?_
              conv => cbv
              refine .mk ?_
              conv => cbv
              refine den_call' hP h (fun _ h => v_tags_padding h) fun r57 _ h => ?_
              conv => cbv
              refine den_call' hP h (fun _ h => v_tags_bit h) fun r58 _ h => ?_
              conv => cbv
              refine den_call' hP h (fun _ h => v_tags_bit h) fun r59 _ h => ?_
              conv => cbv
              refine den_call' hP h (fun _ h => v_tags_high h) fun r60 _ h => ?_
              conv => cbv
              refine den_call' hP h (fun _ h => v_tags_high h) fun r61 _ h => ?_
              conv => cbv
              refine .mk ?_
              conv => cbv
              refine den_own' (hl := (.cons _ _ _ _ (.sls (.cons _ _ _ _ (VEq.of_lepl (.cons _ _ _ _ (.same _) .nil) rfl) (.cons _ _ _ _ (VEq.of_lepl (.cons _ _ _ _ (.same _) .nil) rfl) (.cons _ _ _ _ (VEq.of_lepl (.cons _ _ _ _ (.same _) .nil) rfl) (.cons _ _ _ _ (VEq.of_lepl (.cons _ _ _ _ (.same _) .nil) rfl) (.cons _ _ _ _ (VEq.of_lepl (.cons _ _ _ _ (.same _) .nil) rfl) (.cons _ _ _ _ (VEq.of_lepl (.cons _ _ _ _ (.same _) .nil) rfl) (.cons _ _ _ _ (VEq.of_lepl (.cons _ _ _ _ (.same _) .nil) rfl) .nil)))))))) .nil)) (ho := True.intro) [(63, 20000, true)] [] hP h (fun _ h => w_slices_Concat_sbyte_byte h) fun r62 _ h => ?_
              conv => cbv
              exact den_join' h
          · refine den_makeL 13 (fun l63 => ((tags_high p6.Offset (8 : Int)).bind fun r64 => (tags_high p6.Number (1 : Int)).bind fun r65 => (tags_padding p6.Code (12 : Int)).bind fun r66 => (tags_bit p6.Data (128 : Int)).bind fun r67 => (tags_bit p6.Pre (64 : Int)).bind fun r68 => (tags_high (W (r67 + r68)) (1 : Int)).bind fun r69 => (tags_high (p6.L.length : Int) (1 : Int)).bind fun r70 => (slices_Concat_sbyte_byte [a4.1, r64, r65, r66, r69, l63, r70]).bind fun r71 => tags_Cue_Write_K4 a4 p6 r71)) e_u8 (x := (0 : Int)) h rfl (by decide) (by decide) lp fun l63 _ h => ?_
            conv => cbv
            refine den_call' hP h (fun _ h => v_tags_high h) fun r64 _ h => ?_
            conv => cbv
            refine den_call' hP h (fun _ h => v_tags_high h) fun r65 _ h => ?_
            conv => cbv
            refine .mk ?_
            conv => cbv
            refine den_call' hP h (fun _ h => v_tags_padding h) fun r66 _ h => ?_
            conv => cbv
            refine den_call' hP h (fun _ h => v_tags_bit h) fun r67 _ h => ?_
            conv => cbv
            refine den_call' hP h (fun _ h => v_tags_bit h) fun r68 _ h => ?_
            conv => cbv
            refine den_call' hP h (fun _ h => v_tags_high h) fun r69 _ h => ?_
            conv => cbv
            refine den_call' hP h (fun _ h => v_tags_high h) fun r70 _ h => ?_
            conv => cbv
            refine .mk ?_
            conv => cbv
            refine den_own' (hl := (.cons _ _ _ _ (.sls (.cons _ _ _ _ (VEq.of_lepl (.cons _ _ _ _ (.same _) .nil) rfl) (.cons _ _ _ _ (VEq.of_lepl (.cons _ _ _ _ (.same _) .nil) rfl) (.cons _ _ _ _ (VEq.of_lepl (.cons _ _ _ _ (.same _) .nil) rfl) (.cons _ _ _ _ (VEq.of_lepl (.cons _ _ _ _ (.same _) .nil) rfl) (.cons _ _ _ _ (VEq.of_lepl (.cons _ _ _ _ (.same _) .nil) rfl) (.cons _ _ _ _ (VEq.of_lepl (.cons _ _ _ _ (.same _) .nil) rfl) (.cons _ _ _ _ (VEq.of_lepl (.cons _ _ _ _ (.same _) .nil) rfl) .nil)))))))) .nil)) (ho := True.intro) [(63, 20000, true)] [] hP h (fun _ h => w_slices_Concat_sbyte_byte h) fun r71 _ h => ?_
            conv => cbv
            exact den_join' h
        unfold tags_Cue_Write_K4 at h
        conv => cbv
        refine den_loop' (tags_Cue_Write_L2 a4 p6) h (fun a8 => ⟨[(5, .sl 1 e_u8 a8.1), (33, .sl 6 e_tags_Track y0.L), (34, .int .i64 (.len y0.L)), (35, .int .i64 (.v a4.2)), (65, .sl 2 e_tags_Index p6.L), (66, .int .i64 (.len p6.L)), (67, .int .i64 (.v a8.2))], [], []⟩) (fun _ _ a8 x2 h hb2 hx2 => ?_)
        unfold tags_Cue_Write_L2 at h
        conv => cbv
        refine den_br h (fun _ h => ?_) (fun _ h => ?_)
        · conv => cbv
          refine den_elem h fun p9 _ h => ?_
          conv => cbv
          refine .mk (some [78, 80]) (by kernel_rfl) ?_
          conv => cbv
          refine .mk ?_
          conv => cbv
          refine ⟨?_, ?_⟩
          · refine den_call' hP h (fun _ h => v_tags_high h) fun r10 _ h => ?_
            conv => cbv
            refine ⟨?_, ?_⟩
            · refine den_call' hP h (fun _ h => v_tags_high h) fun r11 _ h => ?_
              conv => cbv
              refine den_makeL 3 (fun l12 => ((slices_Concat_sbyte_byte [a8.1, r10, r11, l12]).bind fun r13 => some (Sum.inl (r13, (W (a8.2 + 1)))))) e_u8 (x := (0 : Int)) h rfl (by decide) (by decide) lp fun l12 _ h => ?_
              conv => cbv
              refine den_own' (hl := (.cons _ _ _ _ (.sls (.cons _ _ _ _ (VEq.of_lepl (.cons _ _ _ _ (.same _) .nil) rfl) (.cons _ _ _ _ (VEq.of_lepl (.cons _ _ _ _ (.same _) .nil) rfl) (.cons _ _ _ _ (VEq.of_lepl (.cons _ _ _ _ (.same _) .nil) rfl) (.cons _ _ _ _ (VEq.of_lepl (.cons _ _ _ _ (.same _) .nil) rfl) .nil))))) .nil)) (ho := True.intro) [(80, 20000, true)] [] hP h (fun _ h => w_slices_Concat_sbyte_byte h) fun r13 _ h => ?_
              conv => cbv
              exact den_back' h hb2
            · refine den_makeL 3 (fun l14 => ((tags_high p9.Number (1 : Int)).bind fun r15 => (slices_Concat_sbyte_byte [a8.1, r10, r15, l14]).bind fun r16 => some (Sum.inl (r16, (W (a8.2 + 1)))))) e_u8 (x := (0 : Int)) h rfl (by decide) (by decide) lp fun l14 _ h => ?_
              conv => cbv
              refine den_call' hP h (fun _ h => v_tags_high h) fun r15 _ h => ?_
              conv => cbv
              refine den_own' (hl := (.cons _ _ _ _ (.sls (.cons _ _ _ _ (VEq.of_lepl (.cons _ _ _ _ (.same _) .nil) rfl) (.cons _ _ _ _ (VEq.of_lepl (.cons _ _ _ _ (.same _) .nil) rfl) (.cons _ _ _ _ (VEq.of_lepl (.cons _ _ _ _ (.same _) .nil) rfl) (.cons _ _ _ _ (VEq.of_lepl (.cons _ _ _ _ (.same _) .nil) rfl) .nil))))) .nil)) (ho := True.intro) [(80, 20000, true)] [] hP h (fun _ h => w_slices_Concat_sbyte_byte h) fun r16 _ h => ?_
              conv => cbv
              exact den_back' h hb2
          · refine den_makeL 3 (fun l17 => ((tags_high p9.Offset (8 : Int)).bind fun r18 => (tags_high p9.Number (1 : Int)).bind fun r19 => (slices_Concat_sbyte_byte [a8.1, r18, r19, l17]).bind fun r20 => some (Sum.inl (r20, (W (a8.2 + 1)))))) e_u8 (x := (0 : Int)) h rfl (by decide) (by decide) lp fun l17 _ h => ?_
            conv => cbv
            refine den_call' hP h (fun _ h => v_tags_high h) fun r18 _ h => ?_
            conv => cbv
            refine den_call' hP h (fun _ h => v_tags_high h) fun r19 _ h => ?_
            conv => cbv
            refine den_own' (hl := (.cons _ _ _ _ (.sls (.cons _ _ _ _ (VEq.of_lepl (.cons _ _ _ _ (.same _) .nil) rfl) (.cons _ _ _ _ (VEq.of_lepl (.cons _ _ _ _ (.same _) .nil) rfl) (.cons _ _ _ _ (VEq.of_lepl (.cons _ _ _ _ (.same _) .nil) rfl) (.cons _ _ _ _ (VEq.of_lepl (.cons _ _ _ _ (.same _) .nil) rfl) .nil))))) .nil)) (ho := True.intro) [(80, 20000, true)] [] hP h (fun _ h => w_slices_Concat_sbyte_byte h) fun r20 _ h => ?_
            conv => cbv
            exact den_back' h hb2
        conv => cbv
        replace h := den_out h hx2
        exact den_join' h
      unfold tags_Cue_Write_K3 at h
      conv => cbv
      exact den_back' h hb1
    conv => cbv
    replace h := den_out h hx1
    exact den_join' h
  unfold tags_Cue_Write_K2 at h
  conv => cbv
  cases h
  exact .tup _ _ lp
def T_jetsamref13_code : Tab := [(9, ⟨.str, 1, 16, [.str (.lit [])]⟩)]
theorem T_jetsamref13_code_ok : TabOk Tryd.prog T_jetsamref13_code := tab_ok [9]
theorem v_jetsamref13_code {y0 : List UInt8} {r : Bool} (h : jetsamref13_code y0 = some r) : AVal Tryd.prog Gl 60 [e_str y0] (e_bool r) := by
  refine aval_of' T_jetsamref13_code Gl 40 Tryd.func60 T_jetsamref13_code_ok Tryd_mixed fun P hP _ => ?_
  unfold jetsamref13_code at h
  conv => cbv
  refine den_cut' (r := r) (jetsamref13_code_K1 y0) (fun j1 => ⟨[(0, .str (.v y0))], [], []⟩) ?_ (fun j1 h => ?_)
  · conv => cbv
    refine den_loop' (jetsamref13_code_L1 y0) h (fun a2 => ⟨[(0, .str (.v y0)), (3, .int .i64 (.v a2))], [], []⟩) (fun _ _ a2 x1 h hb1 hx1 => ?_)
    unfold jetsamref13_code_L1 at h
    conv => cbv
    refine den_br h (fun _ h => ?_) (fun _ h => ?_)
    · conv => cbv
      refine den_elemS h fun b3 _ h => ?_
      conv => cbv
      refine .mk ?_
      conv => cbv
      refine den_br h (fun _ h => ?_) (fun _ h => ?_)
      · conv => cbv
        refine .mk ?_
        conv => cbv
        refine den_elemS h fun b4 _ h => ?_
        conv => cbv
        refine .mk ?_
        conv => cbv
        refine den_br h (fun _ h => ?_) (fun _ h => ?_)
        · conv => cbv
          replace h := den_out h hx1
          cases h
          exact lp
        conv => cbv
        refine den_elemS h fun b5 _ h => ?_
        conv => cbv
        refine den_br h (fun _ h => ?_) (fun _ h => ?_)
        · conv => cbv
          replace h := den_out h hx1
          cases h
          exact lp
        conv => cbv
        exact den_back' h hb1
      conv => cbv
      refine den_elemS h fun b6 _ h => ?_
      conv => cbv
      refine .mk ?_
      conv => cbv
      refine den_br h (fun _ h => ?_) (fun _ h => ?_)
      · conv => cbv
        refine den_elemS h fun b7 _ h => ?_
        conv => cbv
        refine .mk ?_
        conv => cbv
        refine den_br h (fun _ h => ?_) (fun _ h => ?_)
        · conv => cbv
          replace h := den_out h hx1
          cases h
          exact lp
        conv => cbv
        refine den_elemS h fun b8 _ h => ?_
        conv => cbv
        refine den_br h (fun _ h => ?_) (fun _ h => ?_)
        · conv => cbv
          replace h := den_out h hx1
          cases h
          exact lp
        conv => cbv
        exact den_back' h hb1
      conv => cbv
      refine .mk ?_
      conv => cbv
      exact den_back' h hb1
    conv => cbv
    replace h := den_out h hx1
    exact den_join' h
  unfold jetsamref13_code_K1 at h
  conv => cbv
  refine .mk ?_
  conv => cbv
  cases h
  exact lp
def T_jetsamref13_Wrong : Tab := [(3, ⟨.int .i64, 1, 8, [.int .i64 (.lit 0)]⟩), (9, ⟨.str, 1, 16, [.str (.lit [])]⟩), (59, ⟨.slice 95, 1, 24, [.nilsl]⟩), (93, ⟨.slice 98, 1, 24, [.nilsl]⟩), (95, ⟨.struct [(0, 3), (1, 3), (2, 3), (3, 9), (4, 93)], 5, 64, [.int .i64 (.lit 0), .int .i64 (.lit 0), .int .i64 (.lit 0), .str (.lit []), .nilsl]⟩), (98, ⟨.arr 2 3, 2, 16, [.int .i64 (.lit 0), .int .i64 (.lit 0)]⟩)]
theorem T_jetsamref13_Wrong_ok : TabOk Tryd.prog T_jetsamref13_Wrong := tab_ok [3, 9, 59, 93, 95, 98]
theorem v_jetsamref13_Wrong {y0 : List UInt8} {y1 : Int} {y2 : List jetsamref13_Track} {r : Int} (h : jetsamref13_Wrong y0 y1 y2 = some r) : AVal Tryd.prog Gl 29 [e_str y0, e_i64 y1, (e_sl 5 e_jetsamref13_Track) y2] (e_i64 r) := by
  refine aval_of' T_jetsamref13_Wrong Gl 160 Tryd.func29 T_jetsamref13_Wrong_ok Tryd_mixed fun P hP _ => ?_
  unfold jetsamref13_Wrong at h
  conv => cbv
  refine den_br h (fun _ h => ?_) (fun _ h => ?_)
  · conv => cbv
    cases h
    exact lp
  conv => cbv
  refine .mk ?_
  conv => cbv
  refine den_cut' (r := r) (jetsamref13_Wrong_K1 y1 y2) (fun j1 => ⟨[(2, .sl 5 e_jetsamref13_Track y2), (7, .bool (.ite (.cmp .leq (.len y2) (.lit 100)) (.cmp .geq (.v y1) (.lit 0)) (.lit false))), (8, .bool (.v j1)), (9, .bool (.lit false))], [], []⟩) ?_ (fun j1 h => ?_)
  · conv => cbv
    refine den_loop' (jetsamref13_Wrong_L4 y0 y1 y2) h (fun a16 => ⟨[(0, .str (.v y0)), (2, .sl 5 e_jetsamref13_Track y2), (7, .bool (.ite (.cmp .leq (.len y2) (.lit 100)) (.cmp .geq (.v y1) (.lit 0)) (.lit false))), (8, .bool (.v a16.1)), (9, .bool (.lit false)), (10, .int .i64 (.v a16.2))], [], []⟩) (fun _ _ a16 x1 h hb1 hx1 => ?_)
    unfold jetsamref13_Wrong_L4 at h
    conv => cbv
    refine den_br h (fun _ h => ?_) (fun _ h => ?_)
    · conv => cbv
      refine .mk ?_
      conv => cbv
      refine den_br h (fun _ h => ?_) (fun _ h => ?_)
      · conv => cbv
        refine den_elemS h fun b17 _ h => ?_
        conv => cbv
        refine .mk ?_
        conv => cbv
        refine den_br h (fun _ h => ?_) (fun _ h => ?_)
        · conv => cbv
          refine den_elemS h fun b18 _ h => ?_
          conv => cbv
          exact den_back' h hb1
        conv => cbv
        exact den_back' h hb1
      conv => cbv
      refine .mk ?_
      conv => cbv
      exact den_back' h hb1
    conv => cbv
    replace h := den_out h hx1
    exact den_join' h
  unfold jetsamref13_Wrong_K1 at h
  conv => cbv
  refine den_cut' (r := r) jetsamref13_Wrong_K2 (fun j2 => ⟨[(7, .bool (.v j2.1)), (8, .bool (.v j2.2.1)), (9, .bool (.v j2.2.2))], [], []⟩) ?_ (fun j2 h => ?_)
  · conv => cbv
    refine den_loop' (jetsamref13_Wrong_L1 y2) h (fun a3 => ⟨[(2, .sl 5 e_jetsamref13_Track y2), (7, .bool (.v a3.1)), (8, .bool (.v a3.2.1)), (9, .bool (.v a3.2.2.1)), (11, .int .i64 (.v a3.2.2.2))], [], []⟩) (fun _ _ a3 x1 h hb1 hx1 => ?_)
    unfold jetsamref13_Wrong_L1 at h
    conv => cbv
    refine den_br h (fun _ h => ?_) (fun _ h => ?_)
    · conv => cbv
      refine den_cut' (r := x1) (jetsamref13_Wrong_K3 a3) (fun j4 => ⟨[(2, .sl 5 e_jetsamref13_Track y2), (7, .bool (.v j4.1)), (8, .bool (.v j4.2.1)), (9, .bool (.v j4.2.2)), (11, .int .i64 (.v a3.2.2.2))], [], []⟩) ?_ (fun j4 h => ?_)
      · conv => cbv
        refine .mk ?_
        conv => cbv
        refine den_elem h fun p5 _ h => ?_
        conv => cbv
        refine .mk ?_
        conv => cbv
        refine .mk ?_
        conv => cbv
        refine den_cut' (r := x1) (jetsamref13_Wrong_K4 y2 a3 p5) (fun j6 => ⟨[(2, .sl 5 e_jetsamref13_Track y2), (7, .bool (.v j6)), (8, .bool (.v a3.2.1)), (9, .bool (.v a3.2.2.1)), (11, .int .i64 (.v a3.2.2.2)), (12, .ptr 12 0)], [(12, .var [.int .i64 (.v p5.Offset), .int .i64 (.v p5.Number), .int .i64 (.v p5.Flags), .str (.v p5.Code), .sl 2 (e_arr2 e_i64) p5.L])], []⟩) ?_ (fun j6 h => ?_)
        · conv => cbv
          refine den_br h (fun _ h => ?_) (fun _ h => ?_)
          · conv => cbv
            refine .mk ?_
            conv => cbv
            exact den_join' h
          conv => cbv
          refine .mk ?_
          conv => cbv
          refine .mk ?_
          conv => cbv
          exact den_join' h
        unfold jetsamref13_Wrong_K4 at h
        conv => cbv
        refine den_cut' (r := x1) (jetsamref13_Wrong_K5 y2 a3 p5) (fun j7 => ⟨[(2, .sl 5 e_jetsamref13_Track y2), (7, .bool (.v j7)), (8, .bool (.v a3.2.1)), (9, .bool (.v a3.2.2.1)), (11, .int .i64 (.v a3.2.2.2)), (12, .ptr 12 0)], [(12, .var [.int .i64 (.v p5.Offset), .int .i64 (.v p5.Number), .int .i64 (.v p5.Flags), .str (.v p5.Code), .sl 2 (e_arr2 e_i64) p5.L])], []⟩) ?_ (fun j7 h => ?_)
        · conv => cbv
          refine den_loop' (jetsamref13_Wrong_L3 y2 a3 p5) h (fun a12 => ⟨[(2, .sl 5 e_jetsamref13_Track y2), (7, .bool (.v a12.1)), (8, .bool (.v a3.2.1)), (9, .bool (.v a3.2.2.1)), (11, .int .i64 (.v a3.2.2.2)), (12, .ptr 12 0), (13, .int .i64 (.v a12.2))], [(12, .var [.int .i64 (.v p5.Offset), .int .i64 (.v p5.Number), .int .i64 (.v p5.Flags), .str (.v p5.Code), .sl 2 (e_arr2 e_i64) p5.L])], []⟩) (fun _ _ a12 x2 h hb2 hx2 => ?_)
          unfold jetsamref13_Wrong_L3 at h
          conv => cbv
          refine den_br h (fun _ h => ?_) (fun _ h => ?_)
          · conv => cbv
            refine .mk ?_
            conv => cbv
            refine den_br h (fun _ h => ?_) (fun _ h => ?_)
            · conv => cbv
              refine den_elem h fun p13 _ h => ?_
              conv => cbv
              refine .mk ?_
              conv => cbv
              refine den_br h (fun _ h => ?_) (fun _ h => ?_)
              · conv => cbv
                refine den_elem h fun p14 _ h => ?_
                conv => cbv
                refine .mk ?_
                conv => cbv
                refine .mk ?_
                conv => cbv
                refine den_br h (fun _ h => ?_) (fun _ h => ?_)
                · conv => cbv
                  refine den_elem h fun p15 _ h => ?_
                  conv => cbv
                  exact den_back' h hb2
                conv => cbv
                exact den_back' h hb2
              conv => cbv
              refine .mk ?_
              conv => cbv
              refine .mk ?_
              conv => cbv
              exact den_back' h hb2
            conv => cbv
            refine .mk ?_
            conv => cbv
            refine .mk ?_
            conv => cbv
            refine .mk ?_
            conv => cbv
            exact den_back' h hb2
          conv => cbv
          replace h := den_out h hx2
          exact den_join' h
        unfold jetsamref13_Wrong_K5 at h
        conv => cbv
        refine den_cut' (r := x1) (jetsamref13_Wrong_K6 y2 a3 p5 j7) (fun j8 => ⟨[(2, .sl 5 e_jetsamref13_Track y2), (7, .bool (.v j7)), (8, .bool (.v j8)), (9, .bool (.v a3.2.2.1)), (11, .int .i64 (.v a3.2.2.2)), (12, .ptr 12 0)], [(12, .var [.int .i64 (.v p5.Offset), .int .i64 (.v p5.Number), .int .i64 (.v p5.Flags), .str (.v p5.Code), .sl 2 (e_arr2 e_i64) p5.L])], []⟩) ?_ (fun j8 h => ?_)
        · conv => cbv
          refine .mk ?_
          conv => cbv
          refine den_br h (fun _ h => ?_) (fun _ h => ?_)
          · conv => cbv
            refine den_call' hP h (fun _ h => v_jetsamref13_code h) fun r11 _ h => ?_
            conv => cbv
            exact den_join' h
          conv => cbv
          exact den_join' h
        unfold jetsamref13_Wrong_K6 at h
        conv => cbv
        refine den_loop' (jetsamref13_Wrong_L2 y2 a3 p5 j7 j8) h (fun a9 => ⟨[(2, .sl 5 e_jetsamref13_Track y2), (7, .bool (.v j7)), (8, .bool (.v j8)), (9, .bool (.v a9.1)), (11, .int .i64 (.v a3.2.2.2)), (12, .ptr 12 0), (14, .int .i64 (.v a9.2))], [(12, .var [.int .i64 (.v p5.Offset), .int .i64 (.v p5.Number), .int .i64 (.v p5.Flags), .str (.v p5.Code), .sl 2 (e_arr2 e_i64) p5.L])], []⟩) (fun _ _ a9 x2 h hb2 hx2 => ?_)
        unfold jetsamref13_Wrong_L2 at h
        conv => cbv
        refine den_br h (fun _ h => ?_) (fun _ h => ?_)
        · conv => cbv
          refine .mk (some []) (by kernel_rfl) ?_
          conv => cbv
          refine .mk ?_
          conv => cbv
          refine den_br h (fun _ h => ?_) (fun _ h => ?_)
          · conv => cbv
            refine .mk ?_
            conv => cbv
            exact den_back' h hb2
          conv => cbv
          refine den_elem h fun p10 _ h => ?_
          conv => cbv
          refine .mk ?_
          conv => cbv
          exact den_back' h hb2
        conv => cbv
        replace h := den_out h hx2
        exact den_join' h
      unfold jetsamref13_Wrong_K3 at h
      conv => cbv
      exact den_back' h hb1
    conv => cbv
    replace h := den_out h hx1
    exact den_join' h
  unfold jetsamref13_Wrong_K2 at h
  conv => cbv
  refine den_br h (fun _ h => ?_) (fun _ h => ?_)
  · conv => cbv
    cases h
    exact lp
  conv => cbv
  refine den_br h (fun _ h => ?_) (fun _ h => ?_)
  · conv => cbv
    cases h
    exact lp
  conv => cbv
  refine den_br h (fun _ h => ?_) (fun _ h => ?_)
  · conv => cbv
    cases h
    exact lp
  conv => cbv
  cases h
  exact lp
def Tw_jetsamref13_padded : Tab := [(5, ⟨.int .u8, 1, 1, [.int .u8 (.lit 0)]⟩), (9, ⟨.str, 1, 16, [.str (.lit [])]⟩), (27, ⟨.slice 5, 1, 24, [.nilsl]⟩)]
theorem Tw_jetsamref13_padded_ok : TabOk Tryd.prog Tw_jetsamref13_padded := tab_ok [5, 9, 27]
theorem w_jetsamref13_padded {y0 : List UInt8} {y1 : Int} {r : List Int} (h : jetsamref13_padded y0 y1 = some r) : ACalls Tryd.prog Gl 61 [e_str y0, e_i64 y1] [] (fun x o' => x = .osl 20000 ∧ o' = [(20000, .arr false 5 1 e_u8 r)]) := by
  refine acalls_of' Tw_jetsamref13_padded Gl 17 [] Tryd.func61 Tw_jetsamref13_padded_ok Tryd_mixed fun P hP _ => ?_
  unfold jetsamref13_padded at h
  conv => cbv
  refine den_app_nil 1005 e_u8 (xs := (bytesI y0)) h (News.map (by first | rfl | (cases y0 <;> rfl))) fun l1 _ h => ?_
  conv => cbv
  refine den_cut' (r := r) jetsamref13_padded_K1 (fun j2 => ⟨[(5, .osl 1005)], [(1005, .arr false 5 1 e_u8 j2)], []⟩) ?_ (fun j2 h => ?_)
  · conv => cbv
    refine den_loop' (jetsamref13_padded_L1 y1) h (fun a3 => ⟨[(1, .int .i64 (.v y1)), (5, .osl 1005)], [(1005, .arr false 5 1 e_u8 a3)], []⟩) (fun _ _ a3 x1 h hb1 hx1 => ?_)
    unfold jetsamref13_padded_L1 at h
    conv => cbv
    refine den_br h (fun _ h => ?_) (fun _ h => ?_)
    · conv => cbv
      refine .data ?_
      conv => cbv
      refine den_app_own e_u8 (xs := [(0 : Int)]) h rfl lp fun l4 _ h => ?_
      conv => cbv
      exact den_back' h hb1
    conv => cbv
    replace h := den_out h hx1
    exact den_join' h
  unfold jetsamref13_padded_K1 at h
  conv => cbv
  refine .mk [(1005, 20000, false)] [] rfl rfl ?_ ?_
  · conv => cbv
    cases h
    exact lp
  · conv => cbv
    cases h
    exact lp
def T_jetsamref12_Big : Tab := [(3, ⟨.int .i64, 1, 8, [.int .i64 (.lit 0)]⟩), (5, ⟨.int .u8, 1, 1, [.int .u8 (.lit 0)]⟩), (27, ⟨.slice 5, 1, 24, [.nilsl]⟩)]
theorem T_jetsamref12_Big_ok : TabOk Tryd.prog T_jetsamref12_Big := tab_ok [3, 5, 27]
theorem v_jetsamref12_Big {y0 : Int} {y1 : Int} {r : List Int} (h : jetsamref12_Big y0 y1 = some r) : AVal Tryd.prog Gl 54 [e_i64 y0, e_i64 y1] ((e_sl 1 e_u8) r) := by
  refine aval_of' T_jetsamref12_Big Gl 23 Tryd.func54 T_jetsamref12_Big_ok Tryd_mixed fun P hP _ => ?_
  unfold jetsamref12_Big at h
  conv => cbv
  refine den_cut' (r := r) jetsamref12_Big_K1 (fun j1 => ⟨[(5, .osl 1005)], [(1005, .arr false 5 1 e_u8 j1)], []⟩) ?_ (fun j1 h => ?_)
  · conv => cbv
    refine den_loop (jetsamref12_Big_L1 y0) h (fun a2 : Int × (List Int) => ⟨[(0, .int .i64 (.v y0)), (5, .osl 1005), (6, .int .i64 (.v a2.1))], [(1005, .arr false 5 1 e_u8 a2.2)], []⟩) ?_ (fun _ _ a2 x1 h hb1 hx1 => ?_)
    · intro j0 hj
      conv => cbv
      subst hj
      exact ⟨⟨.arr _ _ _ _ _ _ rfl, trivial⟩, .same _, .own _ _ _ _ _ _ rfl rfl, .int _ _ _ rfl, trivial⟩
    unfold jetsamref12_Big_L1 at h
    conv => cbv
    refine den_br h (fun _ h => ?_) (fun _ h => ?_)
    · conv => cbv
      refine .mk ?_
      conv => cbv
      refine den_chk h fun h => ?_
      conv => cbv
      refine .data ?_
      conv => cbv
      refine den_app_own e_u8 (xs := [(IntKind.u8.wrap ((shD .shr .i64 y0 (W (8 * a2.1))).tmod 256))]) h rfl lp fun l3 _ h => ?_
      conv => cbv
      exact den_back' h hb1
    conv => cbv
    replace h := den_out h hx1
    exact den_join' h
  unfold jetsamref12_Big_K1 at h
  conv => cbv
  cases h
  exact lp
def T_jetsamref13_Cue : Tab := [(3, ⟨.int .i64, 1, 8, [.int .i64 (.lit 0)]⟩), (5, ⟨.int .u8, 1, 1, [.int .u8 (.lit 0)]⟩), (9, ⟨.str, 1, 16, [.str (.lit [])]⟩), (27, ⟨.slice 5, 1, 24, [.nilsl]⟩), (59, ⟨.slice 95, 1, 24, [.nilsl]⟩), (93, ⟨.slice 98, 1, 24, [.nilsl]⟩), (95, ⟨.struct [(0, 3), (1, 3), (2, 3), (3, 9), (4, 93)], 5, 64, [.int .i64 (.lit 0), .int .i64 (.lit 0), .int .i64 (.lit 0), .str (.lit []), .nilsl]⟩), (98, ⟨.arr 2 3, 2, 16, [.int .i64 (.lit 0), .int .i64 (.lit 0)]⟩)]
theorem T_jetsamref13_Cue_ok : TabOk Tryd.prog T_jetsamref13_Cue := tab_ok [3, 5, 9, 27, 59, 93, 95, 98]
theorem v_jetsamref13_Cue {y0 : List UInt8} {y1 : Int} {y2 : Bool} {y3 : List jetsamref13_Track} {r : List Int} (h : jetsamref13_Cue y0 y1 y2 y3 = some r) : AVal Tryd.prog Gl 30 [e_str y0, e_i64 y1, e_bool y2, (e_sl 5 e_jetsamref13_Track) y3] ((e_sl 1 e_u8) r) := by
  refine aval_of' T_jetsamref13_Cue Gl 104 Tryd.func30 T_jetsamref13_Cue_ok Tryd_mixed fun P hP _ => ?_
  unfold jetsamref13_Cue at h
  conv => cbv
  refine den_own' (hl := (.cons _ _ _ _ (.same _) (.cons _ _ _ _ (.int _ _ _ rfl) .nil))) (ho := True.intro) [(14, 20000, true)] [] hP h (fun _ h => w_jetsamref13_padded h) fun r1 _ h => ?_
  conv => cbv
  refine den_call' hP h (fun _ h => v_jetsamref12_Big h) fun r2 _ h => ?_
  conv => cbv
  refine den_app_own e_u8 (xs := r2) h rfl (News.map rfl) fun l3 _ h => ?_
  conv => cbv
  refine den_cut' (r := r) (jetsamref13_Cue_K1 y3) (fun j4 => ⟨[(3, .sl 5 e_jetsamref13_Track y3), (9, .osl 14)], [(14, .arr false 5 1 e_u8 j4)], []⟩) ?_ (fun j4 h => ?_)
  · conv => cbv
    refine den_br h (fun _ h => ?_) (fun _ h => ?_)
    · conv => cbv
      refine .data ?_
      conv => cbv
      refine den_app_own e_u8 (xs := [(128 : Int)]) h rfl lp fun l27 _ h => ?_
      conv => cbv
      exact den_join' h
    conv => cbv
    refine .data ?_
    conv => cbv
    refine den_app_own e_u8 (xs := [(0 : Int)]) h rfl lp fun l28 _ h => ?_
    conv => cbv
    exact den_join' h
  unfold jetsamref13_Cue_K1 at h
  conv => cbv
  refine den_own' (hl := (.cons _ _ _ _ (.str _ _ rfl) (.cons _ _ _ _ (.int _ _ _ rfl) .nil))) (ho := True.intro) [(27, 20000, true)] [] hP h (fun _ h => w_jetsamref13_padded h) fun r5 _ h => ?_
  conv => cbv
  refine den_app_own e_u8 (xs := r5) h rfl (News.map rfl) fun l6 _ h => ?_
  conv => cbv
  refine .mk ?_
  conv => cbv
  refine .data ?_
  conv => cbv
  refine den_app_own e_u8 (xs := [(IntKind.u8.wrap (y3.length : Int))]) h rfl lp fun l7 _ h => ?_
  conv => cbv
  refine den_cut' (r := r) jetsamref13_Cue_K2 (fun j8 => ⟨[(9, .osl 14)], [(14, .arr false 5 1 e_u8 j8)], []⟩) ?_ (fun j8 h => ?_)
  · conv => cbv
    refine den_loop' (jetsamref13_Cue_L1 y3) h (fun a9 => ⟨[(3, .sl 5 e_jetsamref13_Track y3), (9, .osl 14), (10, .int .i64 (.v a9.1))], [(14, .arr false 5 1 e_u8 a9.2)], []⟩) (fun _ _ a9 x1 h hb1 hx1 => ?_)
    unfold jetsamref13_Cue_L1 at h
    conv => cbv
    refine den_br h (fun _ h => ?_) (fun _ h => ?_)
    · conv => cbv
      refine den_cut' (r := x1) (jetsamref13_Cue_K3 a9) (fun j10 => ⟨[(3, .sl 5 e_jetsamref13_Track y3), (9, .osl 14), (10, .int .i64 (.v a9.1))], [(14, .arr false 5 1 e_u8 j10)], []⟩) ?_ (fun j10 h => ?_)
      · conv => cbv
        refine .mk ?_
        conv => cbv
        refine den_elem h fun p11 _ h => ?_
        conv => cbv
        refine .mk ?_
        conv => cbv
        refine den_call' hP h (fun _ h => v_jetsamref12_Big h) fun r12 _ h => ?_
        conv => cbv
        refine den_app_own e_u8 (xs := r12) h rfl (News.map rfl) fun l13 _ h => ?_
        conv => cbv
        refine .mk ?_
        conv => cbv
        refine .data ?_
        conv => cbv
        refine den_app_own e_u8 (xs := [(IntKind.u8.wrap p11.Number)]) h rfl lp fun l14 _ h => ?_
        conv => cbv
        refine .mk ?_
        conv => cbv
        refine den_own' (hl := (.cons _ _ _ _ (.same _) (.cons _ _ _ _ (.int _ _ _ rfl) .nil))) (ho := True.intro) [(59, 20000, true)] [] hP h (fun _ h => w_jetsamref13_padded h) fun r15 _ h => ?_
        conv => cbv
        refine den_app_own e_u8 (xs := r15) h rfl (News.map rfl) fun l16 _ h => ?_
        conv => cbv
        refine .mk ?_
        conv => cbv
        refine .data ?_
        conv => cbv
        refine den_app_own e_u8 (xs := [(IntKind.u8.wrap p11.Flags)]) h rfl lp fun l17 _ h => ?_
        conv => cbv
        refine den_own' (hl := (.cons _ _ _ _ (.str _ _ rfl) (.cons _ _ _ _ (.int _ _ _ rfl) .nil))) (ho := True.intro) [(68, 20000, true)] [] hP h (fun _ h => w_jetsamref13_padded h) fun r18 _ h => ?_
        conv => cbv
        refine den_app_own e_u8 (xs := r18) h rfl (News.map rfl) fun l19 _ h => ?_
        conv => cbv
        refine .mk ?_
        conv => cbv
        refine .data ?_
        conv => cbv
        refine den_app_own e_u8 (xs := [(IntKind.u8.wrap (p11.L.length : Int))]) h rfl lp fun l20 _ h => ?_
        conv => cbv
        refine den_loop' (jetsamref13_Cue_L2 a9 p11) h (fun a21 => ⟨[(3, .sl 5 e_jetsamref13_Track y3), (9, .osl 14), (10, .int .i64 (.v a9.1)), (11, .ptr 11 0), (12, .int .i64 (.v a21.1))], [(11, .var [.int .i64 (.v p11.Offset), .int .i64 (.v p11.Number), .int .i64 (.v p11.Flags), .str (.v p11.Code), .sl 2 (e_arr2 e_i64) p11.L]), (14, .arr false 5 1 e_u8 a21.2)], []⟩) (fun _ _ a21 x2 h hb2 hx2 => ?_)
        unfold jetsamref13_Cue_L2 at h
        conv => cbv
        refine den_br h (fun _ h => ?_) (fun _ h => ?_)
        · conv => cbv
          refine .mk ?_
          conv => cbv
          refine den_elem h fun p22 _ h => ?_
          conv => cbv
          refine den_call' hP h (fun _ h => v_jetsamref12_Big h) fun r23 _ h => ?_
          conv => cbv
          refine den_app_own e_u8 (xs := r23) h rfl (News.map rfl) fun l24 _ h => ?_
          conv => cbv
          refine den_elem h fun p25 _ h => ?_
          conv => cbv
          refine .mk ?_
          conv => cbv
          refine .data ?_
          conv => cbv
          refine den_app_own e_u8 (xs := [(IntKind.u8.wrap p25.a1), (0 : Int), (0 : Int), (0 : Int)]) h rfl lp fun l26 _ h => ?_
          conv => cbv
          exact den_back' h hb2
        conv => cbv
        replace h := den_out h hx2
        exact den_join' h
      unfold jetsamref13_Cue_K3 at h
      conv => cbv
      exact den_back' h hb1
    conv => cbv
    replace h := den_out h hx1
    exact den_join' h
  unfold jetsamref13_Cue_K2 at h
  conv => cbv
  cases h
  exact lp
def Tx_tags_reader_take : Tab := [(4, ⟨.bool, 1, 1, [.bool (.lit false)]⟩), (5, ⟨.int .u8, 1, 1, [.int .u8 (.lit 0)]⟩), (27, ⟨.slice 5, 1, 24, [.nilsl]⟩), (80, ⟨.struct [(0, 27), (1, 4), (2, 4)], 3, 32, [.nilsl, .bool (.lit false), .bool (.lit false)]⟩)]
theorem Tx_tags_reader_take_ok : TabOk Tryd.prog Tx_tags_reader_take := tab_ok [4, 5, 27, 80]
theorem x_tags_reader_take {y0 : Int} {y1 : tags_reader} {r : (List Int) × (List Int) × Bool} (h : tags_reader_take y0 y1 = some r) : ACalls Tryd.prog Gl 74 [.ptr 10000 0, e_i64 y0] [(10000, .var [.sl 1 e_u8 y1.m_b, .bool (.v y1.m_end), .bool (.v y1.m_bad)])] (fun x o' => x = .sl 1 e_u8 r.1 ∧ o' = [(10000, .var [.sl 1 e_u8 r.2.1, .bool (.v r.2.2), .bool (.v y1.m_bad)])]) := by
  refine acalls_of' Tx_tags_reader_take Gl 39 [10000] Tryd.func74 Tx_tags_reader_take_ok Tryd_mixed fun P hP _ => ?_
  unfold tags_reader_take at h
  conv => cbv
  refine .mk ?_
  conv => cbv
  refine den_br h (fun _ h => ?_) (fun _ h => ?_)
  · conv => cbv
    refine .mk ?_
    conv => cbv
    refine .mk [(10000, 10000, false)] [] rfl rfl ?_ ?_
    · conv => cbv
      cases h
      exact ⟨.var _ _ lp, trivial⟩
    conv => cbv
    cases h
    exact lp
  conv => cbv
  refine .mk ?_
  conv => cbv
  refine den_sub h fun l1 _ h => ?_
  conv => cbv
  refine .mk ?_
  conv => cbv
  refine den_sub h fun l2 _ h => ?_
  conv => cbv
  refine .mk [(10000, 10000, false)] [] rfl rfl ?_ ?_
  · conv => cbv
    cases h
    exact ⟨.var _ _ lp, trivial⟩
  conv => cbv
  cases h
  exact lp
def T_strings_trimRightByte : Tab := [(9, ⟨.str, 1, 16, [.str (.lit [])]⟩)]
theorem T_strings_trimRightByte_ok : TabOk Tryd.prog T_strings_trimRightByte := tab_ok [9]
theorem v_strings_trimRightByte {y0 : List UInt8} {y1 : Int} {r : List UInt8} (h : strings_trimRightByte y0 y1 = some r) : AVal Tryd.prog Gl 98 [e_str y0, e_u8 y1] (e_str r) := by
  refine aval_of' T_strings_trimRightByte Gl 23 Tryd.func98 T_strings_trimRightByte_ok Tryd_mixed fun P hP _ => ?_
  unfold strings_trimRightByte at h
  conv => cbv
  refine den_cut' (r := r) strings_trimRightByte_K1 (fun j1 => ⟨[(0, .str (.v j1))], [], []⟩) ?_ (fun j1 h => ?_)
  · conv => cbv
    refine den_loop' (strings_trimRightByte_L1 y1) h (fun a2 => ⟨[(0, .str (.v a2)), (1, .int .u8 (.v y1))], [], []⟩) (fun _ _ a2 x1 h hb1 hx1 => ?_)
    unfold strings_trimRightByte_L1 at h
    conv => cbv
    refine .mk ?_
    conv => cbv
    refine .mk ?_
    conv => cbv
    refine den_br h (fun _ h => ?_) (fun _ h => ?_)
    · conv => cbv
      refine den_elemS h fun b3 _ h => ?_
      conv => cbv
      refine den_br h (fun _ h => ?_) (fun _ h => ?_)
      · conv => cbv
        refine .mk ?_
        conv => cbv
        refine den_subs h fun t4 _ h => ?_
        conv => cbv
        exact den_back' h hb1
      conv => cbv
      replace h := den_out h hx1
      exact den_join' h
    conv => cbv
    replace h := den_out h hx1
    exact den_join' h
  unfold strings_trimRightByte_K1 at h
  conv => cbv
  cases h
  exact lp
def T_strings_TrimRight : Tab := [(9, ⟨.str, 1, 16, [.str (.lit [])]⟩)]
theorem T_strings_TrimRight_ok : TabOk Tryd.prog T_strings_TrimRight := tab_ok [9]
theorem v_strings_TrimRight {y0 : List UInt8} {y1 : List UInt8} {r : List UInt8} (h : strings_TrimRight y0 y1 = some r) : AVal Tryd.prog Gl 81 [e_str y0, e_str y1] (e_str r) := by
  refine aval_of' T_strings_TrimRight Gl 37 Tryd.func81 T_strings_TrimRight_ok Tryd_mixed fun P hP _ => ?_
  unfold strings_TrimRight at h
  conv => cbv
  refine .mk ?_
  conv => cbv
  refine den_br h (fun _ h => ?_) (fun _ h => ?_)
  · conv => cbv
    cases h
    exact lp
  conv => cbv
  refine .mk ?_
  conv => cbv
  refine den_br h (fun _ h => ?_) (fun _ h => ?_)
  · conv => cbv
    refine den_elemS h fun b1 _ h => ?_
    conv => cbv
    refine den_br h (fun _ h => ?_) (fun _ h => ?_)
    · conv => cbv
      refine den_elemS h fun b2 _ h => ?_
      conv => cbv
      refine den_call' hP h (fun _ h => v_strings_trimRightByte h) fun r3 _ h => ?_
      conv => cbv
      cases h
      exact lp
    conv => cbv
    exact den_none h
  conv => cbv
  exact den_none h
def T_strings_Index : Tab := []
theorem T_strings_Index_ok : TabOk Tryd.prog T_strings_Index := tab_ok []
theorem v_strings_Index {y0 : List UInt8} {y1 : List UInt8} {r : Int} (h : strings_Index y0 y1 = some r) : AVal Tryd.prog Gl 102 [e_str y0, e_str y1] (e_i64 r) := by
  refine aval_of' T_strings_Index Gl 8 Tryd.func102 T_strings_Index_ok Tryd_mixed fun P hP _ => ?_
  unfold strings_Index at h
  conv => cbv
  refine den_call' hP h (fun _ h => v_internal_stringslite_Index h) fun r1 _ h => ?_
  conv => cbv
  cases h
  exact lp
def T_strings_Contains : Tab := []
theorem T_strings_Contains_ok : TabOk Tryd.prog T_strings_Contains := tab_ok []
theorem v_strings_Contains {y0 : List UInt8} {y1 : List UInt8} {r : Bool} (h : strings_Contains y0 y1 = some r) : AVal Tryd.prog Gl 82 [e_str y0, e_str y1] (e_bool r) := by
  refine aval_of' T_strings_Contains Gl 9 Tryd.func82 T_strings_Contains_ok Tryd_mixed fun P hP _ => ?_
  unfold strings_Contains at h
  conv => cbv
  refine den_call' hP h (fun _ h => v_strings_Index h) fun r1 _ h => ?_
  conv => cbv
  cases h
  exact lp
def Tx_tags_reader_padded : Tab := [(4, ⟨.bool, 1, 1, [.bool (.lit false)]⟩), (5, ⟨.int .u8, 1, 1, [.int .u8 (.lit 0)]⟩), (9, ⟨.str, 1, 16, [.str (.lit [])]⟩), (27, ⟨.slice 5, 1, 24, [.nilsl]⟩), (80, ⟨.struct [(0, 27), (1, 4), (2, 4)], 3, 32, [.nilsl, .bool (.lit false), .bool (.lit false)]⟩)]
theorem Tx_tags_reader_padded_ok : TabOk Tryd.prog Tx_tags_reader_padded := tab_ok [4, 5, 9, 27, 80]
theorem x_tags_reader_padded {y0 : Int} {y1 : tags_reader} {r : (List UInt8) × (List Int) × Bool × Bool} (h : tags_reader_padded y0 y1 = some r) : ACalls Tryd.prog Gl 62 [.ptr 10000 0, e_i64 y0] [(10000, .var [.sl 1 e_u8 y1.m_b, .bool (.v y1.m_end), .bool (.v y1.m_bad)])] (fun x o' => x = .str (.v r.1) ∧ o' = [(10000, .var [.sl 1 e_u8 r.2.1, .bool (.v r.2.2.1), .bool (.v r.2.2.2)])]) := by
  refine acalls_of' Tx_tags_reader_padded Gl 23 [10000] Tryd.func62 Tx_tags_reader_padded_ok Tryd_mixed fun P hP _ => ?_
  unfold tags_reader_padded at h
  conv => cbv
  refine .mk ?_
  conv => cbv
  refine den_own' [(10000, 10000, false)] [] hP h (fun _ h => x_tags_reader_take h) fun r1 _ h => ?_
  conv => cbv
  refine den_str (fun t2 => ((strings_TrimRight t2 [0]).bind fun r3 => if y1.m_bad = true then   tags_reader_padded_K1 r1 r3 true else   (strings_Contains r3 [0]).bind fun r5 =>   tags_reader_padded_K1 r1 r3 r5)) e_u8 r1.1 (News.map rfl) (fun _ => rfl) h fun t2 _ h => ?_
  conv => cbv
  refine den_call' hP h (fun _ h => v_strings_TrimRight h) fun r3 _ h => ?_
  conv => cbv
  refine den_cut' (r := r) (tags_reader_padded_K1 r1 r3) (fun j4 => ⟨[(5, .str (.v r3))], [(10000, .var [.sl 1 e_u8 r1.2.1, .bool (.v r1.2.2), .bool (.v j4)])], []⟩) ?_ (fun j4 h => ?_)
  · conv => cbv
    refine .mk ?_
    conv => cbv
    refine .mk ?_
    conv => cbv
    refine den_br h (fun _ h => ?_) (fun _ h => ?_)
    · conv => cbv
      exact den_join' h
    conv => cbv
    refine den_call' hP h (fun _ h => v_strings_Contains h) fun r5 _ h => ?_
    conv => cbv
    exact den_join' h
  unfold tags_reader_padded_K1 at h
  conv => cbv
  refine .mk [(10000, 10000, false)] [] rfl rfl ?_ ?_
  · conv => cbv
    cases h
    exact ⟨.var _ _ lp, trivial⟩
  conv => cbv
  cases h
  exact lp
def Tx_tags_reader_high : Tab := [(3, ⟨.int .i64, 1, 8, [.int .i64 (.lit 0)]⟩), (5, ⟨.int .u8, 1, 1, [.int .u8 (.lit 0)]⟩), (27, ⟨.slice 5, 1, 24, [.nilsl]⟩)]
theorem Tx_tags_reader_high_ok : TabOk Tryd.prog Tx_tags_reader_high := tab_ok [3, 5, 27]
theorem x_tags_reader_high {y0 : Int} {y1 : tags_reader} {r : Int × (List Int) × Bool} (h : tags_reader_high y0 y1 = some r) : ACalls Tryd.prog Gl 63 [.ptr 10000 0, e_i64 y0] [(10000, .var [.sl 1 e_u8 y1.m_b, .bool (.v y1.m_end), .bool (.v y1.m_bad)])] (fun x o' => x = .int .i64 (.v r.1) ∧ o' = [(10000, .var [.sl 1 e_u8 r.2.1, .bool (.v r.2.2), .bool (.v y1.m_bad)])]) := by
  refine acalls_of' Tx_tags_reader_high Gl 23 [10000] Tryd.func63 Tx_tags_reader_high_ok Tryd_mixed fun P hP _ => ?_
  unfold tags_reader_high at h
  conv => cbv
  refine den_cut' (r := r) tags_reader_high_K1 (fun j1 => ⟨[(5, .int .i64 (.v j1.1))], [(10000, .var [.sl 1 e_u8 j1.2.1, .bool (.v j1.2.2.1), .bool (.v y1.m_bad)]), (10000, .var [.sl 1 e_u8 j1.2.2.2.1, .bool (.v j1.2.2.2.2), .bool (.v y1.m_bad)])], []⟩) ?_ (fun j1 h => ?_)
  · conv => cbv
    refine den_own' [(10000, 10000, false)] [] hP h (fun _ h => x_tags_reader_take h) fun r2 _ h => ?_
    conv => cbv
    refine den_loop' (tags_reader_high_L1 r2) h (fun a3 => ⟨[(5, .int .i64 (.v a3.1)), (10, .sl 1 e_u8 r2.1), (11, .int .i64 (.len r2.1)), (12, .int .i64 (.v a3.2))], [(10000, .var [.sl 1 e_u8 r2.2.1, .bool (.v r2.2.2), .bool (.v y1.m_bad)]), (10000, .var [.sl 1 e_u8 r2.2.1, .bool (.v r2.2.2), .bool (.v y1.m_bad)])], []⟩) (fun _ _ a3 x1 h hb1 hx1 => ?_)
    unfold tags_reader_high_L1 at h
    conv => cbv
    refine den_br h (fun _ h => ?_) (fun _ h => ?_)
    · conv => cbv
      refine den_elem h fun p4 _ h => ?_
      conv => cbv
      refine .mk ?_
      conv => cbv
      exact den_back' h hb1
    conv => cbv
    replace h := den_out h hx1
    exact den_join' h
  unfold tags_reader_high_K1 at h
  conv => cbv
  refine .mk [(10000, 10000, false)] [] rfl rfl ?_ ?_
  · conv => cbv
    cases h
    exact ⟨.var _ _ lp, trivial⟩
  conv => cbv
  cases h
  exact lp
def Tx_tags_reader_flags : Tab := [(4, ⟨.bool, 1, 1, [.bool (.lit false)]⟩), (80, ⟨.struct [(0, 27), (1, 4), (2, 4)], 3, 32, [.nilsl, .bool (.lit false), .bool (.lit false)]⟩)]
theorem Tx_tags_reader_flags_ok : TabOk Tryd.prog Tx_tags_reader_flags := tab_ok [4, 80]
theorem x_tags_reader_flags {y0 : Int} {y1 : tags_reader} {r : Int × (List Int) × Bool × Bool} (h : tags_reader_flags y0 y1 = some r) : ACalls Tryd.prog Gl 64 [.ptr 10000 0, e_i64 y0] [(10000, .var [.sl 1 e_u8 y1.m_b, .bool (.v y1.m_end), .bool (.v y1.m_bad)])] (fun x o' => x = .int .i64 (.v r.1) ∧ o' = [(10000, .var [.sl 1 e_u8 r.2.1, .bool (.v r.2.2.1), .bool (.v r.2.2.2)])]) := by
  refine acalls_of' Tx_tags_reader_flags Gl 22 [10000] Tryd.func64 Tx_tags_reader_flags_ok Tryd_mixed fun P hP _ => ?_
  unfold tags_reader_flags at h
  conv => cbv
  refine den_own' [(10000, 10000, false)] [] hP h (fun _ h => x_tags_reader_high h) fun r1 _ h => ?_
  conv => cbv
  refine .mk ?_
  conv => cbv
  refine .mk ?_
  conv => cbv
  refine .mk [(10000, 10000, false)] [] rfl rfl ?_ ?_
  · conv => cbv
    cases h
    exact ⟨.var _ _ lp, trivial⟩
  conv => cbv
  cases h
  exact lp
def T_tags_reader_noughts_c1 : Tab := []
theorem T_tags_reader_noughts_c1_ok : TabOk Tryd.prog T_tags_reader_noughts_c1 := tab_ok []
theorem v_tags_reader_noughts_c1 {y0 : Int} {r : Bool} (h : tags_reader_noughts_c1 y0 = some r) : AVal Tryd.prog Gl 83 [e_u8 y0] (e_bool r) := by
  refine aval_of' T_tags_reader_noughts_c1 Gl 5 Tryd.func83 T_tags_reader_noughts_c1_ok Tryd_mixed fun P hP _ => ?_
  unfold tags_reader_noughts_c1 at h
  conv => cbv
  cases h
  exact lp
def Tx_tags_reader_noughts : Tab := [(4, ⟨.bool, 1, 1, [.bool (.lit false)]⟩), (80, ⟨.struct [(0, 27), (1, 4), (2, 4)], 3, 32, [.nilsl, .bool (.lit false), .bool (.lit false)]⟩)]
theorem Tx_tags_reader_noughts_ok : TabOk Tryd.prog Tx_tags_reader_noughts := tab_ok [4, 80]
theorem x_tags_reader_noughts {y0 : Int} {y1 : tags_reader} {r : (List Int) × Bool × Bool} (h : tags_reader_noughts y0 y1 = some r) : ACalls Tryd.prog Gl 65 [.ptr 10000 0, e_i64 y0] [(10000, .var [.sl 1 e_u8 y1.m_b, .bool (.v y1.m_end), .bool (.v y1.m_bad)])] (fun x o' => x = .tup [] ∧ o' = [(10000, .var [.sl 1 e_u8 r.1, .bool (.v r.2.1), .bool (.v r.2.2)])]) := by
  refine acalls_of' Tx_tags_reader_noughts Gl 11 [10000] Tryd.func65 Tx_tags_reader_noughts_ok Tryd_mixed fun P hP _ => ?_
  unfold tags_reader_noughts at h
  conv => cbv
  refine den_own' [(10000, 10000, false)] [] hP h (fun _ h => x_tags_reader_take h) fun r1 _ h => ?_
  conv => cbv
  refine den_call' hP h (fun _ h => v_slices_ContainsFunc_sbyte_byte_x2 _ (fun _ _ h => v_tags_reader_noughts_c1 h) h) fun r2 _ h => ?_
  conv => cbv
  refine den_br h (fun _ h => ?_) (fun _ h => ?_)
  · conv => cbv
    refine .mk [(10000, 10000, false)] [] rfl rfl ?_ ?_
    · conv => cbv
      cases h
      exact ⟨.var _ _ lp, trivial⟩
    conv => cbv
    cases h
    exact lp
  conv => cbv
  refine .mk [(10000, 10000, false)] [] rfl rfl ?_ ?_
  · conv => cbv
    cases h
    exact ⟨.var _ _ lp, trivial⟩
  conv => cbv
  cases h
  exact lp
def Tx_tags_reader_track : Tab := [(3, ⟨.int .i64, 1, 8, [.int .i64 (.lit 0)]⟩), (4, ⟨.bool, 1, 1, [.bool (.lit false)]⟩), (9, ⟨.str, 1, 16, [.str (.lit [])]⟩), (90, ⟨.slice 97, 1, 24, [.nilsl]⟩), (92, ⟨.struct [(0, 3), (1, 3), (2, 9), (3, 4), (4, 4), (5, 90)], 6, 64, [.int .i64 (.lit 0), .int .i64 (.lit 0), .str (.lit []), .bool (.lit false), .bool (.lit false), .nilsl]⟩), (97, ⟨.struct [(0, 3), (1, 3)], 2, 16, [.int .i64 (.lit 0), .int .i64 (.lit 0)]⟩)]
theorem Tx_tags_reader_track_ok : TabOk Tryd.prog Tx_tags_reader_track := tab_ok [3, 4, 9, 90, 92, 97]
theorem x_tags_reader_track {y0 : tags_reader} {r : Int × Int × (List UInt8) × Bool × Bool × (List tags_Index) × (List Int) × Bool × Bool} (h : tags_reader_track y0 = some r) : ACalls Tryd.prog Gl 66 [.ptr 10000 0] [(10000, .var [.sl 1 e_u8 y0.m_b, .bool (.v y0.m_end), .bool (.v y0.m_bad)])] (fun x o' => x = .agg [.int .i64 (.v r.1), .int .i64 (.v r.2.1), .str (.v r.2.2.1), .bool (.v r.2.2.2.1), .bool (.v r.2.2.2.2.1), .sl 2 e_tags_Index r.2.2.2.2.2.1] ∧ o' = [(10000, .var [.sl 1 e_u8 r.2.2.2.2.2.2.1, .bool (.v r.2.2.2.2.2.2.2.1), .bool (.v r.2.2.2.2.2.2.2.2)])]) := by
  refine acalls_of' Tx_tags_reader_track Gl 42 [10000] Tryd.func66 Tx_tags_reader_track_ok Tryd_mixed fun P hP _ => ?_
  unfold tags_reader_track at h
  conv => cbv
  refine den_own' [(10000, 10000, false)] [] hP h (fun _ h => x_tags_reader_high h) fun r1 _ h => ?_
  conv => cbv
  refine .mk ?_
  conv => cbv
  refine den_own' [(10000, 10000, false)] [] hP h (fun _ h => x_tags_reader_high h) fun r2 _ h => ?_
  conv => cbv
  refine den_own' [(10000, 10000, false)] [] hP h (fun _ h => x_tags_reader_padded h) fun r3 _ h => ?_
  conv => cbv
  refine den_own' [(10000, 10000, false)] [] hP h (fun _ h => x_tags_reader_flags h) fun r4 _ h => ?_
  conv => cbv
  refine .mk ?_
  conv => cbv
  refine den_own' [(10000, 10000, false)] [] hP h (fun _ h => x_tags_reader_noughts h) fun r5 _ h => ?_
  conv => cbv
  refine den_cut' (r := r) (tags_reader_track_K1 r1 r2 r3 r4) (fun j6 => ⟨[(2, .ptr 2 0), (3, .ptr 3 0)], [(2, .var [.int .i64 (.lit 0), .int .i64 (.lit 0), .str (.lit []), .bool (.lit false), .bool (.lit false), .nilsl]), (3, .var [.int .i64 (.v r1.1), .int .i64 (.v r2.1), .str (.v r3.1), .bool (.cmp .gtr (.ar .and .i64 (.v r4.1) (.lit 128)) (.lit 0)), .bool (.cmp .gtr (.ar .and .i64 (.v r4.1) (.lit 64)) (.lit 0)), .osl 2041]), (2041, .arr false 97 2 e_tags_Index j6.2.2.2.2.2.2), (10000, .var [.sl 1 e_u8 j6.1, .bool (.v j6.2.1), .bool (.v j6.2.2.1)]), (10000, .var [.sl 1 e_u8 j6.2.2.2.1, .bool (.v j6.2.2.2.2.1), .bool (.v j6.2.2.2.2.2.1)])], []⟩) ?_ (fun j6 h => ?_)
  · conv => cbv
    refine den_own' [(10000, 10000, false)] [] hP h (fun _ h => x_tags_reader_high h) fun r7 _ h => ?_
    conv => cbv
    refine den_loop (tags_reader_track_L1 r1 r2 r3 r4 r7) h (fun a8 : Int × (List Int) × Bool × Bool × (List Int) × Bool × Bool × (List tags_Index) => ⟨[(0, .ptr 10000 0), (2, .ptr 2 0), (3, .ptr 3 0), (25, .int .i64 (.v r7.1)), (26, .int .i64 (.v a8.1))], [(2, .var [.int .i64 (.lit 0), .int .i64 (.lit 0), .str (.lit []), .bool (.lit false), .bool (.lit false), .nilsl]), (3, .var [.int .i64 (.v r1.1), .int .i64 (.v r2.1), .str (.v r3.1), .bool (.cmp .gtr (.ar .and .i64 (.v r4.1) (.lit 128)) (.lit 0)), .bool (.cmp .gtr (.ar .and .i64 (.v r4.1) (.lit 64)) (.lit 0)), .osl 2041]), (2041, .arr false 97 2 e_tags_Index a8.2.2.2.2.2.2.2), (10000, .var [.sl 1 e_u8 a8.2.1, .bool (.v a8.2.2.1), .bool (.v a8.2.2.2.1)]), (10000, .var [.sl 1 e_u8 a8.2.2.2.2.1, .bool (.v a8.2.2.2.2.2.1), .bool (.v a8.2.2.2.2.2.2.1)])], []⟩) ?_ (fun _ _ a8 x1 h hb1 hx1 => ?_)
    · intro j0 hj
      conv => cbv
      subst hj
      exact ⟨⟨.same _, .var _ _ (.cons _ _ _ _ (.same _) (.cons _ _ _ _ (.same _) (.cons _ _ _ _ (.same _) (.cons _ _ _ _ (.same _) (.cons _ _ _ _ (.same _) (.cons _ _ _ _ (.own _ _ _ _ _ _ rfl rfl) .nil)))))), .arr _ _ _ _ _ _ rfl, .var _ _ lp, .var _ _ lp, trivial⟩, .same _, .same _, .same _, .same _, .int _ _ _ rfl, trivial⟩
    unfold tags_reader_track_L1 at h
    conv => cbv
    refine den_br h (fun _ h => ?_) (fun _ h => ?_)
    · conv => cbv
      refine den_cut' (r := x1) (tags_reader_track_K2 a8) (fun j9 => ⟨[(0, .ptr 10000 0), (2, .ptr 2 0), (3, .ptr 3 0), (25, .int .i64 (.v r7.1)), (26, .int .i64 (.v a8.1))], [(2, .var [.int .i64 (.lit 0), .int .i64 (.lit 0), .str (.lit []), .bool (.lit false), .bool (.lit false), .nilsl]), (3, .var [.int .i64 (.v r1.1), .int .i64 (.v r2.1), .str (.v r3.1), .bool (.cmp .gtr (.ar .and .i64 (.v r4.1) (.lit 128)) (.lit 0)), .bool (.cmp .gtr (.ar .and .i64 (.v r4.1) (.lit 64)) (.lit 0)), .osl 2041]), (2041, .arr false 97 2 e_tags_Index j9.2.2.2.2), (10000, .var [.sl 1 e_u8 j9.1, .bool (.v j9.2.1), .bool (.v a8.2.2.2.1)]), (10000, .var [.sl 1 e_u8 j9.2.2.1, .bool (.v j9.2.2.2.1), .bool (.v a8.2.2.2.1)])], []⟩) ?_ (fun j9 h => ?_)
      · conv => cbv
        refine .mk (some [3, 2041, 10000]) (by kernel_rfl) ?_
        conv => cbv
        refine ⟨?_, ?_⟩
        · refine den_own' [(10000, 10000, false)] [] hP h (fun _ h => x_tags_reader_high h) fun r11 _ h => ?_
          conv => cbv
          refine .mk ?_
          conv => cbv
          refine den_own' [(10000, 10000, false)] [] hP h (fun _ h => x_tags_reader_high h) fun r12 _ h => ?_
          conv => cbv
          refine .data ?_
          conv => cbv
          refine den_app_own e_tags_Index (xs := [(⟨r11.1, r12.1⟩ : tags_Index)]) h rfl lp fun l13 _ h => ?_
          conv => cbv
          exact den_join' h
        · refine den_own' [(10000, 10000, false)] [] hP h (fun _ h => x_tags_reader_high h) fun r14 _ h => ?_
          conv => cbv
          refine ⟨?_, ?_⟩
          · refine .mk ?_
            conv => cbv
            refine den_own' [(10000, 10000, false)] [] hP h (fun _ h => x_tags_reader_high h) fun r15 _ h => ?_
            conv => cbv
            refine .data ?_
            conv => cbv
            refine den_app_own e_tags_Index (xs := [(⟨r14.1, r15.1⟩ : tags_Index)]) h rfl lp fun l16 _ h => ?_
            conv => cbv
            exact den_join' h
          · refine den_own' [(10000, 10000, false)] [] hP h (fun _ h => x_tags_reader_high h) fun r17 _ h => ?_
            conv => cbv
            refine .mk ?_
            conv => cbv
            refine ⟨?_, ?_⟩
            · refine .data ?_
              conv => cbv
              refine den_app_own e_tags_Index (xs := [(⟨r14.1, r17.1⟩ : tags_Index)]) h rfl lp fun l18 _ h => ?_
              conv => cbv
              exact den_join' h
            · refine .data ?_
              conv => cbv
              refine den_app_own e_tags_Index (xs := [(⟨r14.1, r17.1⟩ : tags_Index)]) h rfl lp fun l19 _ h => ?_
              conv => cbv
              exact den_join' h
      unfold tags_reader_track_K2 at h
      conv => cbv
      refine den_own' [(10000, 10000, false)] [] hP h (fun _ h => x_tags_reader_noughts h) fun r10 _ h => ?_
      conv => cbv
      exact den_back' h hb1
    conv => cbv
    replace h := den_out h hx1
    exact den_join' h
  unfold tags_reader_track_K1 at h
  conv => cbv
  refine .mk [(10000, 10000, false)] [] rfl rfl ?_ ?_
  · conv => cbv
    cases h
    exact ⟨.var _ _ lp, trivial⟩
  conv => cbv
  cases h
  exact .cons _ _ _ _ (.agg _ _ lp) .nil
def Tx_tags_reader_over : Tab := [(4, ⟨.bool, 1, 1, [.bool (.lit false)]⟩), (27, ⟨.slice 5, 1, 24, [.nilsl]⟩), (80, ⟨.struct [(0, 27), (1, 4), (2, 4)], 3, 32, [.nilsl, .bool (.lit false), .bool (.lit false)]⟩)]
theorem Tx_tags_reader_over_ok : TabOk Tryd.prog Tx_tags_reader_over := tab_ok [4, 27, 80]
theorem x_tags_reader_over {y0 : tags_reader} {r : Int} (h : tags_reader_over y0 = some r) : ACalls Tryd.prog Gl 49 [.ptr 10000 0] [(10000, .var [.sl 1 e_u8 y0.m_b, .bool (.v y0.m_end), .bool (.v y0.m_bad)])] (fun x o' => x = .int .i64 (.v r) ∧ o' = [(10000, .var [.sl 1 e_u8 y0.m_b, .bool (.v y0.m_end), .bool (.v y0.m_bad)])]) := by
  refine acalls_of' Tx_tags_reader_over Gl 21 [10000] Tryd.func49 Tx_tags_reader_over_ok Tryd_mixed fun P hP _ => ?_
  unfold tags_reader_over at h
  conv => cbv
  refine den_br h (fun _ h => ?_) (fun _ h => ?_)
  · conv => cbv
    refine .mk [(10000, 10000, false)] [] rfl rfl ?_ ?_
    · conv => cbv
      cases h
      exact lp
    conv => cbv
    cases h
    exact lp
  conv => cbv
  refine .mk ?_
  conv => cbv
  refine .mk ?_
  conv => cbv
  refine den_br h (fun _ h => ?_) (fun _ h => ?_)
  · conv => cbv
    refine .mk [(10000, 10000, false)] [] rfl rfl ?_ ?_
    · conv => cbv
      cases h
      exact lp
    conv => cbv
    cases h
    exact lp
  conv => cbv
  refine .mk [(10000, 10000, false)] [] rfl rfl ?_ ?_
  · conv => cbv
    cases h
    exact lp
  conv => cbv
  cases h
  exact lp
def T_tags_ReadCue : Tab := [(3, ⟨.int .i64, 1, 8, [.int .i64 (.lit 0)]⟩), (4, ⟨.bool, 1, 1, [.bool (.lit false)]⟩), (9, ⟨.str, 1, 16, [.str (.lit [])]⟩), (27, ⟨.slice 5, 1, 24, [.nilsl]⟩), (55, ⟨.slice 92, 1, 24, [.nilsl]⟩), (57, ⟨.struct [(0, 9), (1, 3), (2, 4), (3, 55)], 4, 56, [.str (.lit []), .int .i64 (.lit 0), .bool (.lit false), .nilsl]⟩), (80, ⟨.struct [(0, 27), (1, 4), (2, 4)], 3, 32, [.nilsl, .bool (.lit false), .bool (.lit false)]⟩), (92, ⟨.struct [(0, 3), (1, 3), (2, 9), (3, 4), (4, 4), (5, 90)], 6, 64, [.int .i64 (.lit 0), .int .i64 (.lit 0), .str (.lit []), .bool (.lit false), .bool (.lit false), .nilsl]⟩)]
theorem T_tags_ReadCue_ok : TabOk Tryd.prog T_tags_ReadCue := tab_ok [3, 4, 9, 27, 55, 57, 80, 92]
theorem v_tags_ReadCue {y0 : List Int} {r : tags_Cue × Int} (h : tags_ReadCue y0 = some r) : AVal Tryd.prog Gl 31 [(e_sl 1 e_u8) y0] (.tup [e_tags_Cue r.1, e_i64 r.2]) := by
  refine aval_of' T_tags_ReadCue Gl 50 Tryd.func31 T_tags_ReadCue_ok Tryd_mixed fun P hP _ => ?_
  unfold tags_ReadCue at h
  conv => cbv
  refine .own ?_
  conv => cbv
  refine den_own' [(11, 10000, false)] [] hP h (fun _ h => x_tags_reader_padded h) fun r1 _ h => ?_
  conv => cbv
  refine den_own' [(11, 10000, false)] [] hP h (fun _ h => x_tags_reader_high h) fun r2 _ h => ?_
  conv => cbv
  refine .mk ?_
  conv => cbv
  refine den_own' [(11, 10000, false)] [] hP h (fun _ h => x_tags_reader_flags h) fun r3 _ h => ?_
  conv => cbv
  refine den_own' [(11, 10000, false)] [] hP h (fun _ h => x_tags_reader_noughts h) fun r4 _ h => ?_
  conv => cbv
  refine den_cut' (r := r) (tags_ReadCue_K1 r1 r2 r3) (fun j5 => ⟨[(2, .ptr 2 0), (4, .ptr 11 0), (5, .ptr 5 0)], [(2, .var [.str (.lit []), .int .i64 (.lit 0), .bool (.lit false), .nilsl]), (5, .var [.str (.v r1.1), .int .i64 (.v r2.1), .bool (.cmp .gtr (.v r3.1) (.lit 0)), .osl 2063]), (11, .var [.sl 1 e_u8 j5.1, .bool (.v j5.2.1), .bool (.v j5.2.2.1)]), (2063, .arr false 92 6 e_tags_Track j5.2.2.2)], []⟩) ?_ (fun j5 h => ?_)
  · conv => cbv
    refine den_own' [(11, 10000, false)] [] hP h (fun _ h => x_tags_reader_high h) fun r8 _ h => ?_
    conv => cbv
    refine den_loop (tags_ReadCue_L1 r1 r2 r3 r8) h (fun a9 : Int × (List Int) × Bool × Bool × (List tags_Track) => ⟨[(2, .ptr 2 0), (4, .ptr 11 0), (5, .ptr 5 0), (23, .int .i64 (.v r8.1)), (24, .int .i64 (.v a9.1))], [(2, .var [.str (.lit []), .int .i64 (.lit 0), .bool (.lit false), .nilsl]), (5, .var [.str (.v r1.1), .int .i64 (.v r2.1), .bool (.cmp .gtr (.v r3.1) (.lit 0)), .osl 2063]), (11, .var [.sl 1 e_u8 a9.2.1, .bool (.v a9.2.2.1), .bool (.v a9.2.2.2.1)]), (2063, .arr false 92 6 e_tags_Track a9.2.2.2.2)], []⟩) ?_ (fun _ _ a9 x1 h hb1 hx1 => ?_)
    · intro j0 hj
      conv => cbv
      subst hj
      exact ⟨⟨.same _, .var _ _ (.cons _ _ _ _ (.same _) (.cons _ _ _ _ (.same _) (.cons _ _ _ _ (.same _) (.cons _ _ _ _ (.own _ _ _ _ _ _ rfl rfl) .nil)))), .var _ _ lp, .arr _ _ _ _ _ _ rfl, trivial⟩, .same _, .same _, .same _, .same _, .int _ _ _ rfl, trivial⟩
    unfold tags_ReadCue_L1 at h
    conv => cbv
    refine den_br h (fun _ h => ?_) (fun _ h => ?_)
    · conv => cbv
      refine .mk (some [5, 11, 2063]) (by kernel_rfl) ?_
      conv => cbv
      refine ⟨?_, ?_⟩
      · refine den_own' [(11, 10000, false)] [] hP h (fun _ h => x_tags_reader_track h) fun r10 _ h => ?_
        conv => cbv
        refine .data ?_
        conv => cbv
        refine .mk ?_
        conv => cbv
        refine den_app_own e_tags_Track (xs := [(⟨r10.1, r10.2.1, r10.2.2.1, r10.2.2.2.1, r10.2.2.2.2.1, r10.2.2.2.2.2.1⟩ : tags_Track)]) h rfl lp fun l11 _ h => ?_
        conv => cbv
        exact den_back' h hb1
      · refine den_own' [(11, 10000, false)] [] hP h (fun _ h => x_tags_reader_track h) fun r12 _ h => ?_
        conv => cbv
        refine ⟨?_, ?_⟩
        · refine .data ?_
          conv => cbv
          refine .mk ?_
          conv => cbv
          refine den_app_own e_tags_Track (xs := [(⟨r12.1, r12.2.1, r12.2.2.1, r12.2.2.2.1, r12.2.2.2.2.1, r12.2.2.2.2.2.1⟩ : tags_Track)]) h rfl lp fun l13 _ h => ?_
          conv => cbv
          exact den_back' h hb1
        · refine .data ?_
          conv => cbv
          refine .mk ?_
          conv => cbv
          refine den_app_own e_tags_Track (xs := [(⟨r12.1, r12.2.1, r12.2.2.1, r12.2.2.2.1, r12.2.2.2.2.1, r12.2.2.2.2.2.1⟩ : tags_Track)]) h rfl lp fun l14 _ h => ?_
          conv => cbv
          exact den_back' h hb1
    conv => cbv
    replace h := den_out h hx1
    exact den_join' h
  unfold tags_ReadCue_K1 at h
  conv => cbv
  refine den_own' [(11, 10000, false)] [] hP h (fun _ h => x_tags_reader_over h) fun r6 _ h => ?_
  conv => cbv
  refine den_br h (fun _ h => ?_) (fun _ h => ?_)
  · conv => cbv
    cases h
    exact .tup _ _ lp
  conv => cbv
  refine .mk ?_
  conv => cbv
  refine den_call' hP h (fun _ h => v_tags_Cue_Write h) fun r7 _ h => ?_
  conv => cbv
  refine den_br h (fun _ h => ?_) (fun _ h => ?_)
  · conv => cbv
    cases h
    exact .tup _ _ lp
  conv => cbv
  cases h
  exact .tup _ _ lp
def T_jetsamlaw13_cue : Tab := [(3, ⟨.int .i64, 1, 8, [.int .i64 (.lit 0)]⟩), (4, ⟨.bool, 1, 1, [.bool (.lit false)]⟩), (9, ⟨.str, 1, 16, [.str (.lit [])]⟩), (55, ⟨.slice 92, 1, 24, [.nilsl]⟩), (57, ⟨.struct [(0, 9), (1, 3), (2, 4), (3, 55)], 4, 56, [.str (.lit []), .int .i64 (.lit 0), .bool (.lit false), .nilsl]⟩), (90, ⟨.slice 97, 1, 24, [.nilsl]⟩), (92, ⟨.struct [(0, 3), (1, 3), (2, 9), (3, 4), (4, 4), (5, 90)], 6, 64, [.int .i64 (.lit 0), .int .i64 (.lit 0), .str (.lit []), .bool (.lit false), .bool (.lit false), .nilsl]⟩), (97, ⟨.struct [(0, 3), (1, 3)], 2, 16, [.int .i64 (.lit 0), .int .i64 (.lit 0)]⟩)]
theorem T_jetsamlaw13_cue_ok : TabOk Tryd.prog T_jetsamlaw13_cue := tab_ok [3, 4, 9, 55, 57, 90, 92, 97]
theorem v_jetsamlaw13_cue {y0 : tags_Cue} {y1 : tags_Cue} {r : Bool} (h : jetsamlaw13_cue y0 y1 = some r) : AVal Tryd.prog Gl 32 [e_tags_Cue y0, e_tags_Cue y1] (e_bool r) := by
  refine aval_of (c := ⟨T_jetsamlaw13_cue, Gl, 114, [], [(97, [.i, .i])]⟩) Tryd.func32 (by kernel_rfl) rfl rfl rfl T_jetsamlaw13_cue_ok (eqsOk_of (by kernel_rfl)) Tryd_mixed rfl fun P hP _ => ?_
  unfold jetsamlaw13_cue at h
  conv => cbv
  refine .own ?_
  conv => cbv
  refine .own ?_
  conv => cbv
  refine .mk ?_
  conv => cbv
  refine .mk ?_
  conv => cbv
  refine .mk ?_
  conv => cbv
  refine .mk ?_
  conv => cbv
  refine den_br h (fun _ h => ?_) (fun _ h => ?_)
  · conv => cbv
    cases h
    exact lp
  conv => cbv
  refine den_cut' (r := r) jetsamlaw13_cue_K1 (fun j1 => ⟨[], [], []⟩) ?_ (fun j1 h => ?_)
  · conv => cbv
    refine den_loop' (jetsamlaw13_cue_L1 y0 y1) h (fun a2 => ⟨[(2, .ptr 2 0), (3, .ptr 3 0), (5, .int .i64 (.v a2))], [(2, .var [.str (.v y0.Catalog), .int .i64 (.v y0.Lead), .bool (.v y0.Disc), .sl 6 e_tags_Track y0.L]), (3, .var [.str (.v y1.Catalog), .int .i64 (.v y1.Lead), .bool (.v y1.Disc), .sl 6 e_tags_Track y1.L])], []⟩) (fun _ _ a2 x1 h hb1 hx1 => ?_)
    unfold jetsamlaw13_cue_L1 at h
    conv => cbv
    refine den_br h (fun _ h => ?_) (fun _ h => ?_)
    · conv => cbv
      refine den_cut' (r := x1) (jetsamlaw13_cue_K2 a2) (fun j3 => ⟨[(2, .ptr 2 0), (3, .ptr 3 0), (5, .int .i64 (.v a2))], [(2, .var [.str (.v y0.Catalog), .int .i64 (.v y0.Lead), .bool (.v y0.Disc), .sl 6 e_tags_Track y0.L]), (3, .var [.str (.v y1.Catalog), .int .i64 (.v y1.Lead), .bool (.v y1.Disc), .sl 6 e_tags_Track y1.L])], []⟩) ?_ (fun j3 h => ?_)
      · conv => cbv
        refine .mk ?_
        conv => cbv
        refine den_elem h fun p4 _ h => ?_
        conv => cbv
        refine .mk ?_
        conv => cbv
        refine den_elem h fun p5 _ h => ?_
        conv => cbv
        refine .mk ?_
        conv => cbv
        refine .mk ?_
        conv => cbv
        refine .mk ?_
        conv => cbv
        refine .mk ?_
        conv => cbv
        refine .mk ?_
        conv => cbv
        refine .mk ?_
        conv => cbv
        refine .mk ?_
        conv => cbv
        refine den_br h (fun _ h => ?_) (fun _ h => ?_)
        · conv => cbv
          replace h := den_out h hx1
          cases h
          exact lp
        conv => cbv
        refine den_loop' (jetsamlaw13_cue_L2 a2 p4 p5) h (fun a6 => ⟨[(2, .ptr 2 0), (3, .ptr 3 0), (5, .int .i64 (.v a2)), (6, .ptr 6 0), (7, .ptr 7 0), (8, .int .i64 (.v a6))], [(2, .var [.str (.v y0.Catalog), .int .i64 (.v y0.Lead), .bool (.v y0.Disc), .sl 6 e_tags_Track y0.L]), (3, .var [.str (.v y1.Catalog), .int .i64 (.v y1.Lead), .bool (.v y1.Disc), .sl 6 e_tags_Track y1.L]), (6, .var [.int .i64 (.v p4.Offset), .int .i64 (.v p4.Number), .str (.v p4.Code), .bool (.v p4.Data), .bool (.v p4.Pre), .sl 2 e_tags_Index p4.L]), (7, .var [.int .i64 (.v p5.Offset), .int .i64 (.v p5.Number), .str (.v p5.Code), .bool (.v p5.Data), .bool (.v p5.Pre), .sl 2 e_tags_Index p5.L])], []⟩) (fun _ _ a6 x2 h hb2 hx2 => ?_)
        unfold jetsamlaw13_cue_L2 at h
        conv => cbv
        refine den_br h (fun _ h => ?_) (fun _ h => ?_)
        · conv => cbv
          refine .dup ?_
          conv => cbv
          refine .mk (some []) (by kernel_rfl) ?_
          conv => cbv
          refine den_elem h fun p7 _ h => ?_
          conv => cbv
          refine .mk ?_
          conv => cbv
          refine den_elem h fun p8 _ h => ?_
          conv => cbv
          refine den_br h (fun _ h => ?_) (fun _ h => ?_)
          · conv => cbv
            replace h := den_out h hx2
            replace h := den_out h hx1
            cases h
            exact lp
          conv => cbv
          exact den_back' h hb2
        conv => cbv
        replace h := den_out h hx2
        exact den_join' h
      unfold jetsamlaw13_cue_K2 at h
      conv => cbv
      exact den_back' h hb1
    conv => cbv
    replace h := den_out h hx1
    exact den_join' h
  unfold jetsamlaw13_cue_K1 at h
  conv => cbv
  cases h
  exact lp
def T_jetsamlaw13_TagsCues : Tab := [(3, ⟨.int .i64, 1, 8, [.int .i64 (.lit 0)]⟩), (4, ⟨.bool, 1, 1, [.bool (.lit false)]⟩), (9, ⟨.str, 1, 16, [.str (.lit [])]⟩), (27, ⟨.slice 5, 1, 24, [.nilsl]⟩), (57, ⟨.struct [(0, 9), (1, 3), (2, 4), (3, 55)], 4, 56, [.str (.lit []), .int .i64 (.lit 0), .bool (.lit false), .nilsl]⟩)]
theorem T_jetsamlaw13_TagsCues_ok : TabOk Tryd.prog T_jetsamlaw13_TagsCues := tab_ok [3, 4, 9, 27, 57]
theorem v_jetsamlaw13_TagsCues {y0 : tags_Cue} {r : Bool} (h : jetsamlaw13_TagsCues y0 = some r) : AVal Tryd.prog Gl 7 [e_tags_Cue y0] (e_bool r) := by
  refine aval_of' T_jetsamlaw13_TagsCues Gl 69 Tryd.func7 T_jetsamlaw13_TagsCues_ok Tryd_mixed fun P hP _ => ?_
  unfold jetsamlaw13_TagsCues at h
  conv => cbv
  refine .own ?_
  conv => cbv
  refine den_call' hP h (fun _ h => v_jetsamlaw13_short h) fun r1 _ h => ?_
  conv => cbv
  refine den_br h (fun _ h => ?_) (fun _ h => ?_)
  · conv => cbv
    refine den_call' hP h (fun _ h => v_jetsamlaw13_awake h) fun r2 _ h => ?_
    conv => cbv
    cases h
    exact lp
  conv => cbv
  refine den_call' hP h (fun _ h => v_jetsamlaw13_plain h) fun r3 _ h => ?_
  conv => cbv
  refine .mk ?_
  conv => cbv
  refine den_call' hP h (fun _ h => v_tags_Cue_Write h) fun r4 _ h => ?_
  conv => cbv
  refine .mk ?_
  conv => cbv
  refine den_call' hP h (fun _ h => v_jetsamref13_Wrong h) fun r5 _ h => ?_
  conv => cbv
  refine den_br h (fun _ h => ?_) (fun _ h => ?_)
  · conv => cbv
    refine .mk ?_
    conv => cbv
    refine .mk ?_
    conv => cbv
    refine den_br h (fun _ h => ?_) (fun _ h => ?_)
    · conv => cbv
      refine den_call' hP h (fun _ h => v_jetsamlaw13_awake h) fun r6 _ h => ?_
      conv => cbv
      cases h
      exact lp
    conv => cbv
    cases h
    exact lp
  conv => cbv
  refine .mk ?_
  conv => cbv
  refine .mk ?_
  conv => cbv
  refine den_br h (fun _ h => ?_) (fun _ h => ?_)
  · conv => cbv
    cases h
    exact lp
  conv => cbv
  refine den_call' hP h (fun _ h => v_jetsamref13_Cue h) fun r7 _ h => ?_
  conv => cbv
  refine den_call' hP h (fun _ h => v_jetsamlaw11_Bytes h) fun r8 _ h => ?_
  conv => cbv
  refine den_br h (fun _ h => ?_) (fun _ h => ?_)
  · conv => cbv
    cases h
    exact lp
  conv => cbv
  refine den_call' hP h (fun _ h => v_tags_ReadCue h) fun r9 _ h => ?_
  conv => cbv
  refine .mk ?_
  conv => cbv
  refine .mk ?_
  conv => cbv
  refine den_br h (fun _ h => ?_) (fun _ h => ?_)
  · conv => cbv
    refine den_call' hP h (fun _ h => v_jetsamlaw13_cue h) fun r10 _ h => ?_
    conv => cbv
    refine den_br h (fun _ h => ?_) (fun _ h => ?_)
    · conv => cbv
      refine den_call' hP h (fun _ h => v_jetsamlaw13_awake h) fun r11 _ h => ?_
      conv => cbv
      cases h
      exact lp
    conv => cbv
    cases h
    exact lp
  conv => cbv
  cases h
  exact lp
def T_jetsamref13_CueSize : Tab := [(3, ⟨.int .i64, 1, 8, [.int .i64 (.lit 0)]⟩), (5, ⟨.int .u8, 1, 1, [.int .u8 (.lit 0)]⟩), (27, ⟨.slice 5, 1, 24, [.nilsl]⟩)]
theorem T_jetsamref13_CueSize_ok : TabOk Tryd.prog T_jetsamref13_CueSize := tab_ok [3, 5, 27]
theorem v_jetsamref13_CueSize {y0 : List Int} {r : Int} (h : jetsamref13_CueSize y0 = some r) : AVal Tryd.prog Gl 33 [(e_sl 1 e_u8) y0] (e_i64 r) := by
  refine aval_of' T_jetsamref13_CueSize Gl 36 Tryd.func33 T_jetsamref13_CueSize_ok Tryd_mixed fun P hP _ => ?_
  unfold jetsamref13_CueSize at h
  conv => cbv
  refine den_br h (fun _ h => ?_) (fun _ h => ?_)
  · conv => cbv
    cases h
    exact lp
  conv => cbv
  refine den_cut' (r := r) (jetsamref13_CueSize_K1 y0) (fun j1 => ⟨[(0, .sl 1 e_u8 y0), (3, .int .i64 (.v j1))], [], []⟩) ?_ (fun j1 h => ?_)
  · conv => cbv
    refine den_loop' (jetsamref13_CueSize_L1 y0) h (fun a2 => ⟨[(0, .sl 1 e_u8 y0), (3, .int .i64 (.v a2.1)), (4, .int .i64 (.v a2.2))], [], []⟩) (fun _ _ a2 x1 h hb1 hx1 => ?_)
    unfold jetsamref13_CueSize_L1 at h
    conv => cbv
    refine .mk ?_
    conv => cbv
    refine den_elem h fun p3 _ h => ?_
    conv => cbv
    refine den_br h (fun _ h => ?_) (fun _ h => ?_)
    · conv => cbv
      refine den_br h (fun _ h => ?_) (fun _ h => ?_)
      · conv => cbv
        replace h := den_out h hx1
        cases h
        exact lp
      conv => cbv
      refine .mk ?_
      conv => cbv
      refine den_elem h fun p4 _ h => ?_
      conv => cbv
      exact den_back' h hb1
    conv => cbv
    replace h := den_out h hx1
    exact den_join' h
  unfold jetsamref13_CueSize_K1 at h
  conv => cbv
  refine den_br h (fun _ h => ?_) (fun _ h => ?_)
  · conv => cbv
    cases h
    exact lp
  conv => cbv
  cases h
  exact lp
def T_jetsamlaw13_TagsSheets : Tab := [(5, ⟨.int .u8, 1, 1, [.int .u8 (.lit 0)]⟩), (27, ⟨.slice 5, 1, 24, [.nilsl]⟩), (55, ⟨.slice 92, 1, 24, [.nilsl]⟩), (57, ⟨.struct [(0, 9), (1, 3), (2, 4), (3, 55)], 4, 56, [.str (.lit []), .int .i64 (.lit 0), .bool (.lit false), .nilsl]⟩)]
theorem T_jetsamlaw13_TagsSheets_ok : TabOk Tryd.prog T_jetsamlaw13_TagsSheets := tab_ok [5, 27, 55, 57]
theorem v_jetsamlaw13_TagsSheets {y0 : List Int} {y1 : Int} {r : Bool} (h : jetsamlaw13_TagsSheets y0 y1 = some r) : AVal Tryd.prog Gl 8 [(e_sl 1 e_u8) y0, e_i64 y1] (e_bool r) := by
  refine aval_of' T_jetsamlaw13_TagsSheets Gl 126 Tryd.func8 T_jetsamlaw13_TagsSheets_ok Tryd_mixed fun P hP _ => ?_
  unfold jetsamlaw13_TagsSheets at h
  conv => cbv
  refine .mk ?_
  conv => cbv
  refine den_br h (fun _ h => ?_) (fun _ h => ?_)
  · conv => cbv
    refine den_call' hP h (fun _ h => v_jetsamlaw13_awake h) fun r1 _ h => ?_
    conv => cbv
    cases h
    exact lp
  conv => cbv
  refine den_call' hP h (fun _ h => v_tags_ReadCue h) fun r2 _ h => ?_
  conv => cbv
  refine .mk ?_
  conv => cbv
  refine den_call' hP h (fun _ h => v_jetsamref13_CueSize h) fun r3 _ h => ?_
  conv => cbv
  refine den_br h (fun _ h => ?_) (fun _ h => ?_)
  · conv => cbv
    refine .mk ?_
    conv => cbv
    refine .mk ?_
    conv => cbv
    refine den_br h (fun _ h => ?_) (fun _ h => ?_)
    · conv => cbv
      refine den_call' hP h (fun _ h => v_jetsamlaw13_awake h) fun r4 _ h => ?_
      conv => cbv
      cases h
      exact lp
    conv => cbv
    cases h
    exact lp
  conv => cbv
  refine den_br h (fun _ h => ?_) (fun _ h => ?_)
  · conv => cbv
    refine .mk ?_
    conv => cbv
    refine den_call' hP h (fun _ h => v_tags_Cue_Write h) fun r5 _ h => ?_
    conv => cbv
    refine .mk ?_
    conv => cbv
    refine den_br h (fun _ h => ?_) (fun _ h => ?_)
    · conv => cbv
      refine .mk ?_
      conv => cbv
      cases h
      exact lp
    conv => cbv
    refine den_call' hP h (fun _ h => v_jetsamlaw11_Bytes h) fun r6 _ h => ?_
    conv => cbv
    refine .mk ?_
    conv => cbv
    refine den_br h (fun _ h => ?_) (fun _ h => ?_)
    · conv => cbv
      cases h
      exact lp
    conv => cbv
    refine den_app_nil 1010 e_u8 (xs := y0) h (News.map rfl) fun l7 _ h => ?_
    conv => cbv
    refine den_cut' (r := r) (jetsamlaw13_TagsSheets_K1 y1 r2) (fun j8 => ⟨[(1, .int .i64 (.v y1)), (5, .ptr 5 0), (10, .osl 1010)], [(5, .var [.str (.v r2.1.Catalog), .int .i64 (.v r2.1.Lead), .bool (.v r2.1.Disc), .sl 6 e_tags_Track r2.1.L]), (1010, .arr false 5 1 e_u8 j8)], []⟩) ?_ (fun j8 h => ?_)
    · conv => cbv
      refine den_loop' (jetsamlaw13_TagsSheets_L1 y1 r2) h (fun a13 => ⟨[(1, .int .i64 (.v y1)), (5, .ptr 5 0), (10, .osl 1010), (11, .int .i64 (.v a13.1))], [(5, .var [.str (.v r2.1.Catalog), .int .i64 (.v r2.1.Lead), .bool (.v r2.1.Disc), .sl 6 e_tags_Track r2.1.L]), (1010, .arr false 5 1 e_u8 a13.2)], []⟩) (fun _ _ a13 x1 h hb1 hx1 => ?_)
      unfold jetsamlaw13_TagsSheets_L1 at h
      conv => cbv
      refine den_br h (fun _ h => ?_) (fun _ h => ?_)
      · conv => cbv
        refine .data ?_
        conv => cbv
        refine den_app_own e_u8 (xs := [(0 : Int)]) h rfl lp fun l14 _ h => ?_
        conv => cbv
        exact den_back' h hb1
      conv => cbv
      replace h := den_out h hx1
      exact den_join' h
    unfold jetsamlaw13_TagsSheets_K1 at h
    conv => cbv
    refine den_call' hP h (fun _ h => v_tags_ReadCue h) fun r9 _ h => ?_
    conv => cbv
    refine .mk ?_
    conv => cbv
    refine .mk ?_
    conv => cbv
    refine den_br h (fun _ h => ?_) (fun _ h => ?_)
    · conv => cbv
      refine den_call' hP h (fun _ h => v_jetsamlaw13_cue h) fun r10 _ h => ?_
      conv => cbv
      refine .mk ?_
      conv => cbv
      refine .mk ?_
      conv => cbv
      refine den_br h (fun _ h => ?_) (fun _ h => ?_)
      · conv => cbv
        refine den_call' hP h (fun _ h => v_jetsamlaw13_awake h) fun r11 _ h => ?_
        conv => cbv
        cases h
        exact lp
      conv => cbv
      cases h
      exact lp
    conv => cbv
    refine .mk ?_
    conv => cbv
    refine .mk ?_
    conv => cbv
    refine den_br h (fun _ h => ?_) (fun _ h => ?_)
    · conv => cbv
      refine den_call' hP h (fun _ h => v_jetsamlaw13_awake h) fun r12 _ h => ?_
      conv => cbv
      cases h
      exact lp
    conv => cbv
    cases h
    exact lp
  conv => cbv
  refine .mk ?_
  conv => cbv
  refine .mk ?_
  conv => cbv
  refine .mk ?_
  conv => cbv
  refine den_br h (fun _ h => ?_) (fun _ h => ?_)
  · conv => cbv
    refine den_call' hP h (fun _ h => v_jetsamlaw13_awake h) fun r15 _ h => ?_
    conv => cbv
    cases h
    exact lp
  conv => cbv
  cases h
  exact lp
end Go.Proofs.YtpdklmagncfhaaaDoor
