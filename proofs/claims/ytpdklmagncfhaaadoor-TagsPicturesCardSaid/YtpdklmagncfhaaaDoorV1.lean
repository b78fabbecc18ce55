/- That the code answers so, printed by a program. -/
import Derived.Test.YtpdklmagncfhaaaDoorF1
import Derived.Test.YtpdklmagncfhaaaDoorSl
import Derived.Test.YtpdklmagncfhaaaDoorK4
import Derived.Test.YtpdklmagncfhaaaDoorProg
set_option maxRecDepth 4000
set_option linter.all false
set_option linter.unusedVariables false
set_option linter.unusedSimpArgs false
namespace Go.Proofs.YtpdklmagncfhaaaDoor
open Go Go.Vg
theorem Tryd_mixed : Tryd.prog.follows .mixedOrders = true := by kernel_rfl
def T_unicode_utf8_word_string : Tab := [(5, ⟨.int .u8, 1, 1, [.int .u8 (.lit 0)]⟩), (9, ⟨.str, 1, 16, [.str (.lit [])]⟩), (125, ⟨.int .u64, 1, 8, [.int .u64 (.lit 0)]⟩)]
theorem T_unicode_utf8_word_string_ok : TabOk Tryd.prog T_unicode_utf8_word_string := tab_ok [5, 9, 125]
theorem v_unicode_utf8_word_string {y0 : List UInt8} {r : Int} (h : unicode_utf8_word_string y0 = some r) : AVal Tryd.prog Gl 67 [e_str y0] (e_u64 r) := by
  refine aval_of' T_unicode_utf8_word_string Gl 59 Tryd.func67 T_unicode_utf8_word_string_ok Tryd_mixed fun P hP _ => ?_
  unfold unicode_utf8_word_string at h
  conv => cbv
  refine .dup ?_
  conv => cbv
  refine .mk (some []) (by kernel_rfl) ?_
  conv => cbv
  refine den_elemS h fun b1 _ h => ?_
  conv => cbv
  refine den_elemS h fun b2 _ h => ?_
  conv => cbv
  refine .mk ?_
  conv => cbv
  refine den_elemS h fun b3 _ h => ?_
  conv => cbv
  refine .mk ?_
  conv => cbv
  refine den_elemS h fun b4 _ h => ?_
  conv => cbv
  refine .mk ?_
  conv => cbv
  refine den_elemS h fun b5 _ h => ?_
  conv => cbv
  refine .mk ?_
  conv => cbv
  refine den_elemS h fun b6 _ h => ?_
  conv => cbv
  refine .mk ?_
  conv => cbv
  refine den_elemS h fun b7 _ h => ?_
  conv => cbv
  refine den_elemS h fun b8 _ h => ?_
  conv => cbv
  refine .mk ?_
  conv => cbv
  cases h
  exact lp
def T_unicode_utf8_ValidString : Tab := [(3, ⟨.int .i64, 1, 8, [.int .i64 (.lit 0)]⟩), (5, ⟨.int .u8, 1, 1, [.int .u8 (.lit 0)]⟩), (9, ⟨.str, 1, 16, [.str (.lit [])]⟩), (106, ⟨.arr 256 5, 256, 256, [.int .u8 (.lit 0), .int .u8 (.lit 0), .int .u8 (.lit 0), .int .u8 (.lit 0), .int .u8 (.lit 0), .int .u8 (.lit 0), .int .u8 (.lit 0), .int .u8 (.lit 0), .int .u8 (.lit 0), .int .u8 (.lit 0), .int .u8 (.lit 0), .int .u8 (.lit 0), .int .u8 (.lit 0), .int .u8 (.lit 0), .int .u8 (.lit 0), .int .u8 (.lit 0), .int .u8 (.lit 0), .int .u8 (.lit 0), .int .u8 (.lit 0), .int .u8 (.lit 0), .int .u8 (.lit 0), .int .u8 (.lit 0), .int .u8 (.lit 0), .int .u8 (.lit 0), .int .u8 (.lit 0), .int .u8 (.lit 0), .int .u8 (.lit 0), .int .u8 (.lit 0), .int .u8 (.lit 0), .int .u8 (.lit 0), .int .u8 (.lit 0), .int .u8 (.lit 0), .int .u8 (.lit 0), .int .u8 (.lit 0), .int .u8 (.lit 0), .int .u8 (.lit 0), .int .u8 (.lit 0), .int .u8 (.lit 0), .int .u8 (.lit 0), .int .u8 (.lit 0), .int .u8 (.lit 0), .int .u8 (.lit 0), .int .u8 (.lit 0), .int .u8 (.lit 0), .int .u8 (.lit 0), .int .u8 (.lit 0), .int .u8 (.lit 0), .int .u8 (.lit 0), .int .u8 (.lit 0), .int .u8 (.lit 0), .int .u8 (.lit 0), .int .u8 (.lit 0), .int .u8 (.lit 0), .int .u8 (.lit 0), .int .u8 (.lit 0), .int .u8 (.lit 0), .int .u8 (.lit 0), .int .u8 (.lit 0), .int .u8 (.lit 0), .int .u8 (.lit 0), .int .u8 (.lit 0), .int .u8 (.lit 0), .int .u8 (.lit 0), .int .u8 (.lit 0), .int .u8 (.lit 0), .int .u8 (.lit 0), .int .u8 (.lit 0), .int .u8 (.lit 0), .int .u8 (.lit 0), .int .u8 (.lit 0), .int .u8 (.lit 0), .int .u8 (.lit 0), .int .u8 (.lit 0), .int .u8 (.lit 0), .int .u8 (.lit 0), .int .u8 (.lit 0), .int .u8 (.lit 0), .int .u8 (.lit 0), .int .u8 (.lit 0), .int .u8 (.lit 0), .int .u8 (.lit 0), .int .u8 (.lit 0), .int .u8 (.lit 0), .int .u8 (.lit 0), .int .u8 (.lit 0), .int .u8 (.lit 0), .int .u8 (.lit 0), .int .u8 (.lit 0), .int .u8 (.lit 0), .int .u8 (.lit 0), .int .u8 (.lit 0), .int .u8 (.lit 0), .int .u8 (.lit 0), .int .u8 (.lit 0), .int .u8 (.lit 0), .int .u8 (.lit 0), .int .u8 (.lit 0), .int .u8 (.lit 0), .int .u8 (.lit 0), .int .u8 (.lit 0), .int .u8 (.lit 0), .int .u8 (.lit 0), .int .u8 (.lit 0), .int .u8 (.lit 0), .int .u8 (.lit 0), .int .u8 (.lit 0), .int .u8 (.lit 0), .int .u8 (.lit 0), .int .u8 (.lit 0), .int .u8 (.lit 0), .int .u8 (.lit 0), .int .u8 (.lit 0), .int .u8 (.lit 0), .int .u8 (.lit 0), .int .u8 (.lit 0), .int .u8 (.lit 0), .int .u8 (.lit 0), .int .u8 (.lit 0), .int .u8 (.lit 0), .int .u8 (.lit 0), .int .u8 (.lit 0), .int .u8 (.lit 0), .int .u8 (.lit 0), .int .u8 (.lit 0), .int .u8 (.lit 0), .int .u8 (.lit 0), .int .u8 (.lit 0), .int .u8 (.lit 0), .int .u8 (.lit 0), .int .u8 (.lit 0), .int .u8 (.lit 0), .int .u8 (.lit 0), .int .u8 (.lit 0), .int .u8 (.lit 0), .int .u8 (.lit 0), .int .u8 (.lit 0), .int .u8 (.lit 0), .int .u8 (.lit 0), .int .u8 (.lit 0), .int .u8 (.lit 0), .int .u8 (.lit 0), .int .u8 (.lit 0), .int .u8 (.lit 0), .int .u8 (.lit 0), .int .u8 (.lit 0), .int .u8 (.lit 0), .int .u8 (.lit 0), .int .u8 (.lit 0), .int .u8 (.lit 0), .int .u8 (.lit 0), .int .u8 (.lit 0), .int .u8 (.lit 0), .int .u8 (.lit 0), .int .u8 (.lit 0), .int .u8 (.lit 0), .int .u8 (.lit 0), .int .u8 (.lit 0), .int .u8 (.lit 0), .int .u8 (.lit 0), .int .u8 (.lit 0), .int .u8 (.lit 0), .int .u8 (.lit 0), .int .u8 (.lit 0), .int .u8 (.lit 0), .int .u8 (.lit 0), .int .u8 (.lit 0), .int .u8 (.lit 0), .int .u8 (.lit 0), .int .u8 (.lit 0), .int .u8 (.lit 0), .int .u8 (.lit 0), .int .u8 (.lit 0), .int .u8 (.lit 0), .int .u8 (.lit 0), .int .u8 (.lit 0), .int .u8 (.lit 0), .int .u8 (.lit 0), .int .u8 (.lit 0), .int .u8 (.lit 0), .int .u8 (.lit 0), .int .u8 (.lit 0), .int .u8 (.lit 0), .int .u8 (.lit 0), .int .u8 (.lit 0), .int .u8 (.lit 0), .int .u8 (.lit 0), .int .u8 (.lit 0), .int .u8 (.lit 0), .int .u8 (.lit 0), .int .u8 (.lit 0), .int .u8 (.lit 0), .int .u8 (.lit 0), .int .u8 (.lit 0), .int .u8 (.lit 0), .int .u8 (.lit 0), .int .u8 (.lit 0), .int .u8 (.lit 0), .int .u8 (.lit 0), .int .u8 (.lit 0), .int .u8 (.lit 0), .int .u8 (.lit 0), .int .u8 (.lit 0), .int .u8 (.lit 0), .int .u8 (.lit 0), .int .u8 (.lit 0), .int .u8 (.lit 0), .int .u8 (.lit 0), .int .u8 (.lit 0), .int .u8 (.lit 0), .int .u8 (.lit 0), .int .u8 (.lit 0), .int .u8 (.lit 0), .int .u8 (.lit 0), .int .u8 (.lit 0), .int .u8 (.lit 0), .int .u8 (.lit 0), .int .u8 (.lit 0), .int .u8 (.lit 0), .int .u8 (.lit 0), .int .u8 (.lit 0), .int .u8 (.lit 0), .int .u8 (.lit 0), .int .u8 (.lit 0), .int .u8 (.lit 0), .int .u8 (.lit 0), .int .u8 (.lit 0), .int .u8 (.lit 0), .int .u8 (.lit 0), .int .u8 (.lit 0), .int .u8 (.lit 0), .int .u8 (.lit 0), .int .u8 (.lit 0), .int .u8 (.lit 0), .int .u8 (.lit 0), .int .u8 (.lit 0), .int .u8 (.lit 0), .int .u8 (.lit 0), .int .u8 (.lit 0), .int .u8 (.lit 0), .int .u8 (.lit 0), .int .u8 (.lit 0), .int .u8 (.lit 0), .int .u8 (.lit 0), .int .u8 (.lit 0), .int .u8 (.lit 0), .int .u8 (.lit 0), .int .u8 (.lit 0), .int .u8 (.lit 0), .int .u8 (.lit 0), .int .u8 (.lit 0), .int .u8 (.lit 0), .int .u8 (.lit 0), .int .u8 (.lit 0), .int .u8 (.lit 0), .int .u8 (.lit 0), .int .u8 (.lit 0)]⟩), (108, ⟨.struct [(0, 5), (1, 5)], 2, 2, [.int .u8 (.lit 0), .int .u8 (.lit 0)]⟩), (109, ⟨.arr 16 108, 32, 32, [.int .u8 (.lit 0), .int .u8 (.lit 0), .int .u8 (.lit 0), .int .u8 (.lit 0), .int .u8 (.lit 0), .int .u8 (.lit 0), .int .u8 (.lit 0), .int .u8 (.lit 0), .int .u8 (.lit 0), .int .u8 (.lit 0), .int .u8 (.lit 0), .int .u8 (.lit 0), .int .u8 (.lit 0), .int .u8 (.lit 0), .int .u8 (.lit 0), .int .u8 (.lit 0), .int .u8 (.lit 0), .int .u8 (.lit 0), .int .u8 (.lit 0), .int .u8 (.lit 0), .int .u8 (.lit 0), .int .u8 (.lit 0), .int .u8 (.lit 0), .int .u8 (.lit 0), .int .u8 (.lit 0), .int .u8 (.lit 0), .int .u8 (.lit 0), .int .u8 (.lit 0), .int .u8 (.lit 0), .int .u8 (.lit 0), .int .u8 (.lit 0), .int .u8 (.lit 0)]⟩)]
theorem T_unicode_utf8_ValidString_ok : TabOk Tryd.prog T_unicode_utf8_ValidString := tab_ok [3, 5, 9, 106, 108, 109]
set_option maxHeartbeats 2000000 in
theorem v_unicode_utf8_ValidString {y0 : List UInt8} {r : Bool} (h : unicode_utf8_ValidString y0 = some r) : AVal Tryd.prog Gl 34 [e_str y0] (e_bool r) := by
  refine aval_of' T_unicode_utf8_ValidString Gl 169 Tryd.func34 T_unicode_utf8_ValidString_ok Tryd_mixed fun P hP _ => ?_
  unfold unicode_utf8_ValidString at h
  conv => cbv
  refine den_cut' (r := r) unicode_utf8_ValidString_K1 (fun j1 => ⟨[], [], []⟩) ?_ (fun j1 h => ?_)
  · conv => cbv
    refine den_loop' unicode_utf8_ValidString_L1 h (fun a2 => ⟨[(0, .str (.v a2))], [], []⟩) (fun _ _ a2 x1 h hb1 hx1 => ?_)
    unfold unicode_utf8_ValidString_L1 at h
    conv => cbv
    refine den_br h (fun _ h => ?_) (fun _ h => ?_)
    · conv => cbv
      refine den_elemS h fun b3 _ h => ?_
      conv => cbv
      refine den_br h (fun _ h => ?_) (fun _ h => ?_)
      · conv => cbv
        refine den_subs h fun t4 _ h => ?_
        conv => cbv
        refine den_cut' (r := x1) unicode_utf8_ValidString_K2 (fun j5 => ⟨[(0, .str (.v j5))], [], []⟩) ?_ (fun j5 h => ?_)
        · conv => cbv
          refine .mk ?_
          conv => cbv
          refine den_br h (fun _ h => ?_) (fun _ h => ?_)
          · conv => cbv
            refine den_call' hP h (fun _ h => v_unicode_utf8_word_string h) fun r6 _ h => ?_
            conv => cbv
            refine den_br h (fun _ h => ?_) (fun _ h => ?_)
            · conv => cbv
              refine den_subs h fun t7 _ h => ?_
              conv => cbv
              refine den_cut' (r := x1) (unicode_utf8_ValidString_K3 t7) (fun j8 => ⟨[(0, .str (.v t7)), (21, .int .u64 (.v r6)), (22, .int .u64 (.ar .and .u64 (.v r6) (.lit 9259542123273814144))), (23, .bool (.cmp .eql (.ar .and .u64 (.v r6) (.lit 9259542123273814144)) (.lit 0))), (39, .bool (.v j8))], [], []⟩) ?_ (fun j8 h => ?_)
              · conv => cbv
                refine .mk (some []) (by kernel_rfl) ?_
                conv => cbv
                refine .mk ?_
                conv => cbv
                refine den_br h (fun _ h => ?_) (fun _ h => ?_)
                · conv => cbv
                  refine den_subs h fun t20 _ h => ?_
                  conv => cbv
                  refine den_call' hP h (fun _ h => v_unicode_utf8_word_string h) fun r21 _ h => ?_
                  conv => cbv
                  refine den_call' hP h (fun _ h => v_unicode_utf8_word_string h) fun r22 _ h => ?_
                  conv => cbv
                  refine .mk ?_
                  conv => cbv
                  exact den_join' h
                conv => cbv
                refine .mk ?_
                conv => cbv
                exact den_join' h
              unfold unicode_utf8_ValidString_K3 at h
              conv => cbv
              refine den_br h (fun _ h => ?_) (fun _ h => ?_)
              · conv => cbv
                refine den_subs h fun t9 _ h => ?_
                conv => cbv
                refine den_loop' unicode_utf8_ValidString_L2 h (fun a10 => ⟨[(0, .str (.v a10)), (21, .int .u64 (.v r6)), (22, .int .u64 (.ar .and .u64 (.v r6) (.lit 9259542123273814144))), (23, .bool (.cmp .eql (.ar .and .u64 (.v r6) (.lit 9259542123273814144)) (.lit 0)))], [], []⟩) (fun _ _ a10 x2 h hb2 hx2 => ?_)
                unfold unicode_utf8_ValidString_L2 at h
                conv => cbv
                refine den_cut' (r := x2) (unicode_utf8_ValidString_K4 a10) (fun j11 => ⟨[(0, .str (.v a10)), (21, .int .u64 (.v r6)), (22, .int .u64 (.ar .and .u64 (.v r6) (.lit 9259542123273814144))), (23, .bool (.cmp .eql (.ar .and .u64 (.v r6) (.lit 9259542123273814144)) (.lit 0))), (62, .bool (.v j11))], [], []⟩) ?_ (fun j11 h => ?_)
                · conv => cbv
                  refine .mk (some []) (by kernel_rfl) ?_
                  conv => cbv
                  refine .mk ?_
                  conv => cbv
                  refine den_br h (fun _ h => ?_) (fun _ h => ?_)
                  · conv => cbv
                    refine den_subs h fun t13 _ h => ?_
                    conv => cbv
                    refine den_subs h fun t14 _ h => ?_
                    conv => cbv
                    refine den_subs h fun t15 _ h => ?_
                    conv => cbv
                    refine .mk ?_
                    conv => cbv
                    refine den_call' hP h (fun _ h => v_unicode_utf8_word_string h) fun r16 _ h => ?_
                    conv => cbv
                    refine den_call' hP h (fun _ h => v_unicode_utf8_word_string h) fun r17 _ h => ?_
                    conv => cbv
                    refine den_call' hP h (fun _ h => v_unicode_utf8_word_string h) fun r18 _ h => ?_
                    conv => cbv
                    refine den_call' hP h (fun _ h => v_unicode_utf8_word_string h) fun r19 _ h => ?_
                    conv => cbv
                    refine .mk ?_
                    conv => cbv
                    exact den_join' h
                  conv => cbv
                  refine .mk ?_
                  conv => cbv
                  refine .mk ?_
                  conv => cbv
                  exact den_join' h
                unfold unicode_utf8_ValidString_K4 at h
                conv => cbv
                refine den_br h (fun _ h => ?_) (fun _ h => ?_)
                · conv => cbv
                  refine den_subs h fun t12 _ h => ?_
                  conv => cbv
                  exact den_back' h hb2
                conv => cbv
                replace h := den_out h hx2
                exact den_join' h
              conv => cbv
              exact den_join' h
            conv => cbv
            exact den_join' h
          conv => cbv
          exact den_join' h
        unfold unicode_utf8_ValidString_K2 at h
        conv => cbv
        exact den_back' h hb1
      conv => cbv
      refine den_elemV (f := e_u8) lp h fun p23 _ h => ?_
      conv => cbv
      refine .mk ?_
      conv => cbv
      refine den_elemV (f := e_unicode_utf8_acceptRange) lp h fun p24 _ h => ?_
      conv => cbv
      refine den_br h (fun _ h => ?_) (fun _ h => ?_)
      · conv => cbv
        refine den_cut' (r := x1) (unicode_utf8_ValidString_K5 a2) (fun j25 => ⟨[(0, .str (.v a2)), (94, .bool (.v j25))], [], []⟩) ?_ (fun j25 h => ?_)
        · conv => cbv
          refine .mk (some []) (by kernel_rfl) ?_
          conv => cbv
          refine .mk ?_
          conv => cbv
          refine den_br h (fun _ h => ?_) (fun _ h => ?_)
          · conv => cbv
            refine .mk ?_
            conv => cbv
            exact den_join' h
          conv => cbv
          refine den_elemS h fun b27 _ h => ?_
          conv => cbv
          refine .mk ?_
          conv => cbv
          refine den_br h (fun _ h => ?_) (fun _ h => ?_)
          · conv => cbv
            exact den_join' h
          conv => cbv
          refine den_elemS h fun b28 _ h => ?_
          conv => cbv
          exact den_join' h
        unfold unicode_utf8_ValidString_K5 at h
        conv => cbv
        refine den_br h (fun _ h => ?_) (fun _ h => ?_)
        · conv => cbv
          replace h := den_out h hx1
          cases h
          exact lp
        conv => cbv
        refine den_subs h fun t26 _ h => ?_
        conv => cbv
        exact den_back' h hb1
      conv => cbv
      refine den_br h (fun _ h => ?_) (fun _ h => ?_)
      · conv => cbv
        refine den_cut' (r := x1) (unicode_utf8_ValidString_K6 a2) (fun j29 => ⟨[(0, .str (.v a2)), (125, .bool (.v j29))], [], []⟩) ?_ (fun j29 h => ?_)
        · conv => cbv
          refine .mk (some []) (by kernel_rfl) ?_
          conv => cbv
          refine .mk ?_
          conv => cbv
          refine den_br h (fun _ h => ?_) (fun _ h => ?_)
          · conv => cbv
            refine .mk ?_
            conv => cbv
            refine .mk ?_
            conv => cbv
            refine .mk ?_
            conv => cbv
            exact den_join' h
          conv => cbv
          refine den_elemS h fun b31 _ h => ?_
          conv => cbv
          refine .mk ?_
          conv => cbv
          refine den_br h (fun _ h => ?_) (fun _ h => ?_)
          · conv => cbv
            refine .mk ?_
            conv => cbv
            refine .mk ?_
            conv => cbv
            exact den_join' h
          conv => cbv
          refine den_elemS h fun b32 _ h => ?_
          conv => cbv
          refine .mk ?_
          conv => cbv
          refine den_br h (fun _ h => ?_) (fun _ h => ?_)
          · conv => cbv
            refine .mk ?_
            conv => cbv
            exact den_join' h
          conv => cbv
          refine den_elemS h fun b33 _ h => ?_
          conv => cbv
          refine .mk ?_
          conv => cbv
          refine den_br h (fun _ h => ?_) (fun _ h => ?_)
          · conv => cbv
            exact den_join' h
          conv => cbv
          refine den_elemS h fun b34 _ h => ?_
          conv => cbv
          exact den_join' h
        unfold unicode_utf8_ValidString_K6 at h
        conv => cbv
        refine den_br h (fun _ h => ?_) (fun _ h => ?_)
        · conv => cbv
          replace h := den_out h hx1
          cases h
          exact lp
        conv => cbv
        refine den_subs h fun t30 _ h => ?_
        conv => cbv
        exact den_back' h hb1
      conv => cbv
      refine den_br h (fun _ h => ?_) (fun _ h => ?_)
      · conv => cbv
        refine den_cut' (r := x1) (unicode_utf8_ValidString_K7 a2) (fun j35 => ⟨[(0, .str (.v a2)), (166, .bool (.v j35))], [], []⟩) ?_ (fun j35 h => ?_)
        · conv => cbv
          refine .mk (some []) (by kernel_rfl) ?_
          conv => cbv
          refine .mk ?_
          conv => cbv
          refine den_br h (fun _ h => ?_) (fun _ h => ?_)
          · conv => cbv
            refine .mk ?_
            conv => cbv
            refine .mk ?_
            conv => cbv
            refine .mk ?_
            conv => cbv
            refine .mk ?_
            conv => cbv
            refine .mk ?_
            conv => cbv
            exact den_join' h
          conv => cbv
          refine den_elemS h fun b37 _ h => ?_
          conv => cbv
          refine .mk ?_
          conv => cbv
          refine den_br h (fun _ h => ?_) (fun _ h => ?_)
          · conv => cbv
            refine .mk ?_
            conv => cbv
            refine .mk ?_
            conv => cbv
            refine .mk ?_
            conv => cbv
            refine .mk ?_
            conv => cbv
            exact den_join' h
          conv => cbv
          refine den_elemS h fun b38 _ h => ?_
          conv => cbv
          refine .mk ?_
          conv => cbv
          refine den_br h (fun _ h => ?_) (fun _ h => ?_)
          · conv => cbv
            refine .mk ?_
            conv => cbv
            refine .mk ?_
            conv => cbv
            refine .mk ?_
            conv => cbv
            exact den_join' h
          conv => cbv
          refine den_elemS h fun b39 _ h => ?_
          conv => cbv
          refine .mk ?_
          conv => cbv
          refine den_br h (fun _ h => ?_) (fun _ h => ?_)
          · conv => cbv
            refine .mk ?_
            conv => cbv
            refine .mk ?_
            conv => cbv
            exact den_join' h
          conv => cbv
          refine den_elemS h fun b40 _ h => ?_
          conv => cbv
          refine .mk ?_
          conv => cbv
          refine den_br h (fun _ h => ?_) (fun _ h => ?_)
          · conv => cbv
            refine .mk ?_
            conv => cbv
            exact den_join' h
          conv => cbv
          refine den_elemS h fun b41 _ h => ?_
          conv => cbv
          refine den_br h (fun _ h => ?_) (fun _ h => ?_)
          · conv => cbv
            refine .mk ?_
            conv => cbv
            exact den_join' h
          conv => cbv
          refine den_elemS h fun b42 _ h => ?_
          conv => cbv
          refine .mk ?_
          conv => cbv
          exact den_join' h
        unfold unicode_utf8_ValidString_K7 at h
        conv => cbv
        refine den_br h (fun _ h => ?_) (fun _ h => ?_)
        · conv => cbv
          replace h := den_out h hx1
          cases h
          exact lp
        conv => cbv
        refine den_subs h fun t36 _ h => ?_
        conv => cbv
        exact den_back' h hb1
      conv => cbv
      replace h := den_out h hx1
      cases h
      exact lp
    conv => cbv
    replace h := den_out h hx1
    exact den_join' h
  unfold unicode_utf8_ValidString_K1 at h
  conv => cbv
  cases h
  exact lp
def T_slices_IndexFunc_sstring_string : Tab := [(9, ⟨.str, 1, 16, [.str (.lit [])]⟩), (22, ⟨.slice 9, 1, 24, [.nilsl]⟩)]
theorem T_slices_IndexFunc_sstring_string_ok : TabOk Tryd.prog T_slices_IndexFunc_sstring_string := tab_ok [9, 22]
theorem v_slices_IndexFunc_sstring_string {y0 : List (List UInt8)} {g1 : (List UInt8) → Option Bool} (fid1 : Nat) (hg1 : ∀ z0 r, g1 z0 = some r → AVal Tryd.prog Gl fid1 [e_str z0] (e_bool r)) {r : Int} (h : slices_IndexFunc_sstring_string y0 g1 = some r) : AVal Tryd.prog Gl 68 [(e_sl 1 e_str) y0, (.fn fid1 [] [])] (e_i64 r) := by
  refine aval_of' T_slices_IndexFunc_sstring_string Gl 19 Tryd.func68 T_slices_IndexFunc_sstring_string_ok Tryd_mixed fun P hP _ => ?_
  unfold slices_IndexFunc_sstring_string at h
  conv => cbv
  refine den_cut' (r := r) slices_IndexFunc_sstring_string_K1 (fun j1 => ⟨[], [], []⟩) ?_ (fun j1 h => ?_)
  · conv => cbv
    refine den_loop' (slices_IndexFunc_sstring_string_L1 y0 g1) h (fun a2 => ⟨[(0, .sl 1 e_str y0), (1, .fn fid1 [] []), (7, .int .i64 (.len y0)), (8, .int .i64 (.v a2))], [], []⟩) (fun _ _ a2 x1 h hb1 hx1 => ?_)
    unfold slices_IndexFunc_sstring_string_L1 at h
    conv => cbv
    refine den_br h (fun _ h => ?_) (fun _ h => ?_)
    · conv => cbv
      refine .mk ?_
      conv => cbv
      refine den_elem h fun p3 _ h => ?_
      conv => cbv
      refine den_call' hP h (fun _ h => hg1 _ _ h) fun r4 _ h => ?_
      conv => cbv
      refine den_br h (fun _ h => ?_) (fun _ h => ?_)
      · conv => cbv
        replace h := den_out h hx1
        cases h
        exact lp
      conv => cbv
      exact den_back' h hb1
    conv => cbv
    replace h := den_out h hx1
    exact den_join' h
  unfold slices_IndexFunc_sstring_string_K1 at h
  conv => cbv
  cases h
  exact lp
def T_slices_ContainsFunc_sstring_string : Tab := []
theorem T_slices_ContainsFunc_sstring_string_ok : TabOk Tryd.prog T_slices_ContainsFunc_sstring_string := tab_ok []
theorem v_slices_ContainsFunc_sstring_string {y0 : List (List UInt8)} {g1 : (List UInt8) → Option Bool} (fid1 : Nat) (hg1 : ∀ z0 r, g1 z0 = some r → AVal Tryd.prog Gl fid1 [e_str z0] (e_bool r)) {r : Bool} (h : slices_ContainsFunc_sstring_string y0 g1 = some r) : AVal Tryd.prog Gl 35 [(e_sl 1 e_str) y0, (.fn fid1 [] [])] (e_bool r) := by
  refine aval_of' T_slices_ContainsFunc_sstring_string Gl 9 Tryd.func35 T_slices_ContainsFunc_sstring_string_ok Tryd_mixed fun P hP _ => ?_
  unfold slices_ContainsFunc_sstring_string at h
  conv => cbv
  refine den_call' hP h (fun _ h => v_slices_IndexFunc_sstring_string _ hg1 h) fun r1 _ h => ?_
  conv => cbv
  cases h
  exact lp
theorem v_indexByte {s : List UInt8} {c r : Int} (h : indexByteF s c = some r) : AVal Tryd.prog Gl 103 [.str (.v s), e_u8 c] (e_i64 r) := by
  cases h
  have hargs : ∀ (w : World) (F : Nat → Prop) (β : Bt) (vs : Array Value), vs.size = [V.str (.v s), e_u8 c].length → (∀ (i : Nat) (v : Value) (x : V), vs[i]? = some v → [V.str (.v s), e_u8 c][i]? = some x → RA w F β [] v x) → vs = #[.string ⟨s.toArray⟩, .int .u8 c] ∧ s.length ≤ LIM := fun w F β vs h1 h2 => by
    have hl2 : vs.size = 2 := by simpa using h1
    have g0 : vs[0]? = some (vs[0]'(by omega)) := Array.getElem?_eq_getElem (by omega)
    have g1 : vs[1]? = some (vs[1]'(by omega)) := Array.getElem?_eq_getElem (by omega)
    have e0 := RA.of_str (h2 0 _ _ g0 rfl)
    have e1 := (RA.of_int (h2 1 _ _ g1 rfl)).1
    refine ⟨?_, e0.2⟩
    apply Array.ext
    · simpa using hl2
    · intro i h1' h2'
      simp at h2'
      match i, h2' with
      | 0, _ => exact e0.1
      | 1, _ => simpa [IE.den] using e1
  by_cases hs : s.length ≤ LIM
  · refine aval_of_calls (vs0 := #[.string ⟨s.toArray⟩, .int .u8 c]) (v := .int .i64 (Lib.indexByte s c.toNat.toUInt8)) Tryd.func103 rfl rfl (fun w F β vs h1 h2 => (hargs w F β vs h1 h2).1) (fun w => (Tryd.stringslite_IndexByte ⟨s.toArray⟩ c w).mono fun e w' ⟨he, hw⟩ => ⟨he, hw ▸ Keep.refl _ _⟩) (fun w F => .int _ _ _ rfl ((has_iff _ _).2 ?_))
    have h0 := Lib.indexByte_ge s c.toNat.toUInt8
    have h1 := indexByte_lt s c.toNat.toUInt8
    have h2 : LIM = 9223372036854775807 := rfl
    simp only [lo, hi]
    rcases h1 with h1 | rfl
    · exact ⟨by omega, by omega⟩
    · simp [Lib.indexByte]
  · exact ⟨⟨_, Tryd.func103, rfl, rfl⟩, fun w F β vs h1 h2 _ _ _ _ => absurd (hargs w F β vs h1 h2).2 hs⟩
def T_internal_stringslite_Index : Tab := [(3, ⟨.int .i64, 1, 8, [.int .i64 (.lit 0)]⟩), (9, ⟨.str, 1, 16, [.str (.lit [])]⟩)]
theorem T_internal_stringslite_Index_ok : TabOk Tryd.prog T_internal_stringslite_Index := tab_ok [3, 9]
theorem v_internal_stringslite_Index {y0 : List UInt8} {y1 : List UInt8} {r : Int} (h : internal_stringslite_Index y0 y1 = some r) : AVal Tryd.prog Gl 84 [e_str y0, e_str y1] (e_i64 r) := by
  refine aval_of' T_internal_stringslite_Index Gl 143 Tryd.func84 T_internal_stringslite_Index_ok Tryd_mixed fun P hP _ => ?_
  unfold internal_stringslite_Index at h
  conv => cbv
  refine .mk ?_
  conv => cbv
  refine den_br h (fun _ h => ?_) (fun _ h => ?_)
  · conv => cbv
    cases h
    exact lp
  conv => cbv
  refine den_br h (fun _ h => ?_) (fun _ h => ?_)
  · conv => cbv
    refine den_elemS h fun b1 _ h => ?_
    conv => cbv
    refine den_call' hP h (fun _ h => v_indexByte h) fun r2 _ h => ?_
    conv => cbv
    cases h
    exact lp
  conv => cbv
  refine den_br h (fun _ h => ?_) (fun _ h => ?_)
  · conv => cbv
    cases h
    exact lp
  conv => cbv
  exact den_none h
def T_internal_stringslite_Cut : Tab := [(9, ⟨.str, 1, 16, [.str (.lit [])]⟩)]
theorem T_internal_stringslite_Cut_ok : TabOk Tryd.prog T_internal_stringslite_Cut := tab_ok [9]
theorem v_internal_stringslite_Cut {y0 : List UInt8} {y1 : List UInt8} {r : (List UInt8) × (List UInt8) × Bool} (h : internal_stringslite_Cut y0 y1 = some r) : AVal Tryd.prog Gl 71 [e_str y0, e_str y1] (.tup [e_str r.1, e_str r.2.1, e_bool r.2.2]) := by
  refine aval_of' T_internal_stringslite_Cut Gl 23 Tryd.func71 T_internal_stringslite_Cut_ok Tryd_mixed fun P hP _ => ?_
  unfold internal_stringslite_Cut at h
  conv => cbv
  refine den_call' hP h (fun _ h => v_internal_stringslite_Index h) fun r1 _ h => ?_
  conv => cbv
  refine den_br h (fun _ h => ?_) (fun _ h => ?_)
  · conv => cbv
    refine .dup ?_
    conv => cbv
    refine .mk (some []) (by kernel_rfl) ?_
    conv => cbv
    refine den_subs h fun t2 _ h => ?_
    conv => cbv
    refine .mk ?_
    conv => cbv
    refine den_subs h fun t3 _ h => ?_
    conv => cbv
    refine .mk ?_
    conv => cbv
    cases h
    exact .tup _ _ lp
  conv => cbv
  cases h
  exact .tup _ _ lp
def T_strings_Cut : Tab := []
theorem T_strings_Cut_ok : TabOk Tryd.prog T_strings_Cut := tab_ok []
theorem v_strings_Cut {y0 : List UInt8} {y1 : List UInt8} {r : (List UInt8) × (List UInt8) × Bool} (h : strings_Cut y0 y1 = some r) : AVal Tryd.prog Gl 44 [e_str y0, e_str y1] (.tup [e_str r.1, e_str r.2.1, e_bool r.2.2]) := by
  refine aval_of' T_strings_Cut Gl 13 Tryd.func44 T_strings_Cut_ok Tryd_mixed fun P hP _ => ?_
  unfold strings_Cut at h
  conv => cbv
  refine den_call' hP h (fun _ h => v_internal_stringslite_Cut h) fun r1 _ h => ?_
  conv => cbv
  refine .mk ?_
  conv => cbv
  cases h
  exact lp
def Tx_tags_letters_c1 : Tab := [(5, ⟨.int .u8, 1, 1, [.int .u8 (.lit 0)]⟩)]
theorem Tx_tags_letters_c1_ok : TabOk Tryd.prog Tx_tags_letters_c1 := tab_ok [5]
theorem x_tags_letters_c1 {y0 : Int} {y1 : Int} {y2 : Int} {r : Unit} (h : tags_letters_c1 y0 y1 y2 = some r) : ACalls Tryd.prog Gl 76 [e_u8 y0, .ptr 10000 0, .ptr 10001 0] [(10000, .var [.int .u8 (.v y1)]), (10001, .var [.int .u8 (.v y2)])] (fun x o' => x = .bool (.ite (.cmp .lss (.v y0) (.v y1)) (.lit true) (.cmp .gtr (.v y0) (.v y2))) ∧ o' = [(10000, .var [.int .u8 (.v y1)]), (10001, .var [.int .u8 (.v y2)])]) := by
  refine acalls_of' Tx_tags_letters_c1 Gl 13 [10000, 10001] Tryd.func76 Tx_tags_letters_c1_ok Tryd_mixed fun P hP _ => ?_
  unfold tags_letters_c1 at h
  conv => cbv
  refine .mk ?_
  conv => cbv
  refine .mk [(10000, 10000, false), (10001, 10001, false)] [] rfl rfl ?_ ?_
  · conv => cbv
    cases h
    exact lp
  conv => cbv
  cases h
  exact lp
def Tx_slices_IndexFunc_sbyte_byte : Tab := [(5, ⟨.int .u8, 1, 1, [.int .u8 (.lit 0)]⟩), (27, ⟨.slice 5, 1, 24, [.nilsl]⟩)]
theorem Tx_slices_IndexFunc_sbyte_byte_ok : TabOk Tryd.prog Tx_slices_IndexFunc_sbyte_byte := tab_ok [5, 27]
theorem x_slices_IndexFunc_sbyte_byte {y0 : List Int} {y1 : Int} {y2 : Int} {r : Int} (h : slices_IndexFunc_sbyte_byte y0 y1 y2 = some r) : ACalls Tryd.prog Gl 93 [(e_sl 1 e_u8) y0, .fn 76 [] [.ptr 10000 0, .ptr 10001 0]] [(10000, .var [.int .u8 (.v y1)]), (10001, .var [.int .u8 (.v y2)])] (fun x o' => x = .int .i64 (.v r) ∧ o' = [(10000, .var [.int .u8 (.v y1)]), (10001, .var [.int .u8 (.v y2)])]) := by
  refine acalls_of' Tx_slices_IndexFunc_sbyte_byte Gl 19 [10000, 10001] Tryd.func93 Tx_slices_IndexFunc_sbyte_byte_ok Tryd_mixed fun P hP _ => ?_
  unfold slices_IndexFunc_sbyte_byte at h
  conv => cbv
  refine den_cut' (r := r) slices_IndexFunc_sbyte_byte_K1 (fun j1 => ⟨[], [(10000, .var [.int .u8 (.v y1)]), (10001, .var [.int .u8 (.v y2)])], []⟩) ?_ (fun j1 h => ?_)
  · conv => cbv
    refine den_loop' (slices_IndexFunc_sbyte_byte_L1 y0 y1 y2) h (fun a2 => ⟨[(0, .sl 1 e_u8 y0), (1, .fn 76 [] [.ptr 10000 0, .ptr 10001 0]), (7, .int .i64 (.len y0)), (8, .int .i64 (.v a2))], [(10000, .var [.int .u8 (.v y1)]), (10001, .var [.int .u8 (.v y2)])], []⟩) (fun _ _ a2 x1 h hb1 hx1 => ?_)
    unfold slices_IndexFunc_sbyte_byte_L1 at h
    conv => cbv
    refine den_br h (fun _ h => ?_) (fun _ h => ?_)
    · conv => cbv
      refine .mk ?_
      conv => cbv
      refine den_elem h fun p3 _ h => ?_
      conv => cbv
      refine den_own' [(10000, 10000, false), (10001, 10001, false)] [] hP h (fun _ h => x_tags_letters_c1 h) fun r4 _ h => ?_
      conv => cbv
      refine den_br h (fun _ h => ?_) (fun _ h => ?_)
      · conv => cbv
        replace h := den_out h hx1
        refine .mk [(10000, 10000, false), (10001, 10001, false)] [] rfl rfl ?_ ?_
        · conv => cbv
          cases h
          exact lp
        conv => cbv
        cases h
        exact lp
      conv => cbv
      exact den_back' h hb1
    conv => cbv
    replace h := den_out h hx1
    exact den_join' h
  unfold slices_IndexFunc_sbyte_byte_K1 at h
  conv => cbv
  refine .mk [(10000, 10000, false), (10001, 10001, false)] [] rfl rfl ?_ ?_
  · conv => cbv
    cases h
    exact lp
  conv => cbv
  cases h
  exact lp
def Tx_slices_ContainsFunc_sbyte_byte : Tab := []
theorem Tx_slices_ContainsFunc_sbyte_byte_ok : TabOk Tryd.prog Tx_slices_ContainsFunc_sbyte_byte := tab_ok []
theorem x_slices_ContainsFunc_sbyte_byte {y0 : List Int} {y1 : Int} {y2 : Int} {r : Bool} (h : slices_ContainsFunc_sbyte_byte y0 y1 y2 = some r) : ACalls Tryd.prog Gl 75 [(e_sl 1 e_u8) y0, .fn 76 [] [.ptr 10000 0, .ptr 10001 0]] [(10000, .var [.int .u8 (.v y1)]), (10001, .var [.int .u8 (.v y2)])] (fun x o' => x = .bool (.v r) ∧ o' = [(10000, .var [.int .u8 (.v y1)]), (10001, .var [.int .u8 (.v y2)])]) := by
  refine acalls_of' Tx_slices_ContainsFunc_sbyte_byte Gl 9 [10000, 10001] Tryd.func75 Tx_slices_ContainsFunc_sbyte_byte_ok Tryd_mixed fun P hP _ => ?_
  unfold slices_ContainsFunc_sbyte_byte at h
  conv => cbv
  refine den_own' [(10000, 10000, false), (10001, 10001, false)] [] hP h (fun _ h => x_slices_IndexFunc_sbyte_byte h) fun r1 _ h => ?_
  conv => cbv
  refine .mk [(10000, 10000, false), (10001, 10001, false)] [] rfl rfl ?_ ?_
  · conv => cbv
    cases h
    exact lp
  conv => cbv
  cases h
  exact lp
def T_tags_letters : Tab := [(5, ⟨.int .u8, 1, 1, [.int .u8 (.lit 0)]⟩), (9, ⟨.str, 1, 16, [.str (.lit [])]⟩), (27, ⟨.slice 5, 1, 24, [.nilsl]⟩)]
theorem T_tags_letters_ok : TabOk Tryd.prog T_tags_letters := tab_ok [5, 9, 27]
theorem v_tags_letters {y0 : List UInt8} {y1 : Int} {y2 : Int} {r : Bool} (h : tags_letters y0 y1 y2 = some r) : AVal Tryd.prog Gl 51 [e_str y0, e_u8 y1, e_u8 y2] (e_bool r) := by
  refine aval_of' T_tags_letters Gl 12 Tryd.func51 T_tags_letters_ok Tryd_mixed fun P hP _ => ?_
  unfold tags_letters at h
  conv => cbv
  refine .own ?_
  conv => cbv
  refine .own ?_
  conv => cbv
  refine .mk ?_
  conv => cbv
  refine den_bytes (fun l1 => ((slices_ContainsFunc_sbyte_byte l1 y1 y2).bind fun r2 => some (!r2))) h fun l1 _ h => ?_
  conv => cbv
  refine den_own' [(4, 10000, false), (5, 10001, false)] [] hP h (fun _ h => x_slices_ContainsFunc_sbyte_byte h) fun r2 _ h => ?_
  conv => cbv
  cases h
  exact lp
def T_tags_comment : Tab := []
theorem T_tags_comment_ok : TabOk Tryd.prog T_tags_comment := tab_ok []
theorem v_tags_comment {y0 : List UInt8} {r : Bool} (h : tags_comment y0 = some r) : AVal Tryd.prog Gl 37 [e_str y0] (e_bool r) := by
  refine aval_of' T_tags_comment Gl 25 Tryd.func37 T_tags_comment_ok Tryd_mixed fun P hP _ => ?_
  unfold tags_comment at h
  conv => cbv
  refine den_call' hP h (fun _ h => v_strings_Cut h) fun r1 _ h => ?_
  conv => cbv
  refine .mk ?_
  conv => cbv
  refine .mk ?_
  conv => cbv
  refine den_br h (fun _ h => ?_) (fun _ h => ?_)
  · conv => cbv
    refine den_call' hP h (fun _ h => v_tags_letters h) fun r2 _ h => ?_
    conv => cbv
    refine .mk ?_
    conv => cbv
    refine den_br h (fun _ h => ?_) (fun _ h => ?_)
    · conv => cbv
      refine den_call' hP h (fun _ h => v_unicode_utf8_ValidString h) fun r3 _ h => ?_
      conv => cbv
      cases h
      exact lp
    conv => cbv
    cases h
    exact lp
  conv => cbv
  refine .mk ?_
  conv => cbv
  cases h
  exact lp
def T_tags_Comments_Write_c1 : Tab := []
theorem T_tags_Comments_Write_c1_ok : TabOk Tryd.prog T_tags_Comments_Write_c1 := tab_ok []
theorem v_tags_Comments_Write_c1 {y0 : List UInt8} {r : Bool} (h : tags_Comments_Write_c1 y0 = some r) : AVal Tryd.prog Gl 36 [e_str y0] (e_bool r) := by
  refine aval_of' T_tags_Comments_Write_c1 Gl 6 Tryd.func36 T_tags_Comments_Write_c1_ok Tryd_mixed fun P hP _ => ?_
  unfold tags_Comments_Write_c1 at h
  conv => cbv
  refine den_call' hP h (fun _ h => v_tags_comment h) fun r1 _ h => ?_
  conv => cbv
  cases h
  exact lp
def T_tags_low : Tab := [(3, ⟨.int .i64, 1, 8, [.int .i64 (.lit 0)]⟩), (5, ⟨.int .u8, 1, 1, [.int .u8 (.lit 0)]⟩), (27, ⟨.slice 5, 1, 24, [.nilsl]⟩)]
theorem T_tags_low_ok : TabOk Tryd.prog T_tags_low := tab_ok [3, 5, 27]
theorem v_tags_low {y0 : Int} {r : List Int} (h : tags_low y0 = some r) : AVal Tryd.prog Gl 39 [e_i64 y0] ((e_sl 1 e_u8) r) := by
  refine aval_of' T_tags_low Gl 15 Tryd.func39 T_tags_low_ok Tryd_mixed fun P hP _ => ?_
  unfold tags_low at h
  conv => cbv
  refine .mk ?_
  conv => cbv
  refine .mk ?_
  conv => cbv
  refine .data ?_
  conv => cbv
  cases h
  exact .sls lp
def Tw_slices_Concat_sbyte_byte : Tab := [(5, ⟨.int .u8, 1, 1, [.int .u8 (.lit 0)]⟩), (27, ⟨.slice 5, 1, 24, [.nilsl]⟩), (112, ⟨.slice 27, 1, 24, [.nilsl]⟩)]
theorem Tw_slices_Concat_sbyte_byte_ok : TabOk Tryd.prog Tw_slices_Concat_sbyte_byte := tab_ok [5, 27, 112]
theorem w_slices_Concat_sbyte_byte {y0 : List (List Int)} {r : List Int} (h : slices_Concat_sbyte_byte y0 = some r) : ACalls Tryd.prog Gl 38 [(e_sl 1 (e_sl 1 e_u8)) y0] [] (fun x o' => x = .osl 20000 ∧ o' = [(20000, .arr false 5 1 e_u8 r)]) := by
  refine acalls_of' Tw_slices_Concat_sbyte_byte Gl 36 [] Tryd.func38 Tw_slices_Concat_sbyte_byte_ok Tryd_mixed fun P hP _ => ?_
  unfold slices_Concat_sbyte_byte at h
  conv => cbv
  refine den_cut' (r := r) (slices_Concat_sbyte_byte_K1 y0) (fun j1 => ⟨[(0, .sl 1 (e_sl 1 e_u8) y0), (3, .int .i64 (.v j1))], [], []⟩) ?_ (fun j1 h => ?_)
  · conv => cbv
    refine den_loop' (slices_Concat_sbyte_byte_L2 y0) h (fun a7 => ⟨[(0, .sl 1 (e_sl 1 e_u8) y0), (3, .int .i64 (.v a7.1)), (9, .sl 1 (e_sl 1 e_u8) y0), (10, .int .i64 (.len y0)), (11, .int .i64 (.v a7.2))], [], []⟩) (fun _ _ a7 x1 h hb1 hx1 => ?_)
    unfold slices_Concat_sbyte_byte_L2 at h
    conv => cbv
    refine den_br h (fun _ h => ?_) (fun _ h => ?_)
    · conv => cbv
      refine den_elem h fun p8 _ h => ?_
      conv => cbv
      refine den_br h (fun _ h => ?_) (fun _ h => ?_)
      · conv => cbv
        exact den_none h
      conv => cbv
      exact den_back' h hb1
    conv => cbv
    replace h := den_out h hx1
    exact den_join' h
  unfold slices_Concat_sbyte_byte_K1 at h
  conv => cbv
  refine den_own' (hl := (.cons _ _ _ _ (.same _) (.cons _ _ _ _ (.same _) .nil))) (ho := True.intro) [(24, 20000, true)] [] hP h (fun _ h => g_grow h) fun r2 _ h => ?_
  conv => cbv
  refine den_cut' (r := r) slices_Concat_sbyte_byte_K2 (fun j3 => ⟨[(6, .osl 24)], [(24, .arr false 5 1 e_u8 j3)], []⟩) ?_ (fun j3 h => ?_)
  · conv => cbv
    refine den_loop' (slices_Concat_sbyte_byte_L1 y0) h (fun a4 => ⟨[(6, .osl 24), (25, .sl 1 (e_sl 1 e_u8) y0), (26, .int .i64 (.len y0)), (27, .int .i64 (.v a4.1))], [(24, .arr false 5 1 e_u8 a4.2)], []⟩) (fun _ _ a4 x1 h hb1 hx1 => ?_)
    unfold slices_Concat_sbyte_byte_L1 at h
    conv => cbv
    refine den_br h (fun _ h => ?_) (fun _ h => ?_)
    · conv => cbv
      refine den_elem h fun p5 _ h => ?_
      conv => cbv
      refine den_app_own e_u8 (xs := p5) h rfl (News.map rfl) fun l6 _ h => ?_
      conv => cbv
      exact den_back' h hb1
    conv => cbv
    replace h := den_out h hx1
    exact den_join' h
  unfold slices_Concat_sbyte_byte_K2 at h
  conv => cbv
  refine .mk [(24, 20000, false)] [] rfl rfl ?_ ?_
  · conv => cbv
    cases h
    exact lp
  · conv => cbv
    cases h
    exact lp
def T_tags_full : Tab := [(27, ⟨.slice 5, 1, 24, [.nilsl]⟩)]
theorem T_tags_full_ok : TabOk Tryd.prog T_tags_full := tab_ok [27]
theorem v_tags_full {y0 : List Int} {r : (List Int) × Int} (h : tags_full y0 = some r) : AVal Tryd.prog Gl 40 [(e_sl 1 e_u8) y0] (.tup [(e_sl 1 e_u8) r.1, e_i64 r.2]) := by
  refine aval_of' T_tags_full Gl 8 Tryd.func40 T_tags_full_ok Tryd_mixed fun P hP _ => ?_
  unfold tags_full at h
  conv => cbv
  refine den_br h (fun _ h => ?_) (fun _ h => ?_)
  · conv => cbv
    cases h
    exact .tup _ _ lp
  conv => cbv
  cases h
  exact .tup _ _ lp
def T_tags_Comments_Write : Tab := [(5, ⟨.int .u8, 1, 1, [.int .u8 (.lit 0)]⟩), (9, ⟨.str, 1, 16, [.str (.lit [])]⟩), (22, ⟨.slice 9, 1, 24, [.nilsl]⟩), (24, ⟨.struct [(0, 9), (1, 22)], 2, 40, [.str (.lit []), .nilsl]⟩), (27, ⟨.slice 5, 1, 24, [.nilsl]⟩), (112, ⟨.slice 27, 1, 24, [.nilsl]⟩)]
theorem T_tags_Comments_Write_ok : TabOk Tryd.prog T_tags_Comments_Write := tab_ok [5, 9, 22, 24, 27, 112]
theorem v_tags_Comments_Write {y0 : tags_Comments} {r : (List Int) × Int} (h : tags_Comments_Write y0 = some r) : AVal Tryd.prog Gl 11 [e_tags_Comments y0] (.tup [(e_sl 1 e_u8) r.1, e_i64 r.2]) := by
  refine aval_of' T_tags_Comments_Write Gl 48 Tryd.func11 T_tags_Comments_Write_ok Tryd_mixed fun P hP _ => ?_
  unfold tags_Comments_Write at h
  conv => cbv
  refine .own ?_
  conv => cbv
  refine den_call' hP h (fun _ h => v_unicode_utf8_ValidString h) fun r1 _ h => ?_
  conv => cbv
  refine .mk ?_
  conv => cbv
  refine den_br h (fun _ h => ?_) (fun _ h => ?_)
  · conv => cbv
    cases h
    exact .tup _ _ lp
  conv => cbv
  refine den_call' hP h (fun _ h => v_slices_ContainsFunc_sstring_string _ (fun _ _ h => v_tags_Comments_Write_c1 h) h) fun r2 _ h => ?_
  conv => cbv
  refine den_br h (fun _ h => ?_) (fun _ h => ?_)
  · conv => cbv
    cases h
    exact .tup _ _ lp
  conv => cbv
  refine den_cut' (r := r) (tags_Comments_Write_K1 y0) (fun j3 => ⟨[(1, .ptr 1 0), (4, .osl 28)], [(1, .var [.str (.v y0.Vendor), .sl 1 e_str y0.L]), (28, .arr false 5 1 e_u8 j3)], []⟩) ?_ (fun j3 h => ?_)
  · conv => cbv
    refine .mk (some [28]) (by kernel_rfl) ?_
    conv => cbv
    refine .mk ?_
    conv => cbv
    refine ⟨?_, ?_⟩
    · refine den_call' hP h (fun _ h => v_tags_low h) fun r11 _ h => ?_
      conv => cbv
      refine ⟨?_, ?_⟩
      · refine den_bytes (fun l12 => ((tags_low (y0.L.length : Int)).bind fun r13 => (slices_Concat_sbyte_byte [r11, l12, r13]).bind fun r14 => tags_Comments_Write_K1 y0 r14)) h fun l12 _ h => ?_
        conv => cbv
        refine den_call' hP h (fun _ h => v_tags_low h) fun r13 _ h => ?_
        conv => cbv
        refine .mk ?_
        conv => cbv
        refine .data ?_
        conv => cbv
        refine den_own' (hl := (.cons _ _ _ _ (.sls (.cons _ _ _ _ (VEq.of_lepl (.cons _ _ _ _ (.same _) .nil) rfl) (.cons _ _ _ _ (VEq.of_lepl (.cons _ _ _ _ (.same _) .nil) rfl) (.cons _ _ _ _ (VEq.of_lepl (.cons _ _ _ _ (.same _) .nil) rfl) .nil)))) .nil)) (ho := True.intro) [(28, 20000, true)] [] hP h (fun _ h => w_slices_Concat_sbyte_byte h) fun r14 _ h => ?_
        conv => cbv
        exact den_join' h
      · refine den_call' hP h (fun _ h => v_tags_low h) fun r15 _ h => ?_
        conv => cbv
        refine den_bytes (fun l16 => ((slices_Concat_sbyte_byte [r11, l16, r15]).bind fun r17 => tags_Comments_Write_K1 y0 r17)) h fun l16 _ h => ?_
        conv => cbv
        refine .mk ?_
        conv => cbv
        refine .data ?_
        conv => cbv
        refine den_own' (hl := (.cons _ _ _ _ (.sls (.cons _ _ _ _ (VEq.of_lepl (.cons _ _ _ _ (.same _) .nil) rfl) (.cons _ _ _ _ (VEq.of_lepl (.cons _ _ _ _ (.same _) .nil) rfl) (.cons _ _ _ _ (VEq.of_lepl (.cons _ _ _ _ (.same _) .nil) rfl) .nil)))) .nil)) (ho := True.intro) [(28, 20000, true)] [] hP h (fun _ h => w_slices_Concat_sbyte_byte h) fun r17 _ h => ?_
        conv => cbv
        exact den_join' h
    · refine den_bytes (fun l18 => ((tags_low (y0.Vendor.length : Int)).bind fun r19 => (tags_low (y0.L.length : Int)).bind fun r20 => (slices_Concat_sbyte_byte [r19, l18, r20]).bind fun r21 => tags_Comments_Write_K1 y0 r21)) h fun l18 _ h => ?_
      conv => cbv
      refine den_call' hP h (fun _ h => v_tags_low h) fun r19 _ h => ?_
      conv => cbv
      refine den_call' hP h (fun _ h => v_tags_low h) fun r20 _ h => ?_
      conv => cbv
      refine .mk ?_
      conv => cbv
      refine .data ?_
      conv => cbv
      refine den_own' (hl := (.cons _ _ _ _ (.sls (.cons _ _ _ _ (VEq.of_lepl (.cons _ _ _ _ (.same _) .nil) rfl) (.cons _ _ _ _ (VEq.of_lepl (.cons _ _ _ _ (.same _) .nil) rfl) (.cons _ _ _ _ (VEq.of_lepl (.cons _ _ _ _ (.same _) .nil) rfl) .nil)))) .nil)) (ho := True.intro) [(28, 20000, true)] [] hP h (fun _ h => w_slices_Concat_sbyte_byte h) fun r21 _ h => ?_
      conv => cbv
      exact den_join' h
  unfold tags_Comments_Write_K1 at h
  conv => cbv
  refine den_cut' (r := r) tags_Comments_Write_K2 (fun j4 => ⟨[(4, .osl 28)], [(28, .arr false 5 1 e_u8 j4)], []⟩) ?_ (fun j4 h => ?_)
  · conv => cbv
    refine den_loop' (tags_Comments_Write_L1 y0) h (fun a6 => ⟨[(4, .osl 28), (30, .sl 1 e_str y0.L), (31, .int .i64 (.len y0.L)), (32, .int .i64 (.v a6.1))], [(28, .arr false 5 1 e_u8 a6.2)], []⟩) (fun _ _ a6 x1 h hb1 hx1 => ?_)
    unfold tags_Comments_Write_L1 at h
    conv => cbv
    refine den_br h (fun _ h => ?_) (fun _ h => ?_)
    · conv => cbv
      refine den_elem h fun p7 _ h => ?_
      conv => cbv
      refine .mk ?_
      conv => cbv
      refine den_call' hP h (fun _ h => v_tags_low h) fun r8 _ h => ?_
      conv => cbv
      refine den_app_own e_u8 (xs := r8) h rfl (News.map rfl) fun l9 _ h => ?_
      conv => cbv
      refine den_app_own e_u8 (xs := (bytesI p7)) h rfl (News.map (by first | rfl | (cases p7 <;> rfl))) fun l10 _ h => ?_
      conv => cbv
      exact den_back' h hb1
    conv => cbv
    replace h := den_out h hx1
    exact den_join' h
  unfold tags_Comments_Write_K2 at h
  conv => cbv
  refine .mk ?_
  conv => cbv
  refine den_call' hP h (fun _ h => v_tags_full h) fun r5 _ h => ?_
  conv => cbv
  cases h
  exact lp
def T_jetsamlaw11_Bytes : Tab := [(5, ⟨.int .u8, 1, 1, [.int .u8 (.lit 0)]⟩), (27, ⟨.slice 5, 1, 24, [.nilsl]⟩)]
theorem T_jetsamlaw11_Bytes_ok : TabOk Tryd.prog T_jetsamlaw11_Bytes := tab_ok [5, 27]
theorem v_jetsamlaw11_Bytes {y0 : List Int} {y1 : List Int} {r : Bool} (h : jetsamlaw11_Bytes y0 y1 = some r) : AVal Tryd.prog Gl 18 [(e_sl 1 e_u8) y0, (e_sl 1 e_u8) y1] (e_bool r) := by
  refine aval_of' T_jetsamlaw11_Bytes Gl 26 Tryd.func18 T_jetsamlaw11_Bytes_ok Tryd_mixed fun P hP _ => ?_
  unfold jetsamlaw11_Bytes at h
  conv => cbv
  refine den_br h (fun _ h => ?_) (fun _ h => ?_)
  · conv => cbv
    cases h
    exact lp
  conv => cbv
  refine den_cut' (r := r) jetsamlaw11_Bytes_K1 (fun j1 => ⟨[], [], []⟩) ?_ (fun j1 h => ?_)
  · conv => cbv
    refine den_loop' (jetsamlaw11_Bytes_L1 y0 y1) h (fun a2 => ⟨[(0, .sl 1 e_u8 y0), (1, .sl 1 e_u8 y1), (5, .int .i64 (.v a2))], [], []⟩) (fun _ _ a2 x1 h hb1 hx1 => ?_)
    unfold jetsamlaw11_Bytes_L1 at h
    conv => cbv
    refine den_br h (fun _ h => ?_) (fun _ h => ?_)
    · conv => cbv
      refine .dup ?_
      conv => cbv
      refine .mk (some []) (by kernel_rfl) ?_
      conv => cbv
      refine den_elem h fun p3 _ h => ?_
      conv => cbv
      refine .mk ?_
      conv => cbv
      refine den_elem h fun p4 _ h => ?_
      conv => cbv
      refine den_br h (fun _ h => ?_) (fun _ h => ?_)
      · conv => cbv
        replace h := den_out h hx1
        cases h
        exact lp
      conv => cbv
      exact den_back' h hb1
    conv => cbv
    replace h := den_out h hx1
    exact den_join' h
  unfold jetsamlaw11_Bytes_K1 at h
  conv => cbv
  cases h
  exact lp
def T_tags_small_c1 : Tab := []
theorem T_tags_small_c1_ok : TabOk Tryd.prog T_tags_small_c1 := tab_ok []
theorem v_tags_small_c1 {y0 : Int} {r : Int} (h : tags_small_c1 y0 = some r) : AVal Tryd.prog Gl 73 [e_i32 y0] (e_i32 r) := by
  refine aval_of' T_tags_small_c1 Gl 13 Tryd.func73 T_tags_small_c1_ok Tryd_mixed fun P hP _ => ?_
  unfold tags_small_c1 at h
  conv => cbv
  refine .mk ?_
  conv => cbv
  refine den_br h (fun _ h => ?_) (fun _ h => ?_)
  · conv => cbv
    cases h
    exact lp
  conv => cbv
  cases h
  exact lp
theorem gl_first : ∀ c, c < 256 → ∃ cs, glook Gl 0 = some cs ∧ cs[c]? = some (.int .u8 (.lit (Lib.firstT c))) := by
  have h : ((List.range 256).all fun c => decide ((((glook Gl 0).getD [])[c]?.map fun v => match v with | .int .u8 (.lit n) => n | _ => -1) = some ((Lib.firstT c : Nat) : Int))) = true := by kernel_rfl
  intro c hc
  have h1 := of_decide_eq_true (List.all_eq_true.1 h c (List.mem_range.2 hc))
  refine ⟨(glook Gl 0).getD [], rfl, ?_⟩
  cases e : ((glook Gl 0).getD [])[c]? with
  | none => rw [e] at h1; cases h1
  | some v =>
    rw [e] at h1
    simp only [Option.map_some, Option.some.injEq] at h1
    split at h1
    · rw [h1]
    · have := Int.natCast_nonneg (Lib.firstT c); omega
theorem gl_acc : ∀ i, i < 16 → ∃ cs, glook Gl 1 = some cs ∧ cs[2 * i]? = some (.int .u8 (.lit (Lib.accLo i))) ∧ cs[2 * i + 1]? = some (.int .u8 (.lit (Lib.accHi i))) := by
  have h : ((List.range 16).all fun c => decide ((((glook Gl 1).getD [])[2 * c]?.map fun v => match v with | .int .u8 (.lit n) => n | _ => -1) = some ((Lib.accLo c : Nat) : Int) ∧ (((glook Gl 1).getD [])[2 * c + 1]?.map fun v => match v with | .int .u8 (.lit n) => n | _ => -1) = some ((Lib.accHi c : Nat) : Int))) = true := by kernel_rfl
  intro c hc
  obtain ⟨h1, h2⟩ := of_decide_eq_true (List.all_eq_true.1 h c (List.mem_range.2 hc))
  have go : ∀ (j : Nat) (n : Nat), (((glook Gl 1).getD [])[j]?.map fun v => match v with | .int .u8 (.lit n) => n | _ => -1) = some (n : Int) → ((glook Gl 1).getD [])[j]? = some (.int .u8 (.lit n)) := fun j n h1 => by
    cases e : ((glook Gl 1).getD [])[j]? with
    | none => rw [e] at h1; cases h1
    | some v =>
      rw [e] at h1
      simp only [Option.map_some, Option.some.injEq] at h1
      split at h1
      · rw [h1]
      · omega
  exact ⟨(glook Gl 1).getD [], rfl, go _ _ h1, go _ _ h2⟩
theorem glb_cell {G : Glb} {w : World} {F : Nat → Prop} {g j : Nat} {cs : List V} {k : IntKind} {n : Int} (h : GlbOk G w F) (hg : glook G g = some cs) (hj : cs[j]? = some (.int k (.lit n))) : w.cell? ⟨g, j, none⟩ = some (.int k n) := by
  have hd := h.ok g cs hg
  generalize hp : Value.pointer (some ⟨g, 0, none⟩) = p at hd
  generalize hq : V.rptr cs = q at hd
  cases hd with
  | rptr a xs hs hF hb cv hone hcv hr =>
    cases hq
    injection hp with hp
    injection hp with hp
    subst hp
    have e := (RA.of_int (RA.d (β := fun _ => none) (o := []) _ _ (hr j _ hj))).1
    have := hcv j _ hj
    simpa [e, IE.den] using this
  | _ => first | (cases hq; done) | (cases hp; done)
theorem utf8_tabs {w : World} {F : Nat → Prop} (h : GlbOk Gl w F) : Lib.Utf8Tabs 0 1 w := by
  refine ⟨fun c hc => ?_, fun i hi => ?_⟩
  · obtain ⟨cs, h1, h2⟩ := gl_first c hc
    exact glb_cell h h1 h2
  · obtain ⟨cs, h1, h2, h3⟩ := gl_acc i hi
    exact ⟨glb_cell h h1 h2, glb_cell h h1 h3⟩
def smf (x : Int) : Int := if 65 ≤ x ∧ x ≤ 90 then x + 32 else x
theorem small_c1 (x : Int) : tags_small_c1 x = some (smf x) := by
  unfold tags_small_c1 smf
  by_cases h : 65 ≤ x ∧ x ≤ 90
  · have e1 : IntKind.i32.wrap (x + 97) = x + 97 := wrap_id ((has_iff _ _).2 (by simp only [lo, hi]; omega))
    have e2 : IntKind.i32.wrap (x + 97 - 65) = x + 97 - 65 := wrap_id ((has_iff _ _).2 (by simp only [lo, hi]; omega))
    rw [e1, e2, if_pos h, if_pos (by simp [h.1, h.2])]
    congr 1
    omega
  · rw [if_neg h, if_neg (by simp only [ge_iff_le, decide_eq_true_eq]; split <;> simp_all)]
theorem mapD_small : ∀ (l : List UInt8), l.all (fun b => decide (b.toNat < 128)) = true → Lib.mapD smf l = l.map foldB
  | [], _ => rfl
  | b :: t, h => by
    rw [List.all_cons, Bool.and_eq_true] at h
    have hb : b.toNat < 128 := by simpa using h.1
    rw [Lib.mapD_step smf (b :: t) (by simp), show Lib.decodeL (b :: t) = (b.toNat, 1) from by rw [Lib.decodeL_N]; exact Lib.decodeN_ascii _ _ _ _ _ hb]
    simp only [List.drop_succ_cons, List.drop_zero, List.map_cons]
    rw [mapD_small t h.2]
    have h0 : 0 ≤ smf b.toNat ∧ smf b.toNat ≤ 127 := by unfold smf; split <;> omega
    rw [if_pos h0.1, Lib.encodeRune, Lib.encodeRuneZ_one h0.1 h0.2]
    simp only [List.map_cons, List.map_nil, List.singleton_append, List.cons.injEq, and_true]
    unfold smf foldB
    by_cases hc : 65 ≤ b.toNat ∧ b.toNat ≤ 90
    · rw [if_pos hc, if_pos (by omega)]
      apply UInt8.toNat_inj.1
      have e : ((b.toNat : Int) + 32).toNat = b.toNat + 32 := by omega
      rw [e]
      simp
    · rw [if_neg hc, if_neg (by omega)]
      simp
theorem v_mapSmall {s r : List UInt8} (h : mapSmallF tags_small_c1 s = some r) : AVal Tryd.prog Gl 72 [.fn 73 [] [], .str (.v s)] (.str (.v r)) := by
  unfold mapSmallF at h
  split at h
  case isFalse => cases h
  rename_i hc
  cases h
  refine aval_of_calls_g (vs0 := #[.func (.func 73) #[] #[], .string ⟨s.toArray⟩]) (v := .string ⟨(s.map foldB).toArray⟩) Tryd.func72 rfl rfl (fun w F β vs h1 h2 => ?_) (fun w F hG => ?_) (fun w F => .str _ _ rfl ?_)
  · have hl2 : vs.size = 2 := by simpa using h1
    have g0 : vs[0]? = some (vs[0]'(by omega)) := Array.getElem?_eq_getElem (by omega)
    have g1 : vs[1]? = some (vs[1]'(by omega)) := Array.getElem?_eq_getElem (by omega)
    have e0 : vs[0]'(by omega) = .func (.func 73) #[] #[] := by
      have r0 := h2 0 _ _ g0 rfl
      obtain ⟨fs, cs, e, hf, hcs, _⟩ := RA.of_fn r0
      rw [e, Array.eq_empty_of_size_eq_zero hf, Array.eq_empty_of_size_eq_zero hcs]
    have e1 := (RA.of_str (h2 1 _ _ g1 rfl)).1
    apply Array.ext
    · simpa using hl2
    · intro i h1' h2'
      simp at h2'
      match i, h2' with
      | 0, _ => simpa using e0
      | 1, _ => exact e1
  · have hm := Tryd.strings_Map_grows 73 #[] (enters_of Tryd.func73 (by kernel_rfl) rfl) smf ⟨s.toArray⟩ w (by simpa [ByteArray.size] using hc.2) (fun W x hx hb => ?_) (fun x hx => by unfold smf; split <;> omega) (utf8_tabs hG)
    · refine hm.mono ?_
      rintro e w' ⟨rfl, hb⟩
      refine ⟨?_, keep_below rfl hb⟩
      rw [show (⟨s.toArray⟩ : ByteArray).data.toList = s from rfl, mapD_small s hc.1]
    · refine ((v_tags_small_c1 (small_c1 x)).calls rfl (glb_later rfl hG hb) rfl (fun i v y h1 h2 => ?_)).mono ?_
      · match i, h1, h2 with
        | 0, h1, h2 =>
          cases h1; cases h2
          exact .int _ _ _ rfl ((has_iff _ _).2 (by simp only [lo, hi]; omega))
        | i + 1, h1, _ => simp at h1
      · rintro e w' ⟨v, F', rfl, h3, h4, _⟩
        obtain ⟨rfl, _⟩ := RA.of_int (RA.d (β := fun _ => none) (o := []) _ _ h4)
        exact ⟨rfl, h3⟩
  · have : LIM = 9223372036854775807 := rfl
    simp only [SE.den, List.length_map]
    omega
def T_tags_small : Tab := []
theorem T_tags_small_ok : TabOk Tryd.prog T_tags_small := tab_ok []
theorem v_tags_small {y0 : List UInt8} {r : List UInt8} (h : tags_small y0 = some r) : AVal Tryd.prog Gl 45 [e_str y0] (e_str r) := by
  refine aval_of' T_tags_small Gl 5 Tryd.func45 T_tags_small_ok Tryd_mixed fun P hP _ => ?_
  unfold tags_small at h
  conv => cbv
  refine den_call' hP h (fun _ h => v_mapSmall h) fun r1 _ h => ?_
  conv => cbv
  cases h
  exact lp
def T_tags_Comments_Get : Tab := [(9, ⟨.str, 1, 16, [.str (.lit [])]⟩), (22, ⟨.slice 9, 1, 24, [.nilsl]⟩), (24, ⟨.struct [(0, 9), (1, 22)], 2, 40, [.str (.lit []), .nilsl]⟩)]
theorem T_tags_Comments_Get_ok : TabOk Tryd.prog T_tags_Comments_Get := tab_ok [9, 22, 24]
theorem v_tags_Comments_Get {y0 : tags_Comments} {y1 : List UInt8} {r : List (List UInt8)} (h : tags_Comments_Get y0 y1 = some r) : AVal Tryd.prog Gl 16 [e_tags_Comments y0, e_str y1] ((e_sl 1 e_str) r) := by
  refine aval_of' T_tags_Comments_Get Gl 38 Tryd.func16 T_tags_Comments_Get_ok Tryd_mixed fun P hP _ => ?_
  unfold tags_Comments_Get at h
  conv => cbv
  refine .own ?_
  conv => cbv
  refine den_cut' (r := r) tags_Comments_Get_K1 (fun j1 => ⟨[(5, .osl 1005)], [(1005, .arr false 9 1 e_str j1)], []⟩) ?_ (fun j1 h => ?_)
  · conv => cbv
    refine den_loop (tags_Comments_Get_L1 y0 y1) h (fun a2 : Int × (List (List UInt8)) => ⟨[(1, .str (.v y1)), (5, .osl 1005), (12, .sl 1 e_str y0.L), (13, .int .i64 (.len y0.L)), (14, .int .i64 (.v a2.1))], [(1005, .arr false 9 1 e_str a2.2)], []⟩) ?_ (fun _ _ a2 x1 h hb1 hx1 => ?_)
    · intro j0 hj
      conv => cbv
      subst hj
      exact ⟨⟨.arr _ _ _ _ _ _ rfl, trivial⟩, .same _, .own _ _ _ _ _ _ rfl rfl, .same _, .same _, .int _ _ _ rfl, trivial⟩
    unfold tags_Comments_Get_L1 at h
    conv => cbv
    refine den_br h (fun _ h => ?_) (fun _ h => ?_)
    · conv => cbv
      refine den_cut' (r := x1) (tags_Comments_Get_K2 a2) (fun j3 => ⟨[(1, .str (.v y1)), (5, .osl 1005), (12, .sl 1 e_str y0.L), (13, .int .i64 (.len y0.L)), (14, .int .i64 (.v a2.1))], [(1005, .arr false 9 1 e_str j3)], []⟩) ?_ (fun j3 h => ?_)
      · conv => cbv
        refine den_elem h fun p4 _ h => ?_
        conv => cbv
        refine den_call' hP h (fun _ h => v_strings_Cut h) fun r5 _ h => ?_
        conv => cbv
        refine .mk ?_
        conv => cbv
        refine .mk ?_
        conv => cbv
        refine den_br h (fun _ h => ?_) (fun _ h => ?_)
        · conv => cbv
          refine den_call' hP h (fun _ h => v_tags_small h) fun r6 _ h => ?_
          conv => cbv
          refine den_call' hP h (fun _ h => v_tags_small h) fun r7 _ h => ?_
          conv => cbv
          refine den_br h (fun _ h => ?_) (fun _ h => ?_)
          · conv => cbv
            refine .data ?_
            conv => cbv
            refine den_app_own e_str (xs := [r5.2.1]) h rfl lp fun l8 _ h => ?_
            conv => cbv
            exact den_join' h
          conv => cbv
          exact den_join' h
        conv => cbv
        exact den_join' h
      unfold tags_Comments_Get_K2 at h
      conv => cbv
      exact den_back' h hb1
    conv => cbv
    replace h := den_out h hx1
    exact den_join' h
  unfold tags_Comments_Get_K1 at h
  conv => cbv
  cases h
  exact lp
def T_jetsamlaw13_texts : Tab := [(9, ⟨.str, 1, 16, [.str (.lit [])]⟩), (22, ⟨.slice 9, 1, 24, [.nilsl]⟩)]
theorem T_jetsamlaw13_texts_ok : TabOk Tryd.prog T_jetsamlaw13_texts := tab_ok [9, 22]
theorem v_jetsamlaw13_texts {y0 : List (List UInt8)} {y1 : List (List UInt8)} {r : Bool} (h : jetsamlaw13_texts y0 y1 = some r) : AVal Tryd.prog Gl 15 [(e_sl 1 e_str) y0, (e_sl 1 e_str) y1] (e_bool r) := by
  refine aval_of' T_jetsamlaw13_texts Gl 26 Tryd.func15 T_jetsamlaw13_texts_ok Tryd_mixed fun P hP _ => ?_
  unfold jetsamlaw13_texts at h
  conv => cbv
  refine den_br h (fun _ h => ?_) (fun _ h => ?_)
  · conv => cbv
    cases h
    exact lp
  conv => cbv
  refine den_cut' (r := r) jetsamlaw13_texts_K1 (fun j1 => ⟨[], [], []⟩) ?_ (fun j1 h => ?_)
  · conv => cbv
    refine den_loop' (jetsamlaw13_texts_L1 y0 y1) h (fun a2 => ⟨[(0, .sl 1 e_str y0), (1, .sl 1 e_str y1), (5, .int .i64 (.v a2))], [], []⟩) (fun _ _ a2 x1 h hb1 hx1 => ?_)
    unfold jetsamlaw13_texts_L1 at h
    conv => cbv
    refine den_br h (fun _ h => ?_) (fun _ h => ?_)
    · conv => cbv
      refine .dup ?_
      conv => cbv
      refine .mk (some []) (by kernel_rfl) ?_
      conv => cbv
      refine den_elem h fun p3 _ h => ?_
      conv => cbv
      refine .mk ?_
      conv => cbv
      refine den_elem h fun p4 _ h => ?_
      conv => cbv
      refine den_br h (fun _ h => ?_) (fun _ h => ?_)
      · conv => cbv
        replace h := den_out h hx1
        cases h
        exact lp
      conv => cbv
      exact den_back' h hb1
    conv => cbv
    replace h := den_out h hx1
    exact den_join' h
  unfold jetsamlaw13_texts_K1 at h
  conv => cbv
  cases h
  exact lp
def T_jetsamlaw13_awake : Tab := [(5, ⟨.int .u8, 1, 1, [.int .u8 (.lit 0)]⟩), (9, ⟨.str, 1, 16, [.str (.lit [])]⟩), (22, ⟨.slice 9, 1, 24, [.nilsl]⟩), (24, ⟨.struct [(0, 9), (1, 22)], 2, 40, [.str (.lit []), .nilsl]⟩), (27, ⟨.slice 5, 1, 24, [.nilsl]⟩)]
theorem T_jetsamlaw13_awake_ok : TabOk Tryd.prog T_jetsamlaw13_awake := tab_ok [5, 9, 22, 24, 27]
theorem v_jetsamlaw13_awake {r : Bool} (h : jetsamlaw13_awake = some r) : AVal Tryd.prog Gl 10 [] (e_bool r) := by
  refine aval_of' T_jetsamlaw13_awake Gl 24 Tryd.func10 T_jetsamlaw13_awake_ok Tryd_mixed fun P hP _ => ?_
  unfold jetsamlaw13_awake at h
  conv => cbv
  refine .data ?_
  conv => cbv
  refine .mk ?_
  conv => cbv
  refine den_call' hP h (fun _ h => v_tags_Comments_Write h) fun r1 _ h => ?_
  conv => cbv
  refine .mk ?_
  conv => cbv
  refine den_br h (fun _ h => ?_) (fun _ h => ?_)
  · conv => cbv
    refine .data ?_
    conv => cbv
    refine den_call' hP h (fun _ h => v_jetsamlaw11_Bytes h) fun r2 _ h => ?_
    conv => cbv
    refine .mk ?_
    conv => cbv
    refine den_br h (fun _ h => ?_) (fun _ h => ?_)
    · conv => cbv
      refine den_call' hP h (fun _ h => v_tags_Comments_Get h) fun r3 _ h => ?_
      conv => cbv
      refine .data ?_
      conv => cbv
      refine den_call' hP h (fun _ h => v_jetsamlaw13_texts h) fun r4 _ h => ?_
      conv => cbv
      cases h
      exact lp
    conv => cbv
    cases h
    exact lp
  conv => cbv
  refine .mk ?_
  conv => cbv
  cases h
  exact lp
def Tx_tags_within_c1 : Tab := [(3, ⟨.int .i64, 1, 8, [.int .i64 (.lit 0)]⟩)]
theorem Tx_tags_within_c1_ok : TabOk Tryd.prog Tx_tags_within_c1 := tab_ok [3]
theorem x_tags_within_c1 {y0 : Int} {y1 : Int} {y2 : Int} {r : Unit} (h : tags_within_c1 y0 y1 y2 = some r) : ACalls Tryd.prog Gl 78 [e_i64 y0, .ptr 10000 0, .ptr 10001 0] [(10000, .var [.int .i64 (.v y1)]), (10001, .var [.int .i64 (.v y2)])] (fun x o' => x = .bool (.ite (.cmp .lss (.v y0) (.v y1)) (.lit true) (.cmp .gtr (.v y0) (.v y2))) ∧ o' = [(10000, .var [.int .i64 (.v y1)]), (10001, .var [.int .i64 (.v y2)])]) := by
  refine acalls_of' Tx_tags_within_c1 Gl 13 [10000, 10001] Tryd.func78 Tx_tags_within_c1_ok Tryd_mixed fun P hP _ => ?_
  unfold tags_within_c1 at h
  conv => cbv
  refine .mk ?_
  conv => cbv
  refine .mk [(10000, 10000, false), (10001, 10001, false)] [] rfl rfl ?_ ?_
  · conv => cbv
    cases h
    exact lp
  conv => cbv
  cases h
  exact lp
def Tx_slices_IndexFunc_sint_int : Tab := [(3, ⟨.int .i64, 1, 8, [.int .i64 (.lit 0)]⟩), (88, ⟨.slice 3, 1, 24, [.nilsl]⟩)]
theorem Tx_slices_IndexFunc_sint_int_ok : TabOk Tryd.prog Tx_slices_IndexFunc_sint_int := tab_ok [3, 88]
theorem x_slices_IndexFunc_sint_int {y0 : List Int} {y1 : Int} {y2 : Int} {r : Int} (h : slices_IndexFunc_sint_int y0 y1 y2 = some r) : ACalls Tryd.prog Gl 94 [(e_sl 1 e_i64) y0, .fn 78 [] [.ptr 10000 0, .ptr 10001 0]] [(10000, .var [.int .i64 (.v y1)]), (10001, .var [.int .i64 (.v y2)])] (fun x o' => x = .int .i64 (.v r) ∧ o' = [(10000, .var [.int .i64 (.v y1)]), (10001, .var [.int .i64 (.v y2)])]) := by
  refine acalls_of' Tx_slices_IndexFunc_sint_int Gl 19 [10000, 10001] Tryd.func94 Tx_slices_IndexFunc_sint_int_ok Tryd_mixed fun P hP _ => ?_
  unfold slices_IndexFunc_sint_int at h
  conv => cbv
  refine den_cut' (r := r) slices_IndexFunc_sint_int_K1 (fun j1 => ⟨[], [(10000, .var [.int .i64 (.v y1)]), (10001, .var [.int .i64 (.v y2)])], []⟩) ?_ (fun j1 h => ?_)
  · conv => cbv
    refine den_loop' (slices_IndexFunc_sint_int_L1 y0 y1 y2) h (fun a2 => ⟨[(0, .sl 1 e_i64 y0), (1, .fn 78 [] [.ptr 10000 0, .ptr 10001 0]), (7, .int .i64 (.len y0)), (8, .int .i64 (.v a2))], [(10000, .var [.int .i64 (.v y1)]), (10001, .var [.int .i64 (.v y2)])], []⟩) (fun _ _ a2 x1 h hb1 hx1 => ?_)
    unfold slices_IndexFunc_sint_int_L1 at h
    conv => cbv
    refine den_br h (fun _ h => ?_) (fun _ h => ?_)
    · conv => cbv
      refine .mk ?_
      conv => cbv
      refine den_elem h fun p3 _ h => ?_
      conv => cbv
      refine den_own' [(10000, 10000, false), (10001, 10001, false)] [] hP h (fun _ h => x_tags_within_c1 h) fun r4 _ h => ?_
      conv => cbv
      refine den_br h (fun _ h => ?_) (fun _ h => ?_)
      · conv => cbv
        replace h := den_out h hx1
        refine .mk [(10000, 10000, false), (10001, 10001, false)] [] rfl rfl ?_ ?_
        · conv => cbv
          cases h
          exact lp
        conv => cbv
        cases h
        exact lp
      conv => cbv
      exact den_back' h hb1
    conv => cbv
    replace h := den_out h hx1
    exact den_join' h
  unfold slices_IndexFunc_sint_int_K1 at h
  conv => cbv
  refine .mk [(10000, 10000, false), (10001, 10001, false)] [] rfl rfl ?_ ?_
  · conv => cbv
    cases h
    exact lp
  conv => cbv
  cases h
  exact lp
def Tx_slices_ContainsFunc_sint_int : Tab := []
theorem Tx_slices_ContainsFunc_sint_int_ok : TabOk Tryd.prog Tx_slices_ContainsFunc_sint_int := tab_ok []
theorem x_slices_ContainsFunc_sint_int {y0 : List Int} {y1 : Int} {y2 : Int} {r : Bool} (h : slices_ContainsFunc_sint_int y0 y1 y2 = some r) : ACalls Tryd.prog Gl 77 [(e_sl 1 e_i64) y0, .fn 78 [] [.ptr 10000 0, .ptr 10001 0]] [(10000, .var [.int .i64 (.v y1)]), (10001, .var [.int .i64 (.v y2)])] (fun x o' => x = .bool (.v r) ∧ o' = [(10000, .var [.int .i64 (.v y1)]), (10001, .var [.int .i64 (.v y2)])]) := by
  refine acalls_of' Tx_slices_ContainsFunc_sint_int Gl 9 [10000, 10001] Tryd.func77 Tx_slices_ContainsFunc_sint_int_ok Tryd_mixed fun P hP _ => ?_
  unfold slices_ContainsFunc_sint_int at h
  conv => cbv
  refine den_own' [(10000, 10000, false), (10001, 10001, false)] [] hP h (fun _ h => x_slices_IndexFunc_sint_int h) fun r1 _ h => ?_
  conv => cbv
  refine .mk [(10000, 10000, false), (10001, 10001, false)] [] rfl rfl ?_ ?_
  · conv => cbv
    cases h
    exact lp
  conv => cbv
  cases h
  exact lp
def T_tags_within : Tab := []
theorem T_tags_within_ok : TabOk Tryd.prog T_tags_within := tab_ok []
theorem v_tags_within {y0 : Int} {y1 : Int} {y2 : List Int} {r : Bool} (h : tags_within y0 y1 y2 = some r) : AVal Tryd.prog Gl 52 [e_i64 y0, e_i64 y1, (e_sl 1 e_i64) y2] (e_bool r) := by
  refine aval_of' T_tags_within Gl 11 Tryd.func52 T_tags_within_ok Tryd_mixed fun P hP _ => ?_
  unfold tags_within at h
  conv => cbv
  refine .own ?_
  conv => cbv
  refine .own ?_
  conv => cbv
  refine den_own' [(3, 10000, false), (4, 10001, false)] [] hP h (fun _ h => x_slices_ContainsFunc_sint_int h) fun r1 _ h => ?_
  conv => cbv
  cases h
  exact lp
def T_tags_high : Tab := [(3, ⟨.int .i64, 1, 8, [.int .i64 (.lit 0)]⟩), (5, ⟨.int .u8, 1, 1, [.int .u8 (.lit 0)]⟩), (27, ⟨.slice 5, 1, 24, [.nilsl]⟩)]
theorem T_tags_high_ok : TabOk Tryd.prog T_tags_high := tab_ok [3, 5, 27]
theorem v_tags_high {y0 : Int} {y1 : Int} {r : List Int} (h : tags_high y0 y1 = some r) : AVal Tryd.prog Gl 53 [e_i64 y0, e_i64 y1] ((e_sl 1 e_u8) r) := by
  refine aval_of' T_tags_high Gl 27 Tryd.func53 T_tags_high_ok Tryd_mixed fun P hP _ => ?_
  unfold tags_high at h
  conv => cbv
  refine den_make e_u8 (x := (0 : Int)) h lp fun l1 _ h => ?_
  conv => cbv
  refine den_cut' (r := r) tags_high_K1 (fun j2 => ⟨[(5, .osl 8)], [(8, .arr false 5 1 e_u8 j2)], []⟩) ?_ (fun j2 h => ?_)
  · conv => cbv
    refine den_loop' (tags_high_L1 y0 y1 l1) h (fun a3 => ⟨[(0, .int .i64 (.v y0)), (1, .int .i64 (.v y1)), (5, .osl 8), (10, .int .i64 (.len l1)), (11, .int .i64 (.v a3.1))], [(8, .arr false 5 1 e_u8 a3.2)], []⟩) (fun _ _ a3 x1 h hb1 hx1 => ?_)
    unfold tags_high_L1 at h
    conv => cbv
    refine den_br h (fun _ h => ?_) (fun _ h => ?_)
    · conv => cbv
      refine .mk ?_
      conv => cbv
      refine .mk ?_
      conv => cbv
      refine den_chk h fun h => ?_
      conv => cbv
      refine den_chk h fun h => ?_
      conv => cbv
      refine den_chk h fun h => ?_
      conv => cbv
      refine den_estore (f := e_u8) (IntKind.u8.wrap (shD .shr .i64 y0 (W (8 * a3.1)))) h (fun _ => CEqL.of_lepl lp rfl) fun l4 _ h => ?_
      conv => cbv
      exact den_back' h hb1
    conv => cbv
    replace h := den_out h hx1
    exact den_join' h
  unfold tags_high_K1 at h
  conv => cbv
  cases h
  exact lp
def T_tags_Picture_Write : Tab := [(3, ⟨.int .i64, 1, 8, [.int .i64 (.lit 0)]⟩), (5, ⟨.int .u8, 1, 1, [.int .u8 (.lit 0)]⟩), (9, ⟨.str, 1, 16, [.str (.lit [])]⟩), (27, ⟨.slice 5, 1, 24, [.nilsl]⟩), (45, ⟨.struct [(0, 3), (1, 9), (2, 9), (3, 3), (4, 3), (5, 3), (6, 3), (7, 27)], 8, 96, [.int .i64 (.lit 0), .str (.lit []), .str (.lit []), .int .i64 (.lit 0), .int .i64 (.lit 0), .int .i64 (.lit 0), .int .i64 (.lit 0), .nilsl]⟩), (88, ⟨.slice 3, 1, 24, [.nilsl]⟩), (112, ⟨.slice 27, 1, 24, [.nilsl]⟩)]
theorem T_tags_Picture_Write_ok : TabOk Tryd.prog T_tags_Picture_Write := tab_ok [3, 5, 9, 27, 45, 88, 112]
set_option maxHeartbeats 2000000 in
theorem v_tags_Picture_Write {y0 : tags_Picture} {r : (List Int) × Int} (h : tags_Picture_Write y0 = some r) : AVal Tryd.prog Gl 21 [e_tags_Picture y0] (.tup [(e_sl 1 e_u8) r.1, e_i64 r.2]) := by
  refine aval_of' T_tags_Picture_Write Gl 85 Tryd.func21 T_tags_Picture_Write_ok Tryd_mixed fun P hP _ => ?_
  unfold tags_Picture_Write at h
  conv => cbv
  refine .own ?_
  conv => cbv
  refine den_call' hP h (fun _ h => v_tags_letters h) fun r1 _ h => ?_
  conv => cbv
  refine .mk ?_
  conv => cbv
  refine den_br h (fun _ h => ?_) (fun _ h => ?_)
  · conv => cbv
    cases h
    exact .tup _ _ lp
  conv => cbv
  refine den_call' hP h (fun _ h => v_unicode_utf8_ValidString h) fun r2 _ h => ?_
  conv => cbv
  refine den_br h (fun _ h => ?_) (fun _ h => ?_)
  · conv => cbv
    cases h
    exact .tup _ _ lp
  conv => cbv
  refine .mk ?_
  conv => cbv
  refine .data ?_
  conv => cbv
  refine den_call' hP h (fun _ h => v_tags_within h) fun r3 _ h => ?_
  conv => cbv
  refine .mk ?_
  conv => cbv
  refine .mk ?_
  conv => cbv
  refine den_br h (fun _ h => ?_) (fun _ h => ?_)
  · conv => cbv
    cases h
    exact .tup _ _ lp
  conv => cbv
  refine .data ?_
  conv => cbv
  refine den_call' hP h (fun _ h => v_tags_within h) fun r4 _ h => ?_
  conv => cbv
  refine den_br h (fun _ h => ?_) (fun _ h => ?_)
  · conv => cbv
    cases h
    exact .tup _ _ lp
  conv => cbv
  refine den_cut' (r := r) (tags_Picture_Write_K1 y0) (fun j5 => ⟨[(1, .ptr 1 0), (4, .osl 55)], [(1, .var [.int .i64 (.v y0.Kind), .str (.v y0.Mime), .str (.v y0.Text), .int .i64 (.v y0.Width), .int .i64 (.v y0.Height), .int .i64 (.v y0.Bits), .int .i64 (.v y0.Colors), .sl 1 e_u8 y0.Data]), (55, .arr false 5 1 e_u8 j5)], []⟩) ?_ (fun j5 h => ?_)
  · conv => cbv
    refine .mk (some [55]) (by kernel_rfl) ?_
    conv => cbv
    refine .mk ?_
    conv => cbv
    refine .mk ?_
    conv => cbv
    refine ⟨?_, ?_, ?_⟩
    · refine den_call' hP h (fun _ h => v_tags_high h) fun r13 _ h => ?_
      conv => cbv
      refine ⟨?_, ?_, ?_⟩
      · refine den_call' hP h (fun _ h => v_tags_high h) fun r14 _ h => ?_
        conv => cbv
        refine ⟨?_, ?_, ?_⟩
        · refine den_bytes (fun l15 => ((tags_high (y0.Text.length : Int) (4 : Int)).bind fun r16 => (slices_Concat_sbyte_byte [r13, r14, l15, r16, (bytesI y0.Text)]).bind fun r18 => tags_Picture_Write_K1 y0 r18)) h fun l15 _ h => ?_
          conv => cbv
          refine ⟨?_, ?_⟩
          · refine den_call' hP h (fun _ h => v_tags_high h) fun r16 _ h => ?_
            conv => cbv
            refine den_bytes (fun l17 => ((slices_Concat_sbyte_byte [r13, r14, l15, r16, l17]).bind fun r18 => tags_Picture_Write_K1 y0 r18)) h fun l17 _ h => ?_
            conv => cbv
            refine .mk ?_
            conv => cbv
            refine .data ?_
            conv => cbv
            refine den_own' (hl := (.cons _ _ _ _ (.sls (.cons _ _ _ _ (VEq.of_lepl (.cons _ _ _ _ (.same _) .nil) rfl) (.cons _ _ _ _ (VEq.of_lepl (.cons _ _ _ _ (.same _) .nil) rfl) (.cons _ _ _ _ (VEq.of_lepl (.cons _ _ _ _ (.same _) .nil) rfl) (.cons _ _ _ _ (VEq.of_lepl (.cons _ _ _ _ (.same _) .nil) rfl) (.cons _ _ _ _ (VEq.of_lepl (.cons _ _ _ _ (.same _) .nil) rfl) .nil)))))) .nil)) (ho := True.intro) [(55, 20000, true)] [] hP h (fun _ h => w_slices_Concat_sbyte_byte h) fun r18 _ h => ?_
            conv => cbv
            exact den_join' h
          · refine den_bytes (fun l19 => ((tags_high (y0.Text.length : Int) (4 : Int)).bind fun r20 => (slices_Concat_sbyte_byte [r13, r14, l15, r20, l19]).bind fun r21 => tags_Picture_Write_K1 y0 r21)) h fun l19 _ h => ?_
            conv => cbv
            refine den_call' hP h (fun _ h => v_tags_high h) fun r20 _ h => ?_
            conv => cbv
            refine .mk ?_
            conv => cbv
            refine .data ?_
            conv => cbv
            refine den_own' (hl := (.cons _ _ _ _ (.sls (.cons _ _ _ _ (VEq.of_lepl (.cons _ _ _ _ (.same _) .nil) rfl) (.cons _ _ _ _ (VEq.of_lepl (.cons _ _ _ _ (.same _) .nil) rfl) (.cons _ _ _ _ (VEq.of_lepl (.cons _ _ _ _ (.same _) .nil) rfl) (.cons _ _ _ _ (VEq.of_lepl (.cons _ _ _ _ (.same _) .nil) rfl) (.cons _ _ _ _ (VEq.of_lepl (.cons _ _ _ _ (.same _) .nil) rfl) .nil)))))) .nil)) (ho := True.intro) [(55, 20000, true)] [] hP h (fun _ h => w_slices_Concat_sbyte_byte h) fun r21 _ h => ?_
            conv => cbv
            exact den_join' h
        · refine den_call' hP h (fun _ h => v_tags_high h) fun r22 _ h => ?_
          conv => cbv
          refine ⟨?_, ?_⟩
          · refine den_bytes (fun l23 => ((slices_Concat_sbyte_byte [r13, r14, l23, r22, (bytesI y0.Text)]).bind fun r25 => tags_Picture_Write_K1 y0 r25)) h fun l23 _ h => ?_
            conv => cbv
            refine den_bytes (fun l24 => ((slices_Concat_sbyte_byte [r13, r14, l23, r22, l24]).bind fun r25 => tags_Picture_Write_K1 y0 r25)) h fun l24 _ h => ?_
            conv => cbv
            refine .mk ?_
            conv => cbv
            refine .data ?_
            conv => cbv
            refine den_own' (hl := (.cons _ _ _ _ (.sls (.cons _ _ _ _ (VEq.of_lepl (.cons _ _ _ _ (.same _) .nil) rfl) (.cons _ _ _ _ (VEq.of_lepl (.cons _ _ _ _ (.same _) .nil) rfl) (.cons _ _ _ _ (VEq.of_lepl (.cons _ _ _ _ (.same _) .nil) rfl) (.cons _ _ _ _ (VEq.of_lepl (.cons _ _ _ _ (.same _) .nil) rfl) (.cons _ _ _ _ (VEq.of_lepl (.cons _ _ _ _ (.same _) .nil) rfl) .nil)))))) .nil)) (ho := True.intro) [(55, 20000, true)] [] hP h (fun _ h => w_slices_Concat_sbyte_byte h) fun r25 _ h => ?_
            conv => cbv
            exact den_join' h
          · refine den_bytes (fun l26 => ((slices_Concat_sbyte_byte [r13, r14, (bytesI y0.Mime), r22, l26]).bind fun r28 => tags_Picture_Write_K1 y0 r28)) h fun l26 _ h => ?_
            conv => cbv
            refine den_bytes (fun l27 => ((slices_Concat_sbyte_byte [r13, r14, l27, r22, l26]).bind fun r28 => tags_Picture_Write_K1 y0 r28)) h fun l27 _ h => ?_
            conv => cbv
            refine .mk ?_
            conv => cbv
            refine .data ?_
            conv => cbv
            refine den_own' (hl := (.cons _ _ _ _ (.sls (.cons _ _ _ _ (VEq.of_lepl (.cons _ _ _ _ (.same _) .nil) rfl) (.cons _ _ _ _ (VEq.of_lepl (.cons _ _ _ _ (.same _) .nil) rfl) (.cons _ _ _ _ (VEq.of_lepl (.cons _ _ _ _ (.same _) .nil) rfl) (.cons _ _ _ _ (VEq.of_lepl (.cons _ _ _ _ (.same _) .nil) rfl) (.cons _ _ _ _ (VEq.of_lepl (.cons _ _ _ _ (.same _) .nil) rfl) .nil)))))) .nil)) (ho := True.intro) [(55, 20000, true)] [] hP h (fun _ h => w_slices_Concat_sbyte_byte h) fun r28 _ h => ?_
            conv => cbv
            exact den_join' h
        · refine den_bytes (fun l29 => ((tags_high (y0.Text.length : Int) (4 : Int)).bind fun r31 => (slices_Concat_sbyte_byte [r13, r14, (bytesI y0.Mime), r31, l29]).bind fun r32 => tags_Picture_Write_K1 y0 r32)) h fun l29 _ h => ?_
          conv => cbv
          refine ⟨?_, ?_⟩
          · refine den_bytes (fun l30 => ((tags_high (y0.Text.length : Int) (4 : Int)).bind fun r31 => (slices_Concat_sbyte_byte [r13, r14, l30, r31, l29]).bind fun r32 => tags_Picture_Write_K1 y0 r32)) h fun l30 _ h => ?_
            conv => cbv
            refine den_call' hP h (fun _ h => v_tags_high h) fun r31 _ h => ?_
            conv => cbv
            refine .mk ?_
            conv => cbv
            refine .data ?_
            conv => cbv
            refine den_own' (hl := (.cons _ _ _ _ (.sls (.cons _ _ _ _ (VEq.of_lepl (.cons _ _ _ _ (.same _) .nil) rfl) (.cons _ _ _ _ (VEq.of_lepl (.cons _ _ _ _ (.same _) .nil) rfl) (.cons _ _ _ _ (VEq.of_lepl (.cons _ _ _ _ (.same _) .nil) rfl) (.cons _ _ _ _ (VEq.of_lepl (.cons _ _ _ _ (.same _) .nil) rfl) (.cons _ _ _ _ (VEq.of_lepl (.cons _ _ _ _ (.same _) .nil) rfl) .nil)))))) .nil)) (ho := True.intro) [(55, 20000, true)] [] hP h (fun _ h => w_slices_Concat_sbyte_byte h) fun r32 _ h => ?_
            conv => cbv
            exact den_join' h
          · refine den_call' hP h (fun _ h => v_tags_high h) fun r33 _ h => ?_
            conv => cbv
            refine den_bytes (fun l34 => ((slices_Concat_sbyte_byte [r13, r14, l34, r33, l29]).bind fun r35 => tags_Picture_Write_K1 y0 r35)) h fun l34 _ h => ?_
            conv => cbv
            refine .mk ?_
            conv => cbv
            refine .data ?_
            conv => cbv
            refine den_own' (hl := (.cons _ _ _ _ (.sls (.cons _ _ _ _ (VEq.of_lepl (.cons _ _ _ _ (.same _) .nil) rfl) (.cons _ _ _ _ (VEq.of_lepl (.cons _ _ _ _ (.same _) .nil) rfl) (.cons _ _ _ _ (VEq.of_lepl (.cons _ _ _ _ (.same _) .nil) rfl) (.cons _ _ _ _ (VEq.of_lepl (.cons _ _ _ _ (.same _) .nil) rfl) (.cons _ _ _ _ (VEq.of_lepl (.cons _ _ _ _ (.same _) .nil) rfl) .nil)))))) .nil)) (ho := True.intro) [(55, 20000, true)] [] hP h (fun _ h => w_slices_Concat_sbyte_byte h) fun r35 _ h => ?_
            conv => cbv
            exact den_join' h
      · refine den_bytes (fun l36 => ((tags_high (y0.Mime.length : Int) (4 : Int)).bind fun r37 => (tags_high (y0.Text.length : Int) (4 : Int)).bind fun r38 => (slices_Concat_sbyte_byte [r13, r37, l36, r38, (bytesI y0.Text)]).bind fun r40 => tags_Picture_Write_K1 y0 r40)) h fun l36 _ h => ?_
        conv => cbv
        refine ⟨?_, ?_⟩
        · refine den_call' hP h (fun _ h => v_tags_high h) fun r37 _ h => ?_
          conv => cbv
          refine ⟨?_, ?_⟩
          · refine den_call' hP h (fun _ h => v_tags_high h) fun r38 _ h => ?_
            conv => cbv
            refine den_bytes (fun l39 => ((slices_Concat_sbyte_byte [r13, r37, l36, r38, l39]).bind fun r40 => tags_Picture_Write_K1 y0 r40)) h fun l39 _ h => ?_
            conv => cbv
            refine .mk ?_
            conv => cbv
            refine .data ?_
            conv => cbv
            refine den_own' (hl := (.cons _ _ _ _ (.sls (.cons _ _ _ _ (VEq.of_lepl (.cons _ _ _ _ (.same _) .nil) rfl) (.cons _ _ _ _ (VEq.of_lepl (.cons _ _ _ _ (.same _) .nil) rfl) (.cons _ _ _ _ (VEq.of_lepl (.cons _ _ _ _ (.same _) .nil) rfl) (.cons _ _ _ _ (VEq.of_lepl (.cons _ _ _ _ (.same _) .nil) rfl) (.cons _ _ _ _ (VEq.of_lepl (.cons _ _ _ _ (.same _) .nil) rfl) .nil)))))) .nil)) (ho := True.intro) [(55, 20000, true)] [] hP h (fun _ h => w_slices_Concat_sbyte_byte h) fun r40 _ h => ?_
            conv => cbv
            exact den_join' h
          · refine den_bytes (fun l41 => ((tags_high (y0.Text.length : Int) (4 : Int)).bind fun r42 => (slices_Concat_sbyte_byte [r13, r37, l36, r42, l41]).bind fun r43 => tags_Picture_Write_K1 y0 r43)) h fun l41 _ h => ?_
            conv => cbv
            refine den_call' hP h (fun _ h => v_tags_high h) fun r42 _ h => ?_
            conv => cbv
            refine .mk ?_
            conv => cbv
            refine .data ?_
            conv => cbv
            refine den_own' (hl := (.cons _ _ _ _ (.sls (.cons _ _ _ _ (VEq.of_lepl (.cons _ _ _ _ (.same _) .nil) rfl) (.cons _ _ _ _ (VEq.of_lepl (.cons _ _ _ _ (.same _) .nil) rfl) (.cons _ _ _ _ (VEq.of_lepl (.cons _ _ _ _ (.same _) .nil) rfl) (.cons _ _ _ _ (VEq.of_lepl (.cons _ _ _ _ (.same _) .nil) rfl) (.cons _ _ _ _ (VEq.of_lepl (.cons _ _ _ _ (.same _) .nil) rfl) .nil)))))) .nil)) (ho := True.intro) [(55, 20000, true)] [] hP h (fun _ h => w_slices_Concat_sbyte_byte h) fun r43 _ h => ?_
            conv => cbv
            exact den_join' h
        · refine den_bytes (fun l44 => ((tags_high (y0.Mime.length : Int) (4 : Int)).bind fun r45 => (tags_high (y0.Text.length : Int) (4 : Int)).bind fun r46 => (slices_Concat_sbyte_byte [r13, r45, l36, r46, l44]).bind fun r47 => tags_Picture_Write_K1 y0 r47)) h fun l44 _ h => ?_
          conv => cbv
          refine den_call' hP h (fun _ h => v_tags_high h) fun r45 _ h => ?_
          conv => cbv
          refine den_call' hP h (fun _ h => v_tags_high h) fun r46 _ h => ?_
          conv => cbv
          refine .mk ?_
          conv => cbv
          refine .data ?_
          conv => cbv
          refine den_own' (hl := (.cons _ _ _ _ (.sls (.cons _ _ _ _ (VEq.of_lepl (.cons _ _ _ _ (.same _) .nil) rfl) (.cons _ _ _ _ (VEq.of_lepl (.cons _ _ _ _ (.same _) .nil) rfl) (.cons _ _ _ _ (VEq.of_lepl (.cons _ _ _ _ (.same _) .nil) rfl) (.cons _ _ _ _ (VEq.of_lepl (.cons _ _ _ _ (.same _) .nil) rfl) (.cons _ _ _ _ (VEq.of_lepl (.cons _ _ _ _ (.same _) .nil) rfl) .nil)))))) .nil)) (ho := True.intro) [(55, 20000, true)] [] hP h (fun _ h => w_slices_Concat_sbyte_byte h) fun r47 _ h => ?_
          conv => cbv
          exact den_join' h
      · refine den_bytes (fun l48 => ((tags_high (y0.Mime.length : Int) (4 : Int)).bind fun r49 => (tags_high (y0.Text.length : Int) (4 : Int)).bind fun r51 => (slices_Concat_sbyte_byte [r13, r49, (bytesI y0.Mime), r51, l48]).bind fun r52 => tags_Picture_Write_K1 y0 r52)) h fun l48 _ h => ?_
        conv => cbv
        refine ⟨?_, ?_⟩
        · refine den_call' hP h (fun _ h => v_tags_high h) fun r49 _ h => ?_
          conv => cbv
          refine ⟨?_, ?_⟩
          · refine den_bytes (fun l50 => ((tags_high (y0.Text.length : Int) (4 : Int)).bind fun r51 => (slices_Concat_sbyte_byte [r13, r49, l50, r51, l48]).bind fun r52 => tags_Picture_Write_K1 y0 r52)) h fun l50 _ h => ?_
            conv => cbv
            refine den_call' hP h (fun _ h => v_tags_high h) fun r51 _ h => ?_
            conv => cbv
            refine .mk ?_
            conv => cbv
            refine .data ?_
            conv => cbv
            refine den_own' (hl := (.cons _ _ _ _ (.sls (.cons _ _ _ _ (VEq.of_lepl (.cons _ _ _ _ (.same _) .nil) rfl) (.cons _ _ _ _ (VEq.of_lepl (.cons _ _ _ _ (.same _) .nil) rfl) (.cons _ _ _ _ (VEq.of_lepl (.cons _ _ _ _ (.same _) .nil) rfl) (.cons _ _ _ _ (VEq.of_lepl (.cons _ _ _ _ (.same _) .nil) rfl) (.cons _ _ _ _ (VEq.of_lepl (.cons _ _ _ _ (.same _) .nil) rfl) .nil)))))) .nil)) (ho := True.intro) [(55, 20000, true)] [] hP h (fun _ h => w_slices_Concat_sbyte_byte h) fun r52 _ h => ?_
            conv => cbv
            exact den_join' h
          · refine den_call' hP h (fun _ h => v_tags_high h) fun r53 _ h => ?_
            conv => cbv
            refine den_bytes (fun l54 => ((slices_Concat_sbyte_byte [r13, r49, l54, r53, l48]).bind fun r55 => tags_Picture_Write_K1 y0 r55)) h fun l54 _ h => ?_
            conv => cbv
            refine .mk ?_
            conv => cbv
            refine .data ?_
            conv => cbv
            refine den_own' (hl := (.cons _ _ _ _ (.sls (.cons _ _ _ _ (VEq.of_lepl (.cons _ _ _ _ (.same _) .nil) rfl) (.cons _ _ _ _ (VEq.of_lepl (.cons _ _ _ _ (.same _) .nil) rfl) (.cons _ _ _ _ (VEq.of_lepl (.cons _ _ _ _ (.same _) .nil) rfl) (.cons _ _ _ _ (VEq.of_lepl (.cons _ _ _ _ (.same _) .nil) rfl) (.cons _ _ _ _ (VEq.of_lepl (.cons _ _ _ _ (.same _) .nil) rfl) .nil)))))) .nil)) (ho := True.intro) [(55, 20000, true)] [] hP h (fun _ h => w_slices_Concat_sbyte_byte h) fun r55 _ h => ?_
            conv => cbv
            exact den_join' h
        · refine den_bytes (fun l56 => ((tags_high (y0.Mime.length : Int) (4 : Int)).bind fun r57 => (tags_high (y0.Text.length : Int) (4 : Int)).bind fun r58 => (slices_Concat_sbyte_byte [r13, r57, l56, r58, l48]).bind fun r59 => tags_Picture_Write_K1 y0 r59)) h fun l56 _ h => ?_
          conv => cbv
          refine den_call' hP h (fun _ h => v_tags_high h) fun r57 _ h => ?_
          conv => cbv
          refine den_call' hP h (fun _ h => v_tags_high h) fun r58 _ h => ?_
          conv => cbv
          refine .mk ?_
          conv => cbv
          refine .data ?_
          conv => cbv
          refine den_own' (hl := (.cons _ _ _ _ (.sls (.cons _ _ _ _ (VEq.of_lepl (.cons _ _ _ _ (.same _) .nil) rfl) (.cons _ _ _ _ (VEq.of_lepl (.cons _ _ _ _ (.same _) .nil) rfl) (.cons _ _ _ _ (VEq.of_lepl (.cons _ _ _ _ (.same _) .nil) rfl) (.cons _ _ _ _ (VEq.of_lepl (.cons _ _ _ _ (.same _) .nil) rfl) (.cons _ _ _ _ (VEq.of_lepl (.cons _ _ _ _ (.same _) .nil) rfl) .nil)))))) .nil)) (ho := True.intro) [(55, 20000, true)] [] hP h (fun _ h => w_slices_Concat_sbyte_byte h) fun r59 _ h => ?_
          conv => cbv
          exact den_join' h
    · refine den_bytes (fun l60 => ((tags_high y0.Kind (4 : Int)).bind fun r61 => (tags_high (y0.Mime.length : Int) (4 : Int)).bind fun r62 => (tags_high (y0.Text.length : Int) (4 : Int)).bind fun r63 => (slices_Concat_sbyte_byte [r61, r62, l60, r63, (bytesI y0.Text)]).bind fun r65 => tags_Picture_Write_K1 y0 r65)) h fun l60 _ h => ?_
      conv => cbv
      refine ⟨?_, ?_⟩
      · refine den_call' hP h (fun _ h => v_tags_high h) fun r61 _ h => ?_
        conv => cbv
        refine ⟨?_, ?_⟩
        · refine den_call' hP h (fun _ h => v_tags_high h) fun r62 _ h => ?_
          conv => cbv
          refine ⟨?_, ?_⟩
          · refine den_call' hP h (fun _ h => v_tags_high h) fun r63 _ h => ?_
            conv => cbv
            refine den_bytes (fun l64 => ((slices_Concat_sbyte_byte [r61, r62, l60, r63, l64]).bind fun r65 => tags_Picture_Write_K1 y0 r65)) h fun l64 _ h => ?_
            conv => cbv
            refine .mk ?_
            conv => cbv
            refine .data ?_
            conv => cbv
            refine den_own' (hl := (.cons _ _ _ _ (.sls (.cons _ _ _ _ (VEq.of_lepl (.cons _ _ _ _ (.same _) .nil) rfl) (.cons _ _ _ _ (VEq.of_lepl (.cons _ _ _ _ (.same _) .nil) rfl) (.cons _ _ _ _ (VEq.of_lepl (.cons _ _ _ _ (.same _) .nil) rfl) (.cons _ _ _ _ (VEq.of_lepl (.cons _ _ _ _ (.same _) .nil) rfl) (.cons _ _ _ _ (VEq.of_lepl (.cons _ _ _ _ (.same _) .nil) rfl) .nil)))))) .nil)) (ho := True.intro) [(55, 20000, true)] [] hP h (fun _ h => w_slices_Concat_sbyte_byte h) fun r65 _ h => ?_
            conv => cbv
            exact den_join' h
          · refine den_bytes (fun l66 => ((tags_high (y0.Text.length : Int) (4 : Int)).bind fun r67 => (slices_Concat_sbyte_byte [r61, r62, l60, r67, l66]).bind fun r68 => tags_Picture_Write_K1 y0 r68)) h fun l66 _ h => ?_
            conv => cbv
            refine den_call' hP h (fun _ h => v_tags_high h) fun r67 _ h => ?_
            conv => cbv
            refine .mk ?_
            conv => cbv
            refine .data ?_
            conv => cbv
            refine den_own' (hl := (.cons _ _ _ _ (.sls (.cons _ _ _ _ (VEq.of_lepl (.cons _ _ _ _ (.same _) .nil) rfl) (.cons _ _ _ _ (VEq.of_lepl (.cons _ _ _ _ (.same _) .nil) rfl) (.cons _ _ _ _ (VEq.of_lepl (.cons _ _ _ _ (.same _) .nil) rfl) (.cons _ _ _ _ (VEq.of_lepl (.cons _ _ _ _ (.same _) .nil) rfl) (.cons _ _ _ _ (VEq.of_lepl (.cons _ _ _ _ (.same _) .nil) rfl) .nil)))))) .nil)) (ho := True.intro) [(55, 20000, true)] [] hP h (fun _ h => w_slices_Concat_sbyte_byte h) fun r68 _ h => ?_
            conv => cbv
            exact den_join' h
        · refine den_bytes (fun l69 => ((tags_high (y0.Mime.length : Int) (4 : Int)).bind fun r70 => (tags_high (y0.Text.length : Int) (4 : Int)).bind fun r71 => (slices_Concat_sbyte_byte [r61, r70, l60, r71, l69]).bind fun r72 => tags_Picture_Write_K1 y0 r72)) h fun l69 _ h => ?_
          conv => cbv
          refine den_call' hP h (fun _ h => v_tags_high h) fun r70 _ h => ?_
          conv => cbv
          refine den_call' hP h (fun _ h => v_tags_high h) fun r71 _ h => ?_
          conv => cbv
          refine .mk ?_
          conv => cbv
          refine .data ?_
          conv => cbv
          refine den_own' (hl := (.cons _ _ _ _ (.sls (.cons _ _ _ _ (VEq.of_lepl (.cons _ _ _ _ (.same _) .nil) rfl) (.cons _ _ _ _ (VEq.of_lepl (.cons _ _ _ _ (.same _) .nil) rfl) (.cons _ _ _ _ (VEq.of_lepl (.cons _ _ _ _ (.same _) .nil) rfl) (.cons _ _ _ _ (VEq.of_lepl (.cons _ _ _ _ (.same _) .nil) rfl) (.cons _ _ _ _ (VEq.of_lepl (.cons _ _ _ _ (.same _) .nil) rfl) .nil)))))) .nil)) (ho := True.intro) [(55, 20000, true)] [] hP h (fun _ h => w_slices_Concat_sbyte_byte h) fun r72 _ h => ?_
          conv => cbv
          exact den_join' h
      · refine den_bytes (fun l73 => ((tags_high y0.Kind (4 : Int)).bind fun r74 => (tags_high (y0.Mime.length : Int) (4 : Int)).bind fun r75 => (tags_high (y0.Text.length : Int) (4 : Int)).bind fun r76 => (slices_Concat_sbyte_byte [r74, r75, l60, r76, l73]).bind fun r77 => tags_Picture_Write_K1 y0 r77)) h fun l73 _ h => ?_
        conv => cbv
        refine den_call' hP h (fun _ h => v_tags_high h) fun r74 _ h => ?_
        conv => cbv
        refine den_call' hP h (fun _ h => v_tags_high h) fun r75 _ h => ?_
        conv => cbv
        refine den_call' hP h (fun _ h => v_tags_high h) fun r76 _ h => ?_
        conv => cbv
        refine .mk ?_
        conv => cbv
        refine .data ?_
        conv => cbv
        refine den_own' (hl := (.cons _ _ _ _ (.sls (.cons _ _ _ _ (VEq.of_lepl (.cons _ _ _ _ (.same _) .nil) rfl) (.cons _ _ _ _ (VEq.of_lepl (.cons _ _ _ _ (.same _) .nil) rfl) (.cons _ _ _ _ (VEq.of_lepl (.cons _ _ _ _ (.same _) .nil) rfl) (.cons _ _ _ _ (VEq.of_lepl (.cons _ _ _ _ (.same _) .nil) rfl) (.cons _ _ _ _ (VEq.of_lepl (.cons _ _ _ _ (.same _) .nil) rfl) .nil)))))) .nil)) (ho := True.intro) [(55, 20000, true)] [] hP h (fun _ h => w_slices_Concat_sbyte_byte h) fun r77 _ h => ?_
        conv => cbv
        exact den_join' h
    · refine den_bytes (fun l78 => ((tags_high y0.Kind (4 : Int)).bind fun r79 => (tags_high (y0.Mime.length : Int) (4 : Int)).bind fun r80 => (tags_high (y0.Text.length : Int) (4 : Int)).bind fun r82 => (slices_Concat_sbyte_byte [r79, r80, (bytesI y0.Mime), r82, l78]).bind fun r83 => tags_Picture_Write_K1 y0 r83)) h fun l78 _ h => ?_
      conv => cbv
      refine ⟨?_, ?_⟩
      · refine den_call' hP h (fun _ h => v_tags_high h) fun r79 _ h => ?_
        conv => cbv
        refine ⟨?_, ?_⟩
        · refine den_call' hP h (fun _ h => v_tags_high h) fun r80 _ h => ?_
          conv => cbv
          refine ⟨?_, ?_⟩
          · refine den_bytes (fun l81 => ((tags_high (y0.Text.length : Int) (4 : Int)).bind fun r82 => (slices_Concat_sbyte_byte [r79, r80, l81, r82, l78]).bind fun r83 => tags_Picture_Write_K1 y0 r83)) h fun l81 _ h => ?_
            conv => cbv
            refine den_call' hP h (fun _ h => v_tags_high h) fun r82 _ h => ?_
            conv => cbv
            refine .mk ?_
            conv => cbv
            refine .data ?_
            conv => cbv
            refine den_own' (hl := (.cons _ _ _ _ (.sls (.cons _ _ _ _ (VEq.of_lepl (.cons _ _ _ _ (.same _) .nil) rfl) (.cons _ _ _ _ (VEq.of_lepl (.cons _ _ _ _ (.same _) .nil) rfl) (.cons _ _ _ _ (VEq.of_lepl (.cons _ _ _ _ (.same _) .nil) rfl) (.cons _ _ _ _ (VEq.of_lepl (.cons _ _ _ _ (.same _) .nil) rfl) (.cons _ _ _ _ (VEq.of_lepl (.cons _ _ _ _ (.same _) .nil) rfl) .nil)))))) .nil)) (ho := True.intro) [(55, 20000, true)] [] hP h (fun _ h => w_slices_Concat_sbyte_byte h) fun r83 _ h => ?_
            conv => cbv
            exact den_join' h
          · refine den_call' hP h (fun _ h => v_tags_high h) fun r84 _ h => ?_
            conv => cbv
            refine den_bytes (fun l85 => ((slices_Concat_sbyte_byte [r79, r80, l85, r84, l78]).bind fun r86 => tags_Picture_Write_K1 y0 r86)) h fun l85 _ h => ?_
            conv => cbv
            refine .mk ?_
            conv => cbv
            refine .data ?_
            conv => cbv
            refine den_own' (hl := (.cons _ _ _ _ (.sls (.cons _ _ _ _ (VEq.of_lepl (.cons _ _ _ _ (.same _) .nil) rfl) (.cons _ _ _ _ (VEq.of_lepl (.cons _ _ _ _ (.same _) .nil) rfl) (.cons _ _ _ _ (VEq.of_lepl (.cons _ _ _ _ (.same _) .nil) rfl) (.cons _ _ _ _ (VEq.of_lepl (.cons _ _ _ _ (.same _) .nil) rfl) (.cons _ _ _ _ (VEq.of_lepl (.cons _ _ _ _ (.same _) .nil) rfl) .nil)))))) .nil)) (ho := True.intro) [(55, 20000, true)] [] hP h (fun _ h => w_slices_Concat_sbyte_byte h) fun r86 _ h => ?_
            conv => cbv
            exact den_join' h
        · refine den_bytes (fun l87 => ((tags_high (y0.Mime.length : Int) (4 : Int)).bind fun r88 => (tags_high (y0.Text.length : Int) (4 : Int)).bind fun r89 => (slices_Concat_sbyte_byte [r79, r88, l87, r89, l78]).bind fun r90 => tags_Picture_Write_K1 y0 r90)) h fun l87 _ h => ?_
          conv => cbv
          refine den_call' hP h (fun _ h => v_tags_high h) fun r88 _ h => ?_
          conv => cbv
          refine den_call' hP h (fun _ h => v_tags_high h) fun r89 _ h => ?_
          conv => cbv
          refine .mk ?_
          conv => cbv
          refine .data ?_
          conv => cbv
          refine den_own' (hl := (.cons _ _ _ _ (.sls (.cons _ _ _ _ (VEq.of_lepl (.cons _ _ _ _ (.same _) .nil) rfl) (.cons _ _ _ _ (VEq.of_lepl (.cons _ _ _ _ (.same _) .nil) rfl) (.cons _ _ _ _ (VEq.of_lepl (.cons _ _ _ _ (.same _) .nil) rfl) (.cons _ _ _ _ (VEq.of_lepl (.cons _ _ _ _ (.same _) .nil) rfl) (.cons _ _ _ _ (VEq.of_lepl (.cons _ _ _ _ (.same _) .nil) rfl) .nil)))))) .nil)) (ho := True.intro) [(55, 20000, true)] [] hP h (fun _ h => w_slices_Concat_sbyte_byte h) fun r90 _ h => ?_
          conv => cbv
          exact den_join' h
      · refine den_bytes (fun l91 => ((tags_high y0.Kind (4 : Int)).bind fun r92 => (tags_high (y0.Mime.length : Int) (4 : Int)).bind fun r93 => (tags_high (y0.Text.length : Int) (4 : Int)).bind fun r94 => (slices_Concat_sbyte_byte [r92, r93, l91, r94, l78]).bind fun r95 => tags_Picture_Write_K1 y0 r95)) h fun l91 _ h => ?_
        conv => cbv
        refine den_call' hP h (fun _ h => v_tags_high h) fun r92 _ h => ?_
        conv => cbv
        refine den_call' hP h (fun _ h => v_tags_high h) fun r93 _ h => ?_
        conv => cbv
        refine den_call' hP h (fun _ h => v_tags_high h) fun r94 _ h => ?_
        conv => cbv
        refine .mk ?_
        conv => cbv
        refine .data ?_
        conv => cbv
        refine den_own' (hl := (.cons _ _ _ _ (.sls (.cons _ _ _ _ (VEq.of_lepl (.cons _ _ _ _ (.same _) .nil) rfl) (.cons _ _ _ _ (VEq.of_lepl (.cons _ _ _ _ (.same _) .nil) rfl) (.cons _ _ _ _ (VEq.of_lepl (.cons _ _ _ _ (.same _) .nil) rfl) (.cons _ _ _ _ (VEq.of_lepl (.cons _ _ _ _ (.same _) .nil) rfl) (.cons _ _ _ _ (VEq.of_lepl (.cons _ _ _ _ (.same _) .nil) rfl) .nil)))))) .nil)) (ho := True.intro) [(55, 20000, true)] [] hP h (fun _ h => w_slices_Concat_sbyte_byte h) fun r95 _ h => ?_
        conv => cbv
        exact den_join' h
  unfold tags_Picture_Write_K1 at h
  conv => cbv
  refine den_cut' (r := r) (tags_Picture_Write_K2 y0) (fun j6 => ⟨[(1, .ptr 1 0), (4, .osl 55)], [(1, .var [.int .i64 (.v y0.Kind), .str (.v y0.Mime), .str (.v y0.Text), .int .i64 (.v y0.Width), .int .i64 (.v y0.Height), .int .i64 (.v y0.Bits), .int .i64 (.v y0.Colors), .sl 1 e_u8 y0.Data]), (55, .arr false 5 1 e_u8 j6)], []⟩) ?_ (fun j6 h => ?_)
  · conv => cbv
    refine .mk ?_
    conv => cbv
    refine .mk ?_
    conv => cbv
    refine .data ?_
    conv => cbv
    refine den_loop' (tags_Picture_Write_L1 y0) h (fun a9 => ⟨[(1, .ptr 1 0), (4, .osl 55), (67, .sls 1 [.int .i64 (.v y0.Width), .int .i64 (.v y0.Height), .int .i64 (.v y0.Bits), .int .i64 (.v y0.Colors), .int .i64 (.len y0.Data)]), (68, .int .i64 (.lit 5)), (69, .int .i64 (.v a9.1))], [(1, .var [.int .i64 (.v y0.Kind), .str (.v y0.Mime), .str (.v y0.Text), .int .i64 (.v y0.Width), .int .i64 (.v y0.Height), .int .i64 (.v y0.Bits), .int .i64 (.v y0.Colors), .sl 1 e_u8 y0.Data]), (55, .arr false 5 1 e_u8 a9.2)], []⟩) (fun _ _ a9 x1 h hb1 hx1 => ?_)
    unfold tags_Picture_Write_L1 at h
    conv => cbv
    refine den_br h (fun _ h => ?_) (fun _ h => ?_)
    · conv => cbv
      refine den_elemV (f := e_i64) lp h fun p10 _ h => ?_
      conv => cbv
      refine den_call' hP h (fun _ h => v_tags_high h) fun r11 _ h => ?_
      conv => cbv
      refine den_app_own e_u8 (xs := r11) h rfl (News.map rfl) fun l12 _ h => ?_
      conv => cbv
      exact den_back' h hb1
    conv => cbv
    replace h := den_out h hx1
    exact den_join' h
  unfold tags_Picture_Write_K2 at h
  conv => cbv
  refine .mk ?_
  conv => cbv
  refine den_app_own e_u8 (xs := y0.Data) h rfl (News.map rfl) fun l7 _ h => ?_
  conv => cbv
  refine den_call' hP h (fun _ h => v_tags_full h) fun r8 _ h => ?_
  conv => cbv
  cases h
  exact lp
def T_jetsamref13_Text : Tab := [(3, ⟨.int .i64, 1, 8, [.int .i64 (.lit 0)]⟩), (5, ⟨.int .u8, 1, 1, [.int .u8 (.lit 0)]⟩), (9, ⟨.str, 1, 16, [.str (.lit [])]⟩)]
theorem T_jetsamref13_Text_ok : TabOk Tryd.prog T_jetsamref13_Text := tab_ok [3, 5, 9]
theorem v_jetsamref13_Text {y0 : List UInt8} {r : Bool} (h : jetsamref13_Text y0 = some r) : AVal Tryd.prog Gl 41 [e_str y0] (e_bool r) := by
  refine aval_of' T_jetsamref13_Text Gl 102 Tryd.func41 T_jetsamref13_Text_ok Tryd_mixed fun P hP _ => ?_
  unfold jetsamref13_Text at h
  conv => cbv
  refine den_cut' (r := r) jetsamref13_Text_K1 (fun j1 => ⟨[], [], []⟩) ?_ (fun j1 h => ?_)
  · conv => cbv
    refine den_loop' (jetsamref13_Text_L1 y0) h (fun a2 => ⟨[(0, .str (.v y0)), (3, .int .i64 (.v a2))], [], []⟩) (fun _ _ a2 x1 h hb1 hx1 => ?_)
    unfold jetsamref13_Text_L1 at h
    conv => cbv
    refine den_br h (fun _ h => ?_) (fun _ h => ?_)
    · conv => cbv
      refine den_elemS h fun b3 _ h => ?_
      conv => cbv
      refine den_cut' (r := x1) (jetsamref13_Text_K2 y0 a2 b3) (fun j4 => ⟨[(0, .str (.v y0)), (3, .int .i64 (.v a2)), (4, .int .u8 (.byte b3)), (5, .int .i64 (.v j4.1)), (6, .int .i64 (.v j4.2))], [], []⟩) ?_ (fun j4 h => ?_)
      · conv => cbv
        refine den_br h (fun _ h => ?_) (fun _ h => ?_)
        · conv => cbv
          exact den_join' h
        conv => cbv
        refine .mk ?_
        conv => cbv
        refine den_br h (fun _ h => ?_) (fun _ h => ?_)
        · conv => cbv
          exact den_join' h
        conv => cbv
        refine .mk ?_
        conv => cbv
        refine den_br h (fun _ h => ?_) (fun _ h => ?_)
        · conv => cbv
          exact den_join' h
        conv => cbv
        refine .mk ?_
        conv => cbv
        refine den_br h (fun _ h => ?_) (fun _ h => ?_)
        · conv => cbv
          exact den_join' h
        conv => cbv
        exact den_join' h
      unfold jetsamref13_Text_K2 at h
      conv => cbv
      refine .mk ?_
      conv => cbv
      refine den_br h (fun _ h => ?_) (fun _ h => ?_)
      · conv => cbv
        replace h := den_out h hx1
        cases h
        exact lp
      conv => cbv
      refine den_cut' (r := x1) (jetsamref13_Text_K3 y0 a2 j4) (fun j5 => ⟨[(0, .str (.v y0)), (3, .int .i64 (.v a2)), (5, .int .i64 (.v j4.1)), (6, .int .i64 (.v j4.2)), (7, .int .i64 (.v j5))], [], []⟩) ?_ (fun j5 h => ?_)
      · conv => cbv
        refine den_br h (fun _ h => ?_) (fun _ h => ?_)
        · conv => cbv
          refine .mk ?_
          conv => cbv
          refine den_chk h fun h => ?_
          conv => cbv
          refine den_chk h fun h => ?_
          conv => cbv
          exact den_join' h
        conv => cbv
        exact den_join' h
      unfold jetsamref13_Text_K3 at h
      conv => cbv
      refine den_cut' (r := x1) (jetsamref13_Text_K4 a2 j4) (fun j6 => ⟨[(0, .str (.v y0)), (3, .int .i64 (.v a2)), (5, .int .i64 (.v j4.1)), (6, .int .i64 (.v j4.2)), (7, .int .i64 (.v j6))], [], []⟩) ?_ (fun j6 h => ?_)
      · conv => cbv
        refine den_loop' (jetsamref13_Text_L2 y0 a2 j4) h (fun a7 => ⟨[(0, .str (.v y0)), (3, .int .i64 (.v a2)), (5, .int .i64 (.v j4.1)), (6, .int .i64 (.v j4.2)), (7, .int .i64 (.v a7.1)), (8, .int .i64 (.v a7.2))], [], []⟩) (fun _ _ a7 x2 h hb2 hx2 => ?_)
        unfold jetsamref13_Text_L2 at h
        conv => cbv
        refine den_br h (fun _ h => ?_) (fun _ h => ?_)
        · conv => cbv
          refine .mk ?_
          conv => cbv
          refine den_elemS h fun b8 _ h => ?_
          conv => cbv
          refine .mk ?_
          conv => cbv
          refine den_br h (fun _ h => ?_) (fun _ h => ?_)
          · conv => cbv
            replace h := den_out h hx2
            replace h := den_out h hx1
            cases h
            exact lp
          conv => cbv
          refine den_elemS h fun b9 _ h => ?_
          conv => cbv
          refine den_br h (fun _ h => ?_) (fun _ h => ?_)
          · conv => cbv
            replace h := den_out h hx2
            replace h := den_out h hx1
            cases h
            exact lp
          conv => cbv
          refine .mk ?_
          conv => cbv
          refine den_elemS h fun b10 _ h => ?_
          conv => cbv
          exact den_back' h hb2
        conv => cbv
        replace h := den_out h hx2
        exact den_join' h
      unfold jetsamref13_Text_K4 at h
      conv => cbv
      refine .mk ?_
      conv => cbv
      refine .mk ?_
      conv => cbv
      refine den_br h (fun _ h => ?_) (fun _ h => ?_)
      · conv => cbv
        replace h := den_out h hx1
        cases h
        exact lp
      conv => cbv
      exact den_back' h hb1
    conv => cbv
    replace h := den_out h hx1
    exact den_join' h
  unfold jetsamref13_Text_K1 at h
  conv => cbv
  cases h
  exact lp
def Tw_jetsamref12_Big : Tab := [(3, ⟨.int .i64, 1, 8, [.int .i64 (.lit 0)]⟩), (5, ⟨.int .u8, 1, 1, [.int .u8 (.lit 0)]⟩), (27, ⟨.slice 5, 1, 24, [.nilsl]⟩)]
theorem Tw_jetsamref12_Big_ok : TabOk Tryd.prog Tw_jetsamref12_Big := tab_ok [3, 5, 27]
theorem w_jetsamref12_Big {y0 : Int} {y1 : Int} {r : List Int} (h : jetsamref12_Big y0 y1 = some r) : ACalls Tryd.prog Gl 54 [e_i64 y0, e_i64 y1] [] (fun x o' => x = .osl 20000 ∧ o' = [(20000, .arr false 5 1 e_u8 r)]) := by
  refine acalls_of' Tw_jetsamref12_Big Gl 23 [] Tryd.func54 Tw_jetsamref12_Big_ok Tryd_mixed fun P hP _ => ?_
  unfold jetsamref12_Big at h
  conv => cbv
  refine den_cut' (r := r) jetsamref12_Big_K1 (fun j1 => ⟨[(5, .osl 1005)], [(1005, .arr false 5 1 e_u8 j1)], []⟩) ?_ (fun j1 h => ?_)
  · conv => cbv
    refine den_loop (jetsamref12_Big_L1 y0) h (fun a2 : Int × (List Int) => ⟨[(0, .int .i64 (.v y0)), (5, .osl 1005), (6, .int .i64 (.v a2.1))], [(1005, .arr false 5 1 e_u8 a2.2)], []⟩) ?_ (fun _ _ a2 x1 h hb1 hx1 => ?_)
    · intro j0 hj
      conv => cbv
      subst hj
      exact ⟨⟨.arr _ _ _ _ _ _ rfl, trivial⟩, .same _, .own _ _ _ _ _ _ rfl rfl, .int _ _ _ rfl, trivial⟩
    unfold jetsamref12_Big_L1 at h
    conv => cbv
    refine den_br h (fun _ h => ?_) (fun _ h => ?_)
    · conv => cbv
      refine .mk ?_
      conv => cbv
      refine den_chk h fun h => ?_
      conv => cbv
      refine .data ?_
      conv => cbv
      refine den_app_own e_u8 (xs := [(IntKind.u8.wrap ((shD .shr .i64 y0 (W (8 * a2.1))).tmod 256))]) h rfl lp fun l3 _ h => ?_
      conv => cbv
      exact den_back' h hb1
    conv => cbv
    replace h := den_out h hx1
    exact den_join' h
  unfold jetsamref12_Big_K1 at h
  conv => cbv
  refine .mk [(1005, 20000, false)] [] rfl rfl ?_ ?_
  · conv => cbv
    cases h
    exact lp
  · conv => cbv
    cases h
    exact lp
def T_jetsamref13_Picture : Tab := [(3, ⟨.int .i64, 1, 8, [.int .i64 (.lit 0)]⟩), (5, ⟨.int .u8, 1, 1, [.int .u8 (.lit 0)]⟩), (9, ⟨.str, 1, 16, [.str (.lit [])]⟩), (27, ⟨.slice 5, 1, 24, [.nilsl]⟩), (47, ⟨.arr 5 3, 5, 40, [.int .i64 (.lit 0), .int .i64 (.lit 0), .int .i64 (.lit 0), .int .i64 (.lit 0), .int .i64 (.lit 0)]⟩)]
theorem T_jetsamref13_Picture_ok : TabOk Tryd.prog T_jetsamref13_Picture := tab_ok [3, 5, 9, 27, 47]
theorem v_jetsamref13_Picture {y0 : Nat → Int} {y1 : List UInt8} {y2 : List UInt8} {y3 : List Int} {r : (List Int) × Int} (h : jetsamref13_Picture y0 y1 y2 y3 = some r) : AVal Tryd.prog Gl 22 [(e_arrn 5 e_i64) y0, e_str y1, e_str y2, (e_sl 1 e_u8) y3] (.tup [(e_sl 1 e_u8) r.1, e_i64 r.2]) := by
  refine aval_of' T_jetsamref13_Picture Gl 94 Tryd.func22 T_jetsamref13_Picture_ok Tryd_mixed fun P hP _ => ?_
  unfold jetsamref13_Picture at h
  conv => cbv
  refine .data ?_
  conv => cbv
  refine den_cut' (r := r) (jetsamref13_Picture_K1 y0 y1 y2 y3) (fun j1 => ⟨[(1, .str (.v y1)), (2, .str (.v y2)), (3, .sl 1 e_u8 y3), (4, .rptr [.int .i64 (.v (y0 0)), .int .i64 (.v (y0 1)), .int .i64 (.v (y0 2)), .int .i64 (.v (y0 3)), .int .i64 (.v (y0 4))])], [], []⟩) ?_ (fun j1 h => ?_)
  · conv => cbv
    refine den_loop' (jetsamref13_Picture_L3 y0 y1 y2 y3) h (fun a23 => ⟨[(1, .str (.v y1)), (2, .str (.v y2)), (3, .sl 1 e_u8 y3), (4, .rptr [.int .i64 (.v (y0 0)), .int .i64 (.v (y0 1)), .int .i64 (.v (y0 2)), .int .i64 (.v (y0 3)), .int .i64 (.v (y0 4))]), (10, .int .i64 (.v a23))], [], []⟩) (fun _ _ a23 x1 h hb1 hx1 => ?_)
    unfold jetsamref13_Picture_L3 at h
    conv => cbv
    refine den_br h (fun _ h => ?_) (fun _ h => ?_)
    · conv => cbv
      refine den_elemS h fun b24 _ h => ?_
      conv => cbv
      refine .mk ?_
      conv => cbv
      refine den_br h (fun _ h => ?_) (fun _ h => ?_)
      · conv => cbv
        replace h := den_out h hx1
        cases h
        exact .tup _ _ lp
      conv => cbv
      refine den_elemS h fun b25 _ h => ?_
      conv => cbv
      refine den_br h (fun _ h => ?_) (fun _ h => ?_)
      · conv => cbv
        replace h := den_out h hx1
        cases h
        exact .tup _ _ lp
      conv => cbv
      exact den_back' h hb1
    conv => cbv
    replace h := den_out h hx1
    exact den_join' h
  unfold jetsamref13_Picture_K1 at h
  conv => cbv
  refine den_call' hP h (fun _ h => v_jetsamref13_Text h) fun r2 _ h => ?_
  conv => cbv
  refine den_br h (fun _ h => ?_) (fun _ h => ?_)
  · conv => cbv
    cases h
    exact .tup _ _ lp
  conv => cbv
  refine den_cut' (r := r) (jetsamref13_Picture_K2 y0 y1 y2 y3) (fun j3 => ⟨[(1, .str (.v y1)), (2, .str (.v y2)), (3, .sl 1 e_u8 y3), (4, .rptr [.int .i64 (.v (y0 0)), .int .i64 (.v (y0 1)), .int .i64 (.v (y0 2)), .int .i64 (.v (y0 3)), .int .i64 (.v (y0 4))])], [], []⟩) ?_ (fun j3 h => ?_)
  · conv => cbv
    refine den_loop' (jetsamref13_Picture_L2 y0 y1 y2 y3) h (fun a19 => ⟨[(1, .str (.v y1)), (2, .str (.v y2)), (3, .sl 1 e_u8 y3), (4, .rptr [.int .i64 (.v (y0 0)), .int .i64 (.v (y0 1)), .int .i64 (.v (y0 2)), .int .i64 (.v (y0 3)), .int .i64 (.v (y0 4))]), (11, .int .i64 (.v a19))], [], []⟩) (fun _ _ a19 x1 h hb1 hx1 => ?_)
    unfold jetsamref13_Picture_L2 at h
    conv => cbv
    refine den_br h (fun _ h => ?_) (fun _ h => ?_)
    · conv => cbv
      refine den_elemV (f := e_i64) lp h fun p20 _ h => ?_
      conv => cbv
      refine .mk ?_
      conv => cbv
      refine den_br h (fun _ h => ?_) (fun _ h => ?_)
      · conv => cbv
        refine .mk ?_
        conv => cbv
        refine .mk ?_
        conv => cbv
        replace h := den_out h hx1
        cases h
        exact .tup _ _ lp
      conv => cbv
      refine den_elemV (f := e_i64) lp h fun p21 _ h => ?_
      conv => cbv
      refine .mk ?_
      conv => cbv
      refine .mk ?_
      conv => cbv
      refine den_br h (fun _ h => ?_) (fun _ h => ?_)
      · conv => cbv
        replace h := den_out h hx1
        cases h
        exact .tup _ _ lp
      conv => cbv
      refine den_br h (fun _ h => ?_) (fun _ h => ?_)
      · conv => cbv
        refine den_elemV (f := e_i64) lp h fun p22 _ h => ?_
        conv => cbv
        refine den_br h (fun _ h => ?_) (fun _ h => ?_)
        · conv => cbv
          replace h := den_out h hx1
          cases h
          exact .tup _ _ lp
        conv => cbv
        exact den_back' h hb1
      conv => cbv
      exact den_back' h hb1
    conv => cbv
    replace h := den_out h hx1
    exact den_join' h
  unfold jetsamref13_Picture_K2 at h
  conv => cbv
  refine den_own' (hl := (.cons _ _ _ _ (.same _) (.cons _ _ _ _ (.int _ _ _ rfl) .nil))) (ho := True.intro) [(59, 20000, true)] [] hP h (fun _ h => w_jetsamref12_Big h) fun r4 _ h => ?_
  conv => cbv
  refine .mk ?_
  conv => cbv
  refine den_own' (hl := (.cons _ _ _ _ (.int _ _ _ rfl) (.cons _ _ _ _ (.int _ _ _ rfl) .nil))) (ho := True.intro) [(63, 20000, true)] [] hP h (fun _ h => w_jetsamref12_Big h) fun r5 _ h => ?_
  conv => cbv
  refine den_app_own e_u8 (xs := r5) h rfl (News.map rfl) fun l6 _ h => ?_
  conv => cbv
  refine den_app_own e_u8 (xs := (bytesI y1)) h rfl (News.map (by first | rfl | (cases y1 <;> rfl))) fun l7 _ h => ?_
  conv => cbv
  refine .mk ?_
  conv => cbv
  refine den_own' (hl := (.cons _ _ _ _ (.int _ _ _ rfl) (.cons _ _ _ _ (.int _ _ _ rfl) .nil))) (ho := True.intro) [(71, 20000, true)] [] hP h (fun _ h => w_jetsamref12_Big h) fun r8 _ h => ?_
  conv => cbv
  refine den_app_own e_u8 (xs := r8) h rfl (News.map rfl) fun l9 _ h => ?_
  conv => cbv
  refine den_app_own e_u8 (xs := (bytesI y2)) h rfl (News.map (by first | rfl | (cases y2 <;> rfl))) fun l10 _ h => ?_
  conv => cbv
  refine den_cut' (r := r) (jetsamref13_Picture_K3 y3) (fun j11 => ⟨[(3, .sl 1 e_u8 y3), (12, .osl 59)], [(59, .arr false 5 1 e_u8 j11)], []⟩) ?_ (fun j11 h => ?_)
  · conv => cbv
    refine den_loop' (jetsamref13_Picture_L1 y0 y3) h (fun a15 => ⟨[(3, .sl 1 e_u8 y3), (4, .rptr [.int .i64 (.v (y0 0)), .int .i64 (.v (y0 1)), .int .i64 (.v (y0 2)), .int .i64 (.v (y0 3)), .int .i64 (.v (y0 4))]), (12, .osl 59), (13, .int .i64 (.v a15.1))], [(59, .arr false 5 1 e_u8 a15.2)], []⟩) (fun _ _ a15 x1 h hb1 hx1 => ?_)
    unfold jetsamref13_Picture_L1 at h
    conv => cbv
    refine den_br h (fun _ h => ?_) (fun _ h => ?_)
    · conv => cbv
      refine .mk ?_
      conv => cbv
      refine den_elemV (f := e_i64) lp h fun p16 _ h => ?_
      conv => cbv
      refine den_own' (hl := (.cons _ _ _ _ (.same _) (.cons _ _ _ _ (.int _ _ _ rfl) .nil))) (ho := True.intro) [(84, 20000, true)] [] hP h (fun _ h => w_jetsamref12_Big h) fun r17 _ h => ?_
      conv => cbv
      refine den_app_own e_u8 (xs := r17) h rfl (News.map rfl) fun l18 _ h => ?_
      conv => cbv
      exact den_back' h hb1
    conv => cbv
    replace h := den_out h hx1
    exact den_join' h
  unfold jetsamref13_Picture_K3 at h
  conv => cbv
  refine .mk ?_
  conv => cbv
  refine den_own' (hl := (.cons _ _ _ _ (.int _ _ _ rfl) (.cons _ _ _ _ (.int _ _ _ rfl) .nil))) (ho := True.intro) [(89, 20000, true)] [] hP h (fun _ h => w_jetsamref12_Big h) fun r12 _ h => ?_
  conv => cbv
  refine den_app_own e_u8 (xs := r12) h rfl (News.map rfl) fun l13 _ h => ?_
  conv => cbv
  refine den_app_own e_u8 (xs := y3) h rfl (News.map rfl) fun l14 _ h => ?_
  conv => cbv
  cases h
  exact .tup _ _ lp
def Tx_tags_reader_take : Tab := [(4, ⟨.bool, 1, 1, [.bool (.lit false)]⟩), (5, ⟨.int .u8, 1, 1, [.int .u8 (.lit 0)]⟩), (27, ⟨.slice 5, 1, 24, [.nilsl]⟩), (80, ⟨.struct [(0, 27), (1, 4), (2, 4)], 3, 32, [.nilsl, .bool (.lit false), .bool (.lit false)]⟩)]
theorem Tx_tags_reader_take_ok : TabOk Tryd.prog Tx_tags_reader_take := tab_ok [4, 5, 27, 80]
theorem x_tags_reader_take {y0 : Int} {y1 : tags_reader} {r : (List Int) × (List Int) × Bool} (h : tags_reader_take y0 y1 = some r) : ACalls Tryd.prog Gl 74 [.ptr 10000 0, e_i64 y0] [(10000, .var [.sl 1 e_u8 y1.m_b, .bool (.v y1.m_end), .bool (.v y1.m_bad)])] (fun x o' => x = .sl 1 e_u8 r.1 ∧ o' = [(10000, .var [.sl 1 e_u8 r.2.1, .bool (.v r.2.2), .bool (.v y1.m_bad)])]) := by
  refine acalls_of' Tx_tags_reader_take Gl 39 [10000] Tryd.func74 Tx_tags_reader_take_ok Tryd_mixed fun P hP _ => ?_
  unfold tags_reader_take at h
  conv => cbv
  refine .mk ?_
  conv => cbv
  refine den_br h (fun _ h => ?_) (fun _ h => ?_)
  · conv => cbv
    refine .mk ?_
    conv => cbv
    refine .mk [(10000, 10000, false)] [] rfl rfl ?_ ?_
    · conv => cbv
      cases h
      exact ⟨.var _ _ lp, trivial⟩
    conv => cbv
    cases h
    exact lp
  conv => cbv
  refine .mk ?_
  conv => cbv
  refine den_sub h fun l1 _ h => ?_
  conv => cbv
  refine .mk ?_
  conv => cbv
  refine den_sub h fun l2 _ h => ?_
  conv => cbv
  refine .mk [(10000, 10000, false)] [] rfl rfl ?_ ?_
  · conv => cbv
    cases h
    exact ⟨.var _ _ lp, trivial⟩
  conv => cbv
  cases h
  exact lp
def Tx_tags_reader_high : Tab := [(3, ⟨.int .i64, 1, 8, [.int .i64 (.lit 0)]⟩), (5, ⟨.int .u8, 1, 1, [.int .u8 (.lit 0)]⟩), (27, ⟨.slice 5, 1, 24, [.nilsl]⟩)]
theorem Tx_tags_reader_high_ok : TabOk Tryd.prog Tx_tags_reader_high := tab_ok [3, 5, 27]
theorem x_tags_reader_high {y0 : Int} {y1 : tags_reader} {r : Int × (List Int) × Bool} (h : tags_reader_high y0 y1 = some r) : ACalls Tryd.prog Gl 63 [.ptr 10000 0, e_i64 y0] [(10000, .var [.sl 1 e_u8 y1.m_b, .bool (.v y1.m_end), .bool (.v y1.m_bad)])] (fun x o' => x = .int .i64 (.v r.1) ∧ o' = [(10000, .var [.sl 1 e_u8 r.2.1, .bool (.v r.2.2), .bool (.v y1.m_bad)])]) := by
  refine acalls_of' Tx_tags_reader_high Gl 23 [10000] Tryd.func63 Tx_tags_reader_high_ok Tryd_mixed fun P hP _ => ?_
  unfold tags_reader_high at h
  conv => cbv
  refine den_cut' (r := r) tags_reader_high_K1 (fun j1 => ⟨[(5, .int .i64 (.v j1.1))], [(10000, .var [.sl 1 e_u8 j1.2.1, .bool (.v j1.2.2.1), .bool (.v y1.m_bad)]), (10000, .var [.sl 1 e_u8 j1.2.2.2.1, .bool (.v j1.2.2.2.2), .bool (.v y1.m_bad)])], []⟩) ?_ (fun j1 h => ?_)
  · conv => cbv
    refine den_own' [(10000, 10000, false)] [] hP h (fun _ h => x_tags_reader_take h) fun r2 _ h => ?_
    conv => cbv
    refine den_loop' (tags_reader_high_L1 r2) h (fun a3 => ⟨[(5, .int .i64 (.v a3.1)), (10, .sl 1 e_u8 r2.1), (11, .int .i64 (.len r2.1)), (12, .int .i64 (.v a3.2))], [(10000, .var [.sl 1 e_u8 r2.2.1, .bool (.v r2.2.2), .bool (.v y1.m_bad)]), (10000, .var [.sl 1 e_u8 r2.2.1, .bool (.v r2.2.2), .bool (.v y1.m_bad)])], []⟩) (fun _ _ a3 x1 h hb1 hx1 => ?_)
    unfold tags_reader_high_L1 at h
    conv => cbv
    refine den_br h (fun _ h => ?_) (fun _ h => ?_)
    · conv => cbv
      refine den_elem h fun p4 _ h => ?_
      conv => cbv
      refine .mk ?_
      conv => cbv
      exact den_back' h hb1
    conv => cbv
    replace h := den_out h hx1
    exact den_join' h
  unfold tags_reader_high_K1 at h
  conv => cbv
  refine .mk [(10000, 10000, false)] [] rfl rfl ?_ ?_
  · conv => cbv
    cases h
    exact ⟨.var _ _ lp, trivial⟩
  conv => cbv
  cases h
  exact lp
def Tx_tags_reader_four : Tab := []
theorem Tx_tags_reader_four_ok : TabOk Tryd.prog Tx_tags_reader_four := tab_ok []
theorem x_tags_reader_four {y0 : tags_reader} {r : Int × (List Int) × Bool} (h : tags_reader_four y0 = some r) : ACalls Tryd.prog Gl 55 [.ptr 10000 0] [(10000, .var [.sl 1 e_u8 y0.m_b, .bool (.v y0.m_end), .bool (.v y0.m_bad)])] (fun x o' => x = .int .i64 (.v r.1) ∧ o' = [(10000, .var [.sl 1 e_u8 r.2.1, .bool (.v r.2.2), .bool (.v y0.m_bad)])]) := by
  refine acalls_of' Tx_tags_reader_four Gl 5 [10000] Tryd.func55 Tx_tags_reader_four_ok Tryd_mixed fun P hP _ => ?_
  unfold tags_reader_four at h
  conv => cbv
  refine den_own' [(10000, 10000, false)] [] hP h (fun _ h => x_tags_reader_high h) fun r1 _ h => ?_
  conv => cbv
  refine .mk [(10000, 10000, false)] [] rfl rfl ?_ ?_
  · conv => cbv
    cases h
    exact ⟨.var _ _ lp, trivial⟩
  conv => cbv
  cases h
  exact lp
def Tx_tags_reader_text : Tab := [(4, ⟨.bool, 1, 1, [.bool (.lit false)]⟩), (5, ⟨.int .u8, 1, 1, [.int .u8 (.lit 0)]⟩), (9, ⟨.str, 1, 16, [.str (.lit [])]⟩), (27, ⟨.slice 5, 1, 24, [.nilsl]⟩), (80, ⟨.struct [(0, 27), (1, 4), (2, 4)], 3, 32, [.nilsl, .bool (.lit false), .bool (.lit false)]⟩)]
theorem Tx_tags_reader_text_ok : TabOk Tryd.prog Tx_tags_reader_text := tab_ok [4, 5, 9, 27, 80]
theorem x_tags_reader_text {y0 : tags_reader} {r : (List UInt8) × (List Int) × Bool} (h : tags_reader_text y0 = some r) : ACalls Tryd.prog Gl 48 [.ptr 10000 0, .fn 55 [.ptr 10000 0] []] [(10000, .var [.sl 1 e_u8 y0.m_b, .bool (.v y0.m_end), .bool (.v y0.m_bad)])] (fun x o' => x = .str (.v r.1) ∧ o' = [(10000, .var [.sl 1 e_u8 r.2.1, .bool (.v r.2.2), .bool (.v y0.m_bad)])]) := by
  refine acalls_of' Tx_tags_reader_text Gl 16 [10000] Tryd.func48 Tx_tags_reader_text_ok Tryd_mixed fun P hP _ => ?_
  unfold tags_reader_text at h
  conv => cbv
  refine den_own' [(10000, 10000, false)] [] hP h (fun _ h => x_tags_reader_four h) fun r1 _ h => ?_
  conv => cbv
  refine den_br h (fun _ h => ?_) (fun _ h => ?_)
  · conv => cbv
    refine .mk [(10000, 10000, false)] [] rfl rfl ?_ ?_
    · conv => cbv
      cases h
      exact ⟨.var _ _ lp, trivial⟩
    conv => cbv
    cases h
    exact lp
  conv => cbv
  refine den_own' [(10000, 10000, false)] [] hP h (fun _ h => x_tags_reader_take h) fun r2 _ h => ?_
  conv => cbv
  refine den_str (fun t3 => (some (t3, r2.2.1, r2.2.2))) e_u8 r2.1 (News.map rfl) (fun _ => rfl) h fun t3 _ h => ?_
  conv => cbv
  refine .mk [(10000, 10000, false)] [] rfl rfl ?_ ?_
  · conv => cbv
    cases h
    exact ⟨.var _ _ lp, trivial⟩
  conv => cbv
  cases h
  exact lp
def Tx_tags_reader_over : Tab := [(4, ⟨.bool, 1, 1, [.bool (.lit false)]⟩), (27, ⟨.slice 5, 1, 24, [.nilsl]⟩), (80, ⟨.struct [(0, 27), (1, 4), (2, 4)], 3, 32, [.nilsl, .bool (.lit false), .bool (.lit false)]⟩)]
theorem Tx_tags_reader_over_ok : TabOk Tryd.prog Tx_tags_reader_over := tab_ok [4, 27, 80]
theorem x_tags_reader_over {y0 : tags_reader} {r : Int} (h : tags_reader_over y0 = some r) : ACalls Tryd.prog Gl 49 [.ptr 10000 0] [(10000, .var [.sl 1 e_u8 y0.m_b, .bool (.v y0.m_end), .bool (.v y0.m_bad)])] (fun x o' => x = .int .i64 (.v r) ∧ o' = [(10000, .var [.sl 1 e_u8 y0.m_b, .bool (.v y0.m_end), .bool (.v y0.m_bad)])]) := by
  refine acalls_of' Tx_tags_reader_over Gl 21 [10000] Tryd.func49 Tx_tags_reader_over_ok Tryd_mixed fun P hP _ => ?_
  unfold tags_reader_over at h
  conv => cbv
  refine den_br h (fun _ h => ?_) (fun _ h => ?_)
  · conv => cbv
    refine .mk [(10000, 10000, false)] [] rfl rfl ?_ ?_
    · conv => cbv
      cases h
      exact lp
    conv => cbv
    cases h
    exact lp
  conv => cbv
  refine .mk ?_
  conv => cbv
  refine .mk ?_
  conv => cbv
  refine den_br h (fun _ h => ?_) (fun _ h => ?_)
  · conv => cbv
    refine .mk [(10000, 10000, false)] [] rfl rfl ?_ ?_
    · conv => cbv
      cases h
      exact lp
    conv => cbv
    cases h
    exact lp
  conv => cbv
  refine .mk [(10000, 10000, false)] [] rfl rfl ?_ ?_
  · conv => cbv
    cases h
    exact lp
  conv => cbv
  cases h
  exact lp
def T_tags_ReadPicture : Tab := [(3, ⟨.int .i64, 1, 8, [.int .i64 (.lit 0)]⟩), (5, ⟨.int .u8, 1, 1, [.int .u8 (.lit 0)]⟩), (9, ⟨.str, 1, 16, [.str (.lit [])]⟩), (27, ⟨.slice 5, 1, 24, [.nilsl]⟩), (45, ⟨.struct [(0, 3), (1, 9), (2, 9), (3, 3), (4, 3), (5, 3), (6, 3), (7, 27)], 8, 96, [.int .i64 (.lit 0), .str (.lit []), .str (.lit []), .int .i64 (.lit 0), .int .i64 (.lit 0), .int .i64 (.lit 0), .int .i64 (.lit 0), .nilsl]⟩), (80, ⟨.struct [(0, 27), (1, 4), (2, 4)], 3, 32, [.nilsl, .bool (.lit false), .bool (.lit false)]⟩)]
theorem T_tags_ReadPicture_ok : TabOk Tryd.prog T_tags_ReadPicture := tab_ok [3, 5, 9, 27, 45, 80]
theorem v_tags_ReadPicture {y0 : List Int} {r : tags_Picture × Int} (h : tags_ReadPicture y0 = some r) : AVal Tryd.prog Gl 23 [(e_sl 1 e_u8) y0] (.tup [e_tags_Picture r.1, e_i64 r.2]) := by
  refine aval_of' T_tags_ReadPicture Gl 53 Tryd.func23 T_tags_ReadPicture_ok Tryd_mixed fun P hP _ => ?_
  unfold tags_ReadPicture at h
  conv => cbv
  refine .own ?_
  conv => cbv
  refine .mk ?_
  conv => cbv
  refine den_own' [(12, 10000, false)] [] hP h (fun _ h => x_tags_reader_four h) fun r1 _ h => ?_
  conv => cbv
  refine den_own' [(12, 10000, false)] [] hP h (fun _ h => x_tags_reader_text h) fun r2 _ h => ?_
  conv => cbv
  refine .mk ?_
  conv => cbv
  refine den_own' [(12, 10000, false)] [] hP h (fun _ h => x_tags_reader_text h) fun r3 _ h => ?_
  conv => cbv
  refine den_own' [(12, 10000, false)] [] hP h (fun _ h => x_tags_reader_four h) fun r4 _ h => ?_
  conv => cbv
  refine den_own' [(12, 10000, false)] [] hP h (fun _ h => x_tags_reader_four h) fun r5 _ h => ?_
  conv => cbv
  refine .mk ?_
  conv => cbv
  refine den_own' [(12, 10000, false)] [] hP h (fun _ h => x_tags_reader_four h) fun r6 _ h => ?_
  conv => cbv
  refine den_own' [(12, 10000, false)] [] hP h (fun _ h => x_tags_reader_four h) fun r7 _ h => ?_
  conv => cbv
  refine .mk ?_
  conv => cbv
  refine den_own' [(12, 10000, false)] [] hP h (fun _ h => x_tags_reader_text h) fun r8 _ h => ?_
  conv => cbv
  refine den_bytes (fun l9 => ((tags_reader_over (⟨r8.2.1, r8.2.2, false⟩ : tags_reader)).bind fun r10 => if (r10 != 0) = true then   some ((⟨(0 : Int), [], [], (0 : Int), (0 : Int), (0 : Int), (0 : Int), ([] : List Int)⟩ : tags_Picture), r10) else   (tags_Picture_Write (⟨r1.1, r2.1, r3.1, r4.1, r5.1, r6.1, r7.1, l9⟩ : tags_Picture)).bind fun r11 =>   if (r11.2 != 0) = true then     some ((⟨(0 : Int), [], [], (0 : Int), (0 : Int), (0 : Int), (0 : Int), ([] : List Int)⟩ : tags_Picture), r11.2)   else     some ((⟨r1.1, r2.1, r3.1, r4.1, r5.1, r6.1, r7.1, l9⟩ : tags_Picture), (0 : Int)))) h fun l9 _ h => ?_
  conv => cbv
  refine den_own' [(12, 10000, false)] [] hP h (fun _ h => x_tags_reader_over h) fun r10 _ h => ?_
  conv => cbv
  refine den_br h (fun _ h => ?_) (fun _ h => ?_)
  · conv => cbv
    cases h
    exact .tup _ _ lp
  conv => cbv
  refine .mk ?_
  conv => cbv
  refine den_call' hP h (fun _ h => v_tags_Picture_Write h) fun r11 _ h => ?_
  conv => cbv
  refine den_br h (fun _ h => ?_) (fun _ h => ?_)
  · conv => cbv
    cases h
    exact .tup _ _ lp
  conv => cbv
  cases h
  exact .tup _ _ lp
def T_jetsamref13_High : Tab := [(3, ⟨.int .i64, 1, 8, [.int .i64 (.lit 0)]⟩), (5, ⟨.int .u8, 1, 1, [.int .u8 (.lit 0)]⟩), (27, ⟨.slice 5, 1, 24, [.nilsl]⟩)]
theorem T_jetsamref13_High_ok : TabOk Tryd.prog T_jetsamref13_High := tab_ok [3, 5, 27]
theorem v_jetsamref13_High {y0 : List Int} {y1 : Int} {y2 : Int} {r : Int} (h : jetsamref13_High y0 y1 y2 = some r) : AVal Tryd.prog Gl 56 [(e_sl 1 e_u8) y0, e_i64 y1, e_i64 y2] (e_i64 r) := by
  refine aval_of' T_jetsamref13_High Gl 31 Tryd.func56 T_jetsamref13_High_ok Tryd_mixed fun P hP _ => ?_
  unfold jetsamref13_High at h
  conv => cbv
  refine .mk ?_
  conv => cbv
  refine den_br h (fun _ h => ?_) (fun _ h => ?_)
  · conv => cbv
    cases h
    exact lp
  conv => cbv
  refine den_cut' (r := r) jetsamref13_High_K1 (fun j1 => ⟨[(7, .int .i64 (.v j1))], [], []⟩) ?_ (fun j1 h => ?_)
  · conv => cbv
    refine den_loop' (jetsamref13_High_L1 y0 y1 y2) h (fun a2 => ⟨[(0, .sl 1 e_u8 y0), (1, .int .i64 (.v y1)), (2, .int .i64 (.v y2)), (7, .int .i64 (.v a2.1)), (8, .int .i64 (.v a2.2))], [], []⟩) (fun _ _ a2 x1 h hb1 hx1 => ?_)
    unfold jetsamref13_High_L1 at h
    conv => cbv
    refine den_br h (fun _ h => ?_) (fun _ h => ?_)
    · conv => cbv
      refine .mk ?_
      conv => cbv
      refine den_elem h fun p3 _ h => ?_
      conv => cbv
      exact den_back' h hb1
    conv => cbv
    replace h := den_out h hx1
    exact den_join' h
  unfold jetsamref13_High_K1 at h
  conv => cbv
  cases h
  exact lp
def T_jetsamref13_ReadPicture : Tab := [(3, ⟨.int .i64, 1, 8, [.int .i64 (.lit 0)]⟩), (5, ⟨.int .u8, 1, 1, [.int .u8 (.lit 0)]⟩), (9, ⟨.str, 1, 16, [.str (.lit [])]⟩), (27, ⟨.slice 5, 1, 24, [.nilsl]⟩), (47, ⟨.arr 5 3, 5, 40, [.int .i64 (.lit 0), .int .i64 (.lit 0), .int .i64 (.lit 0), .int .i64 (.lit 0), .int .i64 (.lit 0)]⟩)]
theorem T_jetsamref13_ReadPicture_ok : TabOk Tryd.prog T_jetsamref13_ReadPicture := tab_ok [3, 5, 9, 27, 47]
theorem v_jetsamref13_ReadPicture {y0 : List Int} {r : (Nat → Int) × (List UInt8) × (List UInt8) × (List Int) × Int} (h : jetsamref13_ReadPicture y0 = some r) : AVal Tryd.prog Gl 24 [(e_sl 1 e_u8) y0] (.tup [(e_arrn 5 e_i64) r.1, e_str r.2.1, e_str r.2.2.1, (e_sl 1 e_u8) r.2.2.2.1, e_i64 r.2.2.2.2]) := by
  refine aval_of' T_jetsamref13_ReadPicture Gl 119 Tryd.func24 T_jetsamref13_ReadPicture_ok Tryd_mixed fun P hP _ => ?_
  unfold jetsamref13_ReadPicture at h
  conv => cbv
  refine den_call' hP h (fun _ h => v_jetsamref13_High h) fun r1 _ h => ?_
  conv => cbv
  refine den_call' hP h (fun _ h => v_jetsamref13_High h) fun r2 _ h => ?_
  conv => cbv
  refine .mk ?_
  conv => cbv
  refine den_br h (fun _ h => ?_) (fun _ h => ?_)
  · conv => cbv
    refine .mk ?_
    conv => cbv
    cases h
    exact .tup _ _ lp
  conv => cbv
  refine den_call' hP h (fun _ h => v_jetsamref13_High h) fun r3 _ h => ?_
  conv => cbv
  refine .mk ?_
  conv => cbv
  refine den_br h (fun _ h => ?_) (fun _ h => ?_)
  · conv => cbv
    refine .mk ?_
    conv => cbv
    cases h
    exact .tup _ _ lp
  conv => cbv
  refine .mk ?_
  conv => cbv
  refine den_sub h fun l4 _ h => ?_
  conv => cbv
  refine den_str (fun t5 => ((sub y0 (W ((W (8 + r2)) + 4)) (W ((W ((W (8 + r2)) + 4)) + r3))).bind fun l6 => iter (jetsamref13_ReadPicture_L1 y0 t5 (bstr l6)) ((W ((W ((W (8 + r2)) + 4)) + r3)), 1, r1, 0, 0, 0, 0))) e_u8 l4 (News.map rfl) (fun _ => rfl) h fun t5 _ h => ?_
  conv => cbv
  refine .mk ?_
  conv => cbv
  refine den_sub h fun l6 _ h => ?_
  conv => cbv
  refine den_str (fun t7 => (iter (jetsamref13_ReadPicture_L1 y0 t5 t7) ((W ((W ((W (8 + r2)) + 4)) + r3)), 1, r1, 0, 0, 0, 0))) e_u8 l6 (News.map rfl) (fun _ => rfl) h fun t7 _ h => ?_
  conv => cbv
  refine den_cut' (r := r) (jetsamref13_ReadPicture_K1 y0 t5 t7) (fun j8 => ⟨[(0, .sl 1 e_u8 y0), (2, .ptr 2 0), (7, .ptr 7 0), (9, .int .i64 (.v j8.1)), (11, .str (.v t5)), (12, .str (.v t7))], [(2, .var [.int .i64 (.lit 0), .int .i64 (.lit 0), .int .i64 (.lit 0), .int .i64 (.lit 0), .int .i64 (.lit 0)]), (7, .var [.int .i64 (.v j8.2.1), .int .i64 (.v j8.2.2.1), .int .i64 (.v j8.2.2.2.1), .int .i64 (.v j8.2.2.2.2.1), .int .i64 (.v j8.2.2.2.2.2)])], []⟩) ?_ (fun j8 h => ?_)
  · conv => cbv
    refine den_loop' (jetsamref13_ReadPicture_L1 y0 t5 t7) h (fun a12 => ⟨[(0, .sl 1 e_u8 y0), (2, .ptr 2 0), (7, .ptr 7 0), (9, .int .i64 (.v a12.1)), (11, .str (.v t5)), (12, .str (.v t7)), (13, .int .i64 (.v a12.2.1))], [(2, .var [.int .i64 (.lit 0), .int .i64 (.lit 0), .int .i64 (.lit 0), .int .i64 (.lit 0), .int .i64 (.lit 0)]), (7, .var [.int .i64 (.v a12.2.2.1), .int .i64 (.v a12.2.2.2.1), .int .i64 (.v a12.2.2.2.2.1), .int .i64 (.v a12.2.2.2.2.2.1), .int .i64 (.v a12.2.2.2.2.2.2)])], []⟩) (fun _ _ a12 x1 h hb1 hx1 => ?_)
    unfold jetsamref13_ReadPicture_L1 at h
    conv => cbv
    refine den_br h (fun _ h => ?_) (fun _ h => ?_)
    · conv => cbv
      refine .mk ?_
      conv => cbv
      refine den_call' hP h (fun _ h => v_jetsamref13_High h) fun r13 _ h => ?_
      conv => cbv
      refine den_split 0 rfl h (fun h => ?_) (fun h => ?_)
      · conv => cbv
        exact den_back' h hb1
      refine den_split 1 rfl h (fun h => ?_) (fun h => ?_)
      · conv => cbv
        exact den_back' h hb1
      refine den_split 2 rfl h (fun h => ?_) (fun h => ?_)
      · conv => cbv
        exact den_back' h hb1
      refine den_split 3 rfl h (fun h => ?_) (fun h => ?_)
      · conv => cbv
        exact den_back' h hb1
      refine den_split 4 rfl h (fun h => ?_) (fun h => ?_)
      · conv => cbv
        exact den_back' h hb1
      exact den_none h
    conv => cbv
    replace h := den_out h hx1
    exact den_join' h
  unfold jetsamref13_ReadPicture_K1 at h
  conv => cbv
  refine den_call' hP h (fun _ h => v_jetsamref13_High h) fun r9 _ h => ?_
  conv => cbv
  refine .mk ?_
  conv => cbv
  refine den_br h (fun _ h => ?_) (fun _ h => ?_)
  · conv => cbv
    refine .mk ?_
    conv => cbv
    cases h
    exact .tup _ _ lp
  conv => cbv
  refine .mk ?_
  conv => cbv
  refine den_br h (fun _ h => ?_) (fun _ h => ?_)
  · conv => cbv
    refine .mk ?_
    conv => cbv
    cases h
    exact .tup _ _ lp
  conv => cbv
  refine .mk ?_
  conv => cbv
  refine den_call' hP h (fun _ h => v_jetsamref13_Picture h) fun r10 _ h => ?_
  conv => cbv
  refine den_br h (fun _ h => ?_) (fun _ h => ?_)
  · conv => cbv
    refine .mk ?_
    conv => cbv
    cases h
    exact .tup _ _ lp
  conv => cbv
  refine .dup ?_
  conv => cbv
  refine .mk (some [2]) (by kernel_rfl) ?_
  conv => cbv
  refine .mk ?_
  conv => cbv
  refine den_sub h fun l11 _ h => ?_
  conv => cbv
  refine .mk ?_
  conv => cbv
  cases h
  exact .tup _ _ lp
def T_jetsamlaw13_picture : Tab := [(3, ⟨.int .i64, 1, 8, [.int .i64 (.lit 0)]⟩), (9, ⟨.str, 1, 16, [.str (.lit [])]⟩), (27, ⟨.slice 5, 1, 24, [.nilsl]⟩), (45, ⟨.struct [(0, 3), (1, 9), (2, 9), (3, 3), (4, 3), (5, 3), (6, 3), (7, 27)], 8, 96, [.int .i64 (.lit 0), .str (.lit []), .str (.lit []), .int .i64 (.lit 0), .int .i64 (.lit 0), .int .i64 (.lit 0), .int .i64 (.lit 0), .nilsl]⟩)]
theorem T_jetsamlaw13_picture_ok : TabOk Tryd.prog T_jetsamlaw13_picture := tab_ok [3, 9, 27, 45]
theorem v_jetsamlaw13_picture {y0 : tags_Picture} {y1 : tags_Picture} {r : Bool} (h : jetsamlaw13_picture y0 y1 = some r) : AVal Tryd.prog Gl 25 [e_tags_Picture y0, e_tags_Picture y1] (e_bool r) := by
  refine aval_of' T_jetsamlaw13_picture Gl 59 Tryd.func25 T_jetsamlaw13_picture_ok Tryd_mixed fun P hP _ => ?_
  unfold jetsamlaw13_picture at h
  conv => cbv
  refine .own ?_
  conv => cbv
  refine .own ?_
  conv => cbv
  refine .mk ?_
  conv => cbv
  refine .mk ?_
  conv => cbv
  refine .mk ?_
  conv => cbv
  refine .mk ?_
  conv => cbv
  refine .mk ?_
  conv => cbv
  refine .mk ?_
  conv => cbv
  refine .mk ?_
  conv => cbv
  refine .mk ?_
  conv => cbv
  refine .mk ?_
  conv => cbv
  refine den_br h (fun _ h => ?_) (fun _ h => ?_)
  · conv => cbv
    refine den_call' hP h (fun _ h => v_jetsamlaw11_Bytes h) fun r1 _ h => ?_
    conv => cbv
    cases h
    exact lp
  conv => cbv
  cases h
  exact lp
def T_jetsamlaw13_TagsPictures : Tab := [(3, ⟨.int .i64, 1, 8, [.int .i64 (.lit 0)]⟩), (9, ⟨.str, 1, 16, [.str (.lit [])]⟩), (27, ⟨.slice 5, 1, 24, [.nilsl]⟩), (45, ⟨.struct [(0, 3), (1, 9), (2, 9), (3, 3), (4, 3), (5, 3), (6, 3), (7, 27)], 8, 96, [.int .i64 (.lit 0), .str (.lit []), .str (.lit []), .int .i64 (.lit 0), .int .i64 (.lit 0), .int .i64 (.lit 0), .int .i64 (.lit 0), .nilsl]⟩), (47, ⟨.arr 5 3, 5, 40, [.int .i64 (.lit 0), .int .i64 (.lit 0), .int .i64 (.lit 0), .int .i64 (.lit 0), .int .i64 (.lit 0)]⟩)]
theorem T_jetsamlaw13_TagsPictures_ok : TabOk Tryd.prog T_jetsamlaw13_TagsPictures := tab_ok [3, 9, 27, 45, 47]
theorem v_jetsamlaw13_TagsPictures {y0 : tags_Picture} {y1 : List Int} {r : Bool} (h : jetsamlaw13_TagsPictures y0 y1 = some r) : AVal Tryd.prog Gl 5 [e_tags_Picture y0, (e_sl 1 e_u8) y1] (e_bool r) := by
  refine aval_of' T_jetsamlaw13_TagsPictures Gl 110 Tryd.func5 T_jetsamlaw13_TagsPictures_ok Tryd_mixed fun P hP _ => ?_
  unfold jetsamlaw13_TagsPictures at h
  conv => cbv
  refine .own ?_
  conv => cbv
  refine .mk ?_
  conv => cbv
  refine .mk ?_
  conv => cbv
  refine .mk ?_
  conv => cbv
  refine den_br h (fun _ h => ?_) (fun _ h => ?_)
  · conv => cbv
    refine den_call' hP h (fun _ h => v_jetsamlaw13_awake h) fun r1 _ h => ?_
    conv => cbv
    cases h
    exact lp
  conv => cbv
  refine .mk ?_
  conv => cbv
  refine den_call' hP h (fun _ h => v_tags_Picture_Write h) fun r2 _ h => ?_
  conv => cbv
  refine .mk ?_
  conv => cbv
  refine .mk ?_
  conv => cbv
  refine .mk ?_
  conv => cbv
  refine den_call' hP h (fun _ h => v_jetsamref13_Picture h) fun r3 _ h => ?_
  conv => cbv
  refine den_call' hP h (fun _ h => v_jetsamlaw11_Bytes h) fun r4 _ h => ?_
  conv => cbv
  refine .mk ?_
  conv => cbv
  refine den_br h (fun _ h => ?_) (fun _ h => ?_)
  · conv => cbv
    cases h
    exact lp
  conv => cbv
  refine den_call' hP h (fun _ h => v_tags_ReadPicture h) fun r5 _ h => ?_
  conv => cbv
  refine .mk ?_
  conv => cbv
  refine den_call' hP h (fun _ h => v_jetsamref13_ReadPicture h) fun r6 _ h => ?_
  conv => cbv
  refine .mk ?_
  conv => cbv
  refine .mk ?_
  conv => cbv
  refine .mk ?_
  conv => cbv
  refine den_br h (fun _ h => ?_) (fun _ h => ?_)
  · conv => cbv
    refine .mk ?_
    conv => cbv
    refine .mk ?_
    conv => cbv
    refine .mk ?_
    conv => cbv
    refine den_call' hP h (fun _ h => v_jetsamlaw13_picture h) fun r7 _ h => ?_
    conv => cbv
    refine den_br h (fun _ h => ?_) (fun _ h => ?_)
    · conv => cbv
      refine den_call' hP h (fun _ h => v_jetsamlaw13_awake h) fun r8 _ h => ?_
      conv => cbv
      cases h
      exact lp
    conv => cbv
    cases h
    exact lp
  conv => cbv
  refine .mk ?_
  conv => cbv
  refine .mk ?_
  conv => cbv
  refine .mk ?_
  conv => cbv
  cases h
  exact lp
end Go.Proofs.YtpdklmagncfhaaaDoor
