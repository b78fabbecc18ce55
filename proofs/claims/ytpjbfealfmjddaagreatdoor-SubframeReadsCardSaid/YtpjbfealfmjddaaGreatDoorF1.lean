/- What the functions answer, printed by a program. -/
import Derived.Test.YtpjbfealfmjddaaGreatDoorA8
set_option maxRecDepth 4000
set_option linter.all false
set_option linter.unusedVariables false
set_option linter.unusedSimpArgs false
namespace Go.Vg
open Go
structure predict_Linear where
  Precision : Int
  Shift : Int
  Coefs : List Int
def e_predict_Linear (p : predict_Linear) : V := .agg [.int .i64 (.v p.Precision), .int .i64 (.v p.Shift), .sl 1 e_i64 p.Coefs]
structure rice_Plan where
  Method : Int
  Order : Int
  Params : List Int
  Bits : List Int
def e_rice_Plan (p : rice_Plan) : V := .agg [.int .i64 (.v p.Method), .int .i64 (.v p.Order), .sl 1 e_i64 p.Params, .sl 1 e_i64 p.Bits]
structure subframe_Plan where
  Kind : Int
  Order : Int
  Wasted : Int
  Linear : predict_Linear
  Rice : rice_Plan
def e_subframe_Plan (p : subframe_Plan) : V := .agg [.int .i64 (.v p.Kind), .int .i64 (.v p.Order), .int .i64 (.v p.Wasted), .int .i64 (.v p.Linear.Precision), .int .i64 (.v p.Linear.Shift), .sl 1 e_i64 p.Linear.Coefs, .int .i64 (.v p.Rice.Method), .int .i64 (.v p.Rice.Order), .sl 1 e_i64 p.Rice.Params, .sl 1 e_i64 p.Rice.Bits]
structure bits_place where
  m_at : Int
def e_bits_place (p : bits_place) : V := .agg [.int .i64 (.v p.m_at)]
structure bits_Reader where
  m_place : bits_place
  m_b : List Int
def e_bits_Reader (p : bits_Reader) : V := .agg [.int .i64 (.v p.m_place.m_at), .sl 1 e_u8 p.m_b]
structure jetsamref06_Linear where
  Precision : Int
  Shift : Int
  Coefs : List Int
def e_jetsamref06_Linear (p : jetsamref06_Linear) : V := .agg [.int .i64 (.v p.Precision), .int .i64 (.v p.Shift), .sl 1 e_i64 p.Coefs]
structure jetsamref05_Plan where
  Method : Int
  Order : Int
  Params : List Int
  Bits : List Int
def e_jetsamref05_Plan (p : jetsamref05_Plan) : V := .agg [.int .i64 (.v p.Method), .int .i64 (.v p.Order), .sl 1 e_i64 p.Params, .sl 1 e_i64 p.Bits]
structure jetsamref07_Plan where
  Kind : Int
  Order : Int
  Wasted : Int
  Linear : jetsamref06_Linear
  Rice : jetsamref05_Plan
def e_jetsamref07_Plan (p : jetsamref07_Plan) : V := .agg [.int .i64 (.v p.Kind), .int .i64 (.v p.Order), .int .i64 (.v p.Wasted), .int .i64 (.v p.Linear.Precision), .int .i64 (.v p.Linear.Shift), .sl 1 e_i64 p.Linear.Coefs, .int .i64 (.v p.Rice.Method), .int .i64 (.v p.Rice.Order), .sl 1 e_i64 p.Rice.Params, .sl 1 e_i64 p.Rice.Bits]
def tab0 : List (Arr4 Int) := [(⟨(0 : Int), (0 : Int), (0 : Int), (0 : Int)⟩ : Arr4 Int), (⟨(1 : Int), (0 : Int), (0 : Int), (0 : Int)⟩ : Arr4 Int), (⟨(2 : Int), ((-1) : Int), (0 : Int), (0 : Int)⟩ : Arr4 Int), (⟨(3 : Int), ((-3) : Int), (1 : Int), (0 : Int)⟩ : Arr4 Int), (⟨(4 : Int), ((-6) : Int), (4 : Int), ((-1) : Int)⟩ : Arr4 Int)]
def Gl : Glb := [(0, [.int .i64 (.lit 0), .int .i64 (.lit 0), .int .i64 (.lit 0), .int .i64 (.lit 0), .int .i64 (.lit 1), .int .i64 (.lit 0), .int .i64 (.lit 0), .int .i64 (.lit 0), .int .i64 (.lit 2), .int .i64 (.lit (-1)), .int .i64 (.lit 0), .int .i64 (.lit 0), .int .i64 (.lit 3), .int .i64 (.lit (-3)), .int .i64 (.lit 1), .int .i64 (.lit 0), .int .i64 (.lit 4), .int .i64 (.lit (-6)), .int .i64 (.lit 4), .int .i64 (.lit (-1))])]
def subframe_sizes (y0 : Int) (y1 : Int) : Option Int :=
  if (if (if (if (decide (y1 < 4)) = true then true else (decide (y1 > 33))) = true then true else (decide (y0 < 1))) = true then true else (decide (y0 > 65535))) = true then
    some (1 : Int)
  else
    some (0 : Int)
def subframe_fits_c1 (y0 : Int) (y1 : Int) : Option Unit :=
  some ()
def slices_IndexFunc_sint_int_K1 (j1 : Unit) : Option Int :=
  some (-1)
def slices_IndexFunc_sint_int_L1 (y0 : List Int) (y1 : Int) (a2 : Int) : Option (Int ⊕ Int) :=
  if (decide (a2 < (y0.length : Int))) = true then
    (idx y0 a2).bind fun p3 =>
    (subframe_fits_c1 p3 y1).bind fun r4 =>
    if (if (decide (p3 < (W (0 - y1)))) = true then true else (decide (p3 ≥ y1))) = true then
      Option.map .inr <|
      some a2
    else
      some (.inl (W (a2 + 1)))
  else
    Option.map .inr <|
    slices_IndexFunc_sint_int_K1 ()
def slices_IndexFunc_sint_int (y0 : List Int) (y1 : Int) : Option Int :=
  iter (slices_IndexFunc_sint_int_L1 y0 y1) 0
def slices_ContainsFunc_sint_int (y0 : List Int) (y1 : Int) : Option Bool :=
  (slices_IndexFunc_sint_int y0 y1).bind fun r1 =>
  some (decide (r1 ≥ 0))
def subframe_fits (y0 : Int) (y1 : List Int) : Option Bool :=
  need (decide ((W (y0 - 1)) ≥ 0)) <|
  lett ((shD .shl .i64 1 (W (y0 - 1)))) fun t1 =>
  (slices_ContainsFunc_sint_int y1 t1).bind fun r2 =>
  some (!r2)
def subframe_wasted_K2 (j2 : Int) : Option Int :=
  some j2
def subframe_wasted_L1 (a3 : Int × Int) : Option ((Int × Int) ⊕ Int) :=
  if (if (a3.1 != 0) = true then ((arD .and .i64 a3.1 1) == 0) else false) = true then
    some (.inl ((shD .shr .i64 a3.1 1), (W (a3.2 + 1))))
  else
    Option.map .inr <|
    subframe_wasted_K2 a3.2
def subframe_wasted_K1 (j1 : Int) : Option Int :=
  iter subframe_wasted_L1 (j1, 0)
def subframe_wasted_L2 (y0 : List Int) (a4 : Int × Int) : Option ((Int × Int) ⊕ Int) :=
  if (decide (a4.2 < (y0.length : Int))) = true then
    (idx y0 a4.2).bind fun p5 =>
    some (.inl ((arD .or .i64 a4.1 p5), (W (a4.2 + 1))))
  else
    Option.map .inr <|
    subframe_wasted_K1 a4.1
def subframe_wasted (y0 : List Int) : Option Int :=
  iter (subframe_wasted_L2 y0) (0, 0)
def subframe_less_K1 (j1 : (List Int)) : Option ((List Int) × Bool) :=
  some (j1, true)
def subframe_less_L1 (y0 : Int) (y1 : List Int) (a2 : Int × (List Int)) : Option ((Int × (List Int)) ⊕ ((List Int) × Bool)) :=
  if (decide (a2.1 < (y1.length : Int))) = true then
    (idx y1 a2.1).bind fun p3 =>
    need (decide (y0 ≥ 0)) <|
    if ((arD .and .i64 p3 (W ((shD .shl .i64 1 y0) - 1))) != 0) = true then
      Option.map .inr <|
      some (([] : List Int), false)
    else
      need (decide (y0 ≥ 0)) <|
      (app 8 a2.2 [(shD .shr .i64 p3 y0)]).bind fun l4 =>
      some (.inl ((W (a2.1 + 1)), l4))
  else
    Option.map .inr <|
    subframe_less_K1 a2.2
def subframe_less (y0 : Int) (y1 : List Int) : Option ((List Int) × Bool) :=
  iter (subframe_less_L1 y0 y1) (0, [])
def subframe_same_c1 (y0 : Int) (y1 : List Int) : Option Bool :=
  (idx y1 0).bind fun p1 =>
  some (y0 != p1)
def slices_IndexFunc_sint_int_x2_K1 (j1 : Unit) : Option Int :=
  some (-1)
def slices_IndexFunc_sint_int_x2_L1 (y0 : List Int) (y1 : List Int) (a2 : Int) : Option (Int ⊕ Int) :=
  if (decide (a2 < (y0.length : Int))) = true then
    (idx y0 a2).bind fun p3 =>
    (subframe_same_c1 p3 y1).bind fun r4 =>
    if r4 = true then
      Option.map .inr <|
      some a2
    else
      some (.inl (W (a2 + 1)))
  else
    Option.map .inr <|
    slices_IndexFunc_sint_int_x2_K1 ()
def slices_IndexFunc_sint_int_x2 (y0 : List Int) (y1 : List Int) : Option Int :=
  iter (slices_IndexFunc_sint_int_x2_L1 y0 y1) 0
def slices_ContainsFunc_sint_int_x2 (y0 : List Int) (y1 : List Int) : Option Bool :=
  (slices_IndexFunc_sint_int_x2 y0 y1).bind fun r1 =>
  some (decide (r1 ≥ 0))
def subframe_same (y0 : List Int) : Option Bool :=
  (slices_ContainsFunc_sint_int_x2 y0 y0).bind fun r1 =>
  some (!r1)
def slices_Clone_sint_int (y0 : List Int) : Option (List Int) :=
  (app 8 ([] : List Int) y0).bind fun l1 =>
  some l1
def predict_Fixed (y0 : Int) : Option (predict_Linear × Int) :=
  if (if (decide (y0 < 0)) = true then true else (decide (y0 > 4))) = true then
    some ((⟨(0 : Int), (0 : Int), ([] : List Int)⟩ : predict_Linear), (10 : Int))
  else
    (idx tab0 y0).bind fun p1 =>
    (sub [p1.a0, p1.a1, p1.a2, p1.a3] 0 y0).bind fun l2 =>
    (slices_Clone_sint_int l2).bind fun r3 =>
    some ((⟨(4 : Int), (0 : Int), r3⟩ : predict_Linear), (0 : Int))
def predict_Check_c1 (y0 : Int) (y1 : Int) : Option Unit :=
  some ()
def slices_IndexFunc_sint_int_x3_K1 (j1 : Unit) : Option Int :=
  some (-1)
def slices_IndexFunc_sint_int_x3_L1 (y0 : List Int) (y1 : Int) (a2 : Int) : Option (Int ⊕ Int) :=
  if (decide (a2 < (y0.length : Int))) = true then
    (idx y0 a2).bind fun p3 =>
    (predict_Check_c1 p3 y1).bind fun r4 =>
    if (if (decide (p3 < (W (0 - y1)))) = true then true else (decide (p3 ≥ y1))) = true then
      Option.map .inr <|
      some a2
    else
      some (.inl (W (a2 + 1)))
  else
    Option.map .inr <|
    slices_IndexFunc_sint_int_x3_K1 ()
def slices_IndexFunc_sint_int_x3 (y0 : List Int) (y1 : Int) : Option Int :=
  iter (slices_IndexFunc_sint_int_x3_L1 y0 y1) 0
def slices_ContainsFunc_sint_int_x3 (y0 : List Int) (y1 : Int) : Option Bool :=
  (slices_IndexFunc_sint_int_x3 y0 y1).bind fun r1 =>
  some (decide (r1 ≥ 0))
def predict_Check (y0 : predict_Linear) : Option Int :=
  if (if (if (if (if (decide ((y0.Coefs.length : Int) > 32)) = true then true else (decide (y0.Precision < 1))) = true then true else (decide (y0.Precision > 15))) = true then true else (decide (y0.Shift < 0))) = true then true else (decide (y0.Shift > 15))) = true then
    some (10 : Int)
  else
    need (decide ((W (y0.Precision - 1)) ≥ 0)) <|
    lett ((shD .shl .i64 1 (W (y0.Precision - 1)))) fun t1 =>
    (slices_ContainsFunc_sint_int_x3 y0.Coefs t1).bind fun r2 =>
    if r2 = true then
      some (10 : Int)
    else
      some (0 : Int)
def slices_IndexFunc_sint_int_x4_K1 (j1 : Unit) : Option Int :=
  some ((-1) : Int)
def slices_IndexFunc_sint_int_x4_L1 (y0 : List Int) (g1 : Int → Option Bool) (a2 : Int) : Option (Int ⊕ Int) :=
  if (decide (a2 < (y0.length : Int))) = true then
    (idx y0 a2).bind fun p3 =>
    (g1 p3).bind fun r4 =>
    if r4 = true then
      Option.map .inr <|
      some a2
    else
      some (.inl (W (a2 + 1)))
  else
    Option.map .inr <|
    slices_IndexFunc_sint_int_x4_K1 ()
def slices_IndexFunc_sint_int_x4 (y0 : List Int) (g1 : Int → Option Bool) : Option Int :=
  iter (slices_IndexFunc_sint_int_x4_L1 y0 g1) 0
def slices_ContainsFunc_sint_int_x4 (y0 : List Int) (g1 : Int → Option Bool) : Option Bool :=
  (slices_IndexFunc_sint_int_x4 y0 g1).bind fun r1 =>
  some (decide (r1 ≥ 0))
def predict_may_c1 (y0 : Int) : Option Bool :=
  some (if (decide (y0 < (-4294967296))) = true then true else (decide (y0 ≥ 4294967296)))
def predict_may (y0 : List Int) : Option Bool :=
  (slices_ContainsFunc_sint_int_x4 y0 predict_may_c1).bind fun r1 =>
  some (!r1)
def predict_back (y0 : List Int) : Option Unit :=
  some ()
def predict_Linear_told_K1 (y0 : predict_Linear) (j1 : Int) : Option Int :=
  need (decide (y0.Shift ≥ 0)) <|
  some (shD .shr .i64 j1 y0.Shift)
def predict_Linear_told_L1 (y0 : predict_Linear) (p5 : Int × Int) (a6 : Int) : Option (Int ⊕ Empty) :=
  (idx y0.Coefs p5.1).bind fun p8 =>
  some (.inl (W (a6 + (W (p8 * p5.2)))))
def predict_Linear_told_K2 (y0 : predict_Linear) (a6 : Int) : Option Int :=
  predict_Linear_told_K1 y0 a6
def predict_Linear_told (y0 : predict_Linear) (y1 : List Int) : Option Int :=
  (sub y1 (W ((y1.length : Int) - (y0.Coefs.length : Int))) (y1.length : Int)).bind fun l2 =>
  (predict_back l2).bind fun r3 =>
  (backF l2).bind fun e4 =>
  foldR (predict_Linear_told_L1 y0) (predict_Linear_told_K2 y0) ((fun b => nomatch b)) e4 0
def predict_Residual_K1 (j3 : (List Int)) : Option ((List Int) × Int) :=
  some (j3, (0 : Int))
def predict_Residual_L1 (y0 : predict_Linear) (y1 : List Int) (a4 : Int × (List Int)) : Option ((Int × (List Int)) ⊕ ((List Int) × Int)) :=
  if (decide (a4.1 < (y1.length : Int))) = true then
    (idx y1 a4.1).bind fun p5 =>
    (sub y1 0 a4.1).bind fun l6 =>
    (predict_Linear_told y0 l6).bind fun r7 =>
    (app 8 a4.2 [(W (p5 - r7))]).bind fun l8 =>
    some (.inl ((W (a4.1 + 1)), l8))
  else
    Option.map .inr <|
    predict_Residual_K1 a4.2
def predict_Residual (y0 : predict_Linear) (y1 : List Int) : Option ((List Int) × Int) :=
  (predict_Check y0).bind fun r1 =>
  if (r1 != 0) = true then
    some (([] : List Int), r1)
  else
    if (decide ((y1.length : Int) < (y0.Coefs.length : Int))) = true then
      some (([] : List Int), (1 : Int))
    else
      (predict_may y1).bind fun r2 =>
      if (!r2) = true then
        some (([] : List Int), (10 : Int))
      else
        iter (predict_Residual_L1 y0 y1) ((y0.Coefs.length : Int), [])
def predict_Best_K1 (j1 : Int) : Option Int :=
  some j1
def predict_Best_K2 (a2 : Int × Int × Int) (j3 : Int × Int) : Option ((Int × Int × Int) ⊕ Int) :=
  some (.inl (j3.1, j3.2, (W (a2.2.2 + 1))))
def predict_Best_K3 (a2 : Int × Int × Int) (j6 : Int) : Option ((Int × Int × Int) ⊕ Int) :=
  if (if (decide (a2.2.1 < 0)) = true then true else (decide (j6 < a2.2.1))) = true then
    predict_Best_K2 a2 (a2.2.2, j6)
  else
    predict_Best_K2 a2 (a2.1, a2.2.1)
def predict_Best_L2 (a2 : Int × Int × Int) (r5 : (List Int) × Int) (a7 : Int × Int) : Option ((Int × Int) ⊕ ((Int × Int × Int) ⊕ Int)) :=
  if (decide (a7.2 < (r5.1.length : Int))) = true then
    (idx r5.1 a7.2).bind fun p8 =>
    some (.inl ((W (a7.1 + (if (W (0 - p8)) > p8 then (W (0 - p8)) else p8))), (W (a7.2 + 1))))
  else
    Option.map .inr <|
    predict_Best_K3 a2 a7.1
def predict_Best_L1 (y0 : List Int) (a2 : Int × Int × Int) : Option ((Int × Int × Int) ⊕ Int) :=
  if (decide (a2.2.2 < (if (y0.length : Int) < 5 then (y0.length : Int) else 5))) = true then
    (predict_Fixed a2.2.2).bind fun r4 =>
    (predict_Residual r4.1 y0).bind fun r5 =>
    if (r5.2 != 0) = true then
      Option.map .inr <|
      some (0 : Int)
    else
      iter (predict_Best_L2 a2 r5) (0, 0)
  else
    Option.map .inr <|
    predict_Best_K1 a2.1
def predict_Best (y0 : List Int) : Option Int :=
  iter (predict_Best_L1 y0) (0, (-1), 0)
def subframe_how (y0 : subframe_Plan) : Option predict_Linear :=
  if (y0.Kind == 2) = true then
    (predict_Fixed y0.Order).bind fun r1 =>
    some r1.1
  else
    some y0.Linear
def rice_head (y0 : Int) (y1 : Int) (y2 : Int) (y3 : Int) : Option Int :=
  if (if (if (if (decide (y2 < 1)) = true then true else (decide (y2 > 65535))) = true then true else (decide (y3 < 0))) = true then true else (decide (y3 > 32))) = true then
    some (1 : Int)
  else
    if (if (if (if (decide (y0 < 0)) = true then true else (decide (y0 > 1))) = true then true else (decide (y1 < 0))) = true then true else (decide (y1 > 15))) = true then
      some (10 : Int)
    else
      need (decide (y1 ≥ 0)) <|
      if ((arD .and .i64 y2 (W ((shD .shl .i64 1 y1) - 1))) != 0) = true then
        some (12 : Int)
      else
        need (decide (y1 ≥ 0)) <|
        if (decide ((shD .shr .i64 y2 y1) ≤ y3)) = true then
          some (12 : Int)
        else
          some (0 : Int)
def rice_fold (y0 : Int) : Option (Int × Bool) :=
  if (decide (y0 < 0)) = true then
    some ((W ((W ((-2) * y0)) - 1)), (decide (y0 > (-2147483648))))
  else
    some ((W (2 * y0)), (decide (y0 < 2147483648)))
def rice_parts (y0 : Int) (y1 : Int) (y2 : Int) : Option Unit :=
  some ()
def rice_escape (y0 : Int) : Option Int :=
  need (decide ((W (4 + y0)) ≥ 0)) <|
  some (W ((shD .shl .i64 1 (W (4 + y0))) - 1))
def rice_width_K1 (j1 : Int × Int) : Option Int :=
  if (if (j1.2 == 0) = true then (j1.1 == 0) else false) = true then
    some (0 : Int)
  else
    some (W (j1.2 + 1))
def rice_width_L1 (a2 : Int × Int) : Option ((Int × Int) ⊕ Int) :=
  if (if (a2.1 != 0) = true then (a2.1 != (-1)) else false) = true then
    some (.inl ((shD .shr .i64 a2.1 1), (W (a2.2 + 1))))
  else
    Option.map .inr <|
    rice_width_K1 (a2.1, a2.2)
def rice_width (y0 : Int) : Option Int :=
  iter rice_width_L1 (y0, 0)
def rice_one (y0 : Int) (y1 : Int) (y2 : Int) : Option (Int × Bool) :=
  (rice_fold y0).bind fun r1 =>
  if (!r1.2) = true then
    some ((0 : Int), false)
  else
    if (y1 == (-1)) = true then
      (rice_width y0).bind fun r2 =>
      some (y2, (decide (r2 ≤ y2)))
    else
      need (decide (y1 ≥ 0)) <|
      need (decide (y1 ≥ 0)) <|
      some ((W ((W ((shD .shr .i64 r1.1 y1) + 1)) + y1)), (decide ((shD .shr .i64 r1.1 y1) ≤ 65536)))
def rice_some_K1 (j1 : Int) : Option (Int × Bool) :=
  some (j1, true)
def rice_some_L1 (y0 : List Int) (y1 : Int) (y2 : Int) (a2 : Int × Int) : Option ((Int × Int) ⊕ (Int × Bool)) :=
  if (decide (a2.2 < (y0.length : Int))) = true then
    (idx y0 a2.2).bind fun p3 =>
    (rice_one p3 y1 y2).bind fun r4 =>
    if (!r4.2) = true then
      Option.map .inr <|
      some ((0 : Int), false)
    else
      some (.inl ((W (a2.1 + r4.1)), (W (a2.2 + 1))))
  else
    Option.map .inr <|
    rice_some_K1 a2.1
def rice_some (y0 : List Int) (y1 : Int) (y2 : Int) : Option (Int × Bool) :=
  iter (rice_some_L1 y0 y1 y2) (0, 0)
def rice_cheapest_K2 (y1 : List Int) (j1 : Int × Int) (j2 : Int) : Option (Int × Int × Int) :=
  if (if (decide (j2 ≤ 31)) = true then (if (decide (j1.2 < 0)) = true then true else (decide ((W (5 + (W (j2 * (y1.length : Int))))) < j1.2))) else false) = true then
    some (((-1) : Int), j2, (W (5 + (W (j2 * (y1.length : Int))))))
  else
    some (j1.1, (0 : Int), j1.2)
def rice_cheapest_L1 (y1 : List Int) (j1 : Int × Int) (a3 : Int × Int) : Option ((Int × Int) ⊕ (Int × Int × Int)) :=
  if (decide (a3.2 < (y1.length : Int))) = true then
    (idx y1 a3.2).bind fun p4 =>
    (rice_width p4).bind fun r5 =>
    some (.inl ((if r5 > a3.1 then r5 else a3.1), (W (a3.2 + 1))))
  else
    Option.map .inr <|
    rice_cheapest_K2 y1 j1 a3.1
def rice_cheapest_K1 (y1 : List Int) (j1 : Int × Int) : Option (Int × Int × Int) :=
  iter (rice_cheapest_L1 y1 j1) (0, 0)
def rice_cheapest_K3 (a7 : Int × Int × Int) (j8 : Int × Int) : Option ((Int × Int × Int) ⊕ (Int × Int × Int)) :=
  some (.inl (j8.1, j8.2, (W (a7.2.2 + 1))))
def rice_cheapest_L2 (y1 : List Int) (r6 : Int) (a7 : Int × Int × Int) : Option ((Int × Int × Int) ⊕ (Int × Int × Int)) :=
  if (decide (a7.2.2 < r6)) = true then
    (rice_some y1 a7.2.2 (0 : Int)).bind fun r9 =>
    if (if r9.2 = true then (if (decide (a7.2.1 < 0)) = true then true else (decide (r9.1 < a7.2.1))) else false) = true then
      rice_cheapest_K3 a7 (a7.2.2, r9.1)
    else
      rice_cheapest_K3 a7 (a7.1, a7.2.1)
  else
    Option.map .inr <|
    rice_cheapest_K1 y1 (a7.1, a7.2.1)
def rice_cheapest (y0 : Int) (y1 : List Int) : Option (Int × Int × Int) :=
  (rice_escape y0).bind fun r6 =>
  iter (rice_cheapest_L2 y1 r6) (0, (-1), 0)
def rice_Best_K2 (j3 : Int × Int × (List Int) × (List Int)) : Option (rice_Plan × Int) :=
  some ((⟨j3.1, j3.2.1, j3.2.2.1, j3.2.2.2⟩ : rice_Plan), (0 : Int))
def rice_Best_K3 (a4 : Int × Int × Int × Int × (List Int) × (List Int)) (j5 : Int × Int × Int × (List Int) × (List Int)) : Option ((Int × Int × Int × Int × (List Int) × (List Int)) ⊕ (rice_Plan × Int)) :=
  some (.inl (j5.1, (W (a4.2.1 + 1)), j5.2.1, j5.2.2.1, j5.2.2.2.1, j5.2.2.2.2))
def rice_Best_K4 (a6 : Int × Int × Int × Int × (List Int) × (List Int)) (j7 : Int × Int × Int × (List Int) × (List Int)) : Option ((Int × Int × Int × Int × (List Int) × (List Int)) ⊕ ((Int × Int × Int × Int × (List Int) × (List Int)) ⊕ (rice_Plan × Int))) :=
  some (.inl (j7.1, (W (a6.2.1 + 1)), j7.2.1, j7.2.2.1, j7.2.2.2.1, j7.2.2.2.2))
def rice_Best_K5 (a4 : Int × Int × Int × Int × (List Int) × (List Int)) (a6 : Int × Int × Int × Int × (List Int) × (List Int)) (j9 : Int × (List Int) × (List Int)) : Option ((Int × Int × Int × Int × (List Int) × (List Int)) ⊕ ((Int × Int × Int × Int × (List Int) × (List Int)) ⊕ (rice_Plan × Int))) :=
  if (if (decide (a6.1 < 0)) = true then true else (decide (j9.1 < a6.1))) = true then
    rice_Best_K4 a6 (j9.1, a4.2.1, a6.2.1, j9.2.1, j9.2.2)
  else
    rice_Best_K4 a6 (a6.1, a6.2.2.1, a6.2.2.2.1, a6.2.2.2.2.1, a6.2.2.2.2.2)
def rice_Best_K6 (a4 : Int × Int × Int × Int × (List Int) × (List Int)) (a14 : Int × (List Int) × (List Int)) (r17 : Int × Int × Int) (j18 : (List Int) × (List Int)) : Option ((Int × (List Int) × (List Int)) ⊕ (Int × (List Int) × (List Int))) :=
  some (.inl ((W (a14.1 + (W ((W (r17.2.2 + 4)) + a4.2.1)))), j18.1, j18.2))
def rice_Best_L3 (y2 : List Int) (a4 : Int × Int × Int × Int × (List Int) × (List Int)) (p13 : Int × (Arr2 Int)) (a14 : Int × (List Int) × (List Int)) : Option ((Int × (List Int) × (List Int)) ⊕ (Int × (List Int) × (List Int))) :=
  (sub y2 p13.2.a0 p13.2.a1).bind fun l16 =>
  (rice_cheapest a4.2.1 l16).bind fun r17 =>
  if (decide (r17.2.2 < 0)) = true then
    some (.inr (a14.1, a14.2.1, a14.2.2))
  else
    (app 8 a14.2.1 [r17.1]).bind fun l19 =>
    (app 8 a14.2.2 [r17.2.1]).bind fun l20 =>
    rice_Best_K6 a4 a14 r17 (l19, l20)
def rice_Best_K7 (a4 : Int × Int × Int × Int × (List Int) × (List Int)) (a6 : Int × Int × Int × Int × (List Int) × (List Int)) (a14 : Int × (List Int) × (List Int)) : Option ((Int × Int × Int × Int × (List Int) × (List Int)) ⊕ ((Int × Int × Int × Int × (List Int) × (List Int)) ⊕ (rice_Plan × Int))) :=
  rice_Best_K5 a4 a6 (a14.1, a14.2.1, a14.2.2)
def rice_Best_K8 (a6 : Int × Int × Int × Int × (List Int) × (List Int)) (b15 : Int × (List Int) × (List Int)) : Option ((Int × Int × Int × Int × (List Int) × (List Int)) ⊕ ((Int × Int × Int × Int × (List Int) × (List Int)) ⊕ (rice_Plan × Int))) :=
  rice_Best_K4 a6 (a6.1, a6.2.2.1, a6.2.2.2.1, a6.2.2.2.2.1, a6.2.2.2.2.2)
def rice_Best_L2 (y0 : Int) (y1 : Int) (y2 : List Int) (a4 : Int × Int × Int × Int × (List Int) × (List Int)) (a6 : Int × Int × Int × Int × (List Int) × (List Int)) : Option ((Int × Int × Int × Int × (List Int) × (List Int)) ⊕ ((Int × Int × Int × Int × (List Int) × (List Int)) ⊕ (rice_Plan × Int))) :=
  if (decide (a6.2.1 < (W (y0 + 1)))) = true then
    (rice_head a4.2.1 a6.2.1 (W ((y2.length : Int) + y1)) y1).bind fun r8 =>
    if (r8 != 0) = true then
      rice_Best_K4 a6 (a6.1, a6.2.2.1, a6.2.2.2.1, a6.2.2.2.2.1, a6.2.2.2.2.2)
    else
      lett ((W ((y2.length : Int) + y1))) fun t10 =>
      (rice_parts a6.2.1 t10 y1).bind fun r11 =>
      (partsF t10 a6.2.1 y1).bind fun e12 =>
      foldR (rice_Best_L3 y2 a4) (rice_Best_K7 a4 a6) (rice_Best_K8 a6) e12 (6, [], [])
  else
    Option.map .inr <|
    rice_Best_K3 a4 (a6.1, a6.2.2.1, a6.2.2.2.1, a6.2.2.2.2.1, a6.2.2.2.2.2)
def rice_Best_L1 (y0 : Int) (y1 : Int) (y2 : List Int) (a4 : Int × Int × Int × Int × (List Int) × (List Int)) : Option ((Int × Int × Int × Int × (List Int) × (List Int)) ⊕ (rice_Plan × Int)) :=
  if (decide (a4.2.1 < 2)) = true then
    iter (rice_Best_L2 y0 y1 y2 a4) (a4.1, 0, a4.2.2.1, a4.2.2.2.1, a4.2.2.2.2.1, a4.2.2.2.2.2)
  else
    Option.map .inr <|
    rice_Best_K2 (a4.2.2.1, a4.2.2.2.1, a4.2.2.2.2.1, a4.2.2.2.2.2)
def rice_Best_K1 (y0 : Int) (y1 : Int) (y2 : List Int) (j2 : Unit) : Option (rice_Plan × Int) :=
  iter (rice_Best_L1 y0 y1 y2) ((-1), 0, 0, 0, [], [])
def rice_Best_L4 (y0 : Int) (y1 : Int) (y2 : List Int) (a97 : Int) : Option (Int ⊕ (rice_Plan × Int)) :=
  if (decide (a97 < (y2.length : Int))) = true then
    (idx y2 a97).bind fun p98 =>
    (rice_fold p98).bind fun r99 =>
    if (!r99.2) = true then
      Option.map .inr <|
      some ((⟨(0 : Int), (0 : Int), ([] : List Int), ([] : List Int)⟩ : rice_Plan), (10 : Int))
    else
      some (.inl (W (a97 + 1)))
  else
    Option.map .inr <|
    rice_Best_K1 y0 y1 y2 ()
def rice_Best (y0 : Int) (y1 : Int) (y2 : List Int) : Option (rice_Plan × Int) :=
  if (if (decide (y0 < 0)) = true then true else (decide (y0 > 15))) = true then
    some ((⟨(0 : Int), (0 : Int), ([] : List Int), ([] : List Int)⟩ : rice_Plan), (10 : Int))
  else
    (rice_head (0 : Int) (0 : Int) (W ((y2.length : Int) + y1)) y1).bind fun r1 =>
    if (r1 != 0) = true then
      some ((⟨(0 : Int), (0 : Int), ([] : List Int), ([] : List Int)⟩ : rice_Plan), r1)
    else
      iter (rice_Best_L4 y0 y1 y2) 0
def rice_Check_K2 (j3 : Unit) : Option Int :=
  some (0 : Int)
def rice_Check_K3 (a4 : Int) (j5 : Unit) : Option (Int ⊕ Int) :=
  some (.inl (W (a4 + 1)))
def rice_Check_L1 (y0 : rice_Plan) (a4 : Int) : Option (Int ⊕ Int) :=
  if (decide (a4 < (y0.Params.length : Int))) = true then
    (idx y0.Params a4).bind fun p6 =>
    if (p6 == (-1)) = true then
      (idx y0.Bits a4).bind fun p7 =>
      if (decide (p7 ≥ 0)) = true then
        (idx y0.Bits a4).bind fun p8 =>
        if (decide (p8 ≤ 31)) = true then
          rice_Check_K3 a4 ()
        else
          if (decide (p6 ≥ 0)) = true then
            (rice_escape y0.Method).bind fun r9 =>
            if (decide (p6 < r9)) = true then
              (idx y0.Bits a4).bind fun p10 =>
              if (p10 == 0) = true then
                rice_Check_K3 a4 ()
              else
                Option.map .inr <|
                some (10 : Int)
            else
              Option.map .inr <|
              some (10 : Int)
          else
            Option.map .inr <|
            some (10 : Int)
      else
        if (decide (p6 ≥ 0)) = true then
          (rice_escape y0.Method).bind fun r11 =>
          if (decide (p6 < r11)) = true then
            (idx y0.Bits a4).bind fun p12 =>
            if (p12 == 0) = true then
              rice_Check_K3 a4 ()
            else
              Option.map .inr <|
              some (10 : Int)
          else
            Option.map .inr <|
            some (10 : Int)
        else
          Option.map .inr <|
          some (10 : Int)
    else
      if (decide (p6 ≥ 0)) = true then
        (rice_escape y0.Method).bind fun r13 =>
        if (decide (p6 < r13)) = true then
          (idx y0.Bits a4).bind fun p14 =>
          if (p14 == 0) = true then
            rice_Check_K3 a4 ()
          else
            Option.map .inr <|
            some (10 : Int)
        else
          Option.map .inr <|
          some (10 : Int)
      else
        Option.map .inr <|
        some (10 : Int)
  else
    Option.map .inr <|
    rice_Check_K2 ()
def rice_Check_K1 (y0 : rice_Plan) (j2 : Bool) : Option Int :=
  if j2 = true then
    some (1 : Int)
  else
    iter (rice_Check_L1 y0) 0
def rice_Check (y0 : rice_Plan) (y1 : Int) (y2 : Int) : Option Int :=
  (rice_head y0.Method y0.Order y1 y2).bind fun r1 =>
  if (r1 != 0) = true then
    some r1
  else
    need (decide (y0.Order ≥ 0)) <|
    if ((y0.Params.length : Int) != (shD .shl .i64 1 y0.Order)) = true then
      rice_Check_K1 y0 true
    else
      need (decide (y0.Order ≥ 0)) <|
      rice_Check_K1 y0 ((y0.Bits.length : Int) != (shD .shl .i64 1 y0.Order))
def rice_Size_K1 (j2 : Int) : Option (Int × Int) :=
  some (j2, (0 : Int))
def rice_Size_L1 (y0 : rice_Plan) (y2 : List Int) (p6 : Int × (Arr2 Int)) (a7 : Int) : Option (Int ⊕ Int) :=
  (sub y2 p6.2.a0 p6.2.a1).bind fun l9 =>
  (idx y0.Params p6.1).bind fun p10 =>
  (idx y0.Bits p6.1).bind fun p11 =>
  (rice_some l9 p10 p11).bind fun r12 =>
  if (!r12.2) = true then
    some (.inr a7)
  else
    (idx y0.Params p6.1).bind fun p13 =>
    if (p13 == (-1)) = true then
      some (.inl (W ((W (a7 + (W ((W (r12.1 + 4)) + y0.Method)))) + 5)))
    else
      some (.inl (W (a7 + (W ((W (r12.1 + 4)) + y0.Method)))))
def rice_Size_K2 (a7 : Int) : Option (Int × Int) :=
  rice_Size_K1 a7
def rice_Size_K3 (b8 : Int) : Option (Int × Int) :=
  some ((0 : Int), (10 : Int))
def rice_Size (y0 : rice_Plan) (y1 : Int) (y2 : List Int) : Option (Int × Int) :=
  (rice_Check y0 (W ((y2.length : Int) + y1)) y1).bind fun r1 =>
  if (r1 != 0) = true then
    some ((0 : Int), r1)
  else
    lett ((W ((y2.length : Int) + y1))) fun t3 =>
    (rice_parts y0.Order t3 y1).bind fun r4 =>
    (partsF t3 y0.Order y1).bind fun e5 =>
    foldR (rice_Size_L1 y0 y2) rice_Size_K2 rice_Size_K3 e5 6
def subframe_Best_K1 (y0 : Int) (r3 : Int) (r4 : (List Int) × Bool) (j6 : Int) : Option (subframe_Plan × Int) :=
  (subframe_how (⟨(2 : Int), j6, r3, (⟨(0 : Int), (0 : Int), ([] : List Int)⟩ : predict_Linear), (⟨(0 : Int), (0 : Int), ([] : List Int), ([] : List Int)⟩ : rice_Plan)⟩ : subframe_Plan)).bind fun r7 =>
  (predict_Residual r7 r4.1).bind fun r8 =>
  (rice_Best (4 : Int) j6 r8.1).bind fun r9 =>
  if (r9.2 != 0) = true then
    some ((⟨(1 : Int), (0 : Int), r3, (⟨(0 : Int), (0 : Int), ([] : List Int)⟩ : predict_Linear), (⟨(0 : Int), (0 : Int), ([] : List Int), ([] : List Int)⟩ : rice_Plan)⟩ : subframe_Plan), (0 : Int))
  else
    (rice_Size r9.1 j6 r8.1).bind fun r10 =>
    if (if (r10.2 == 0) = true then (decide ((W (r10.1 + (W (j6 * (W (y0 - r3)))))) < (W ((r4.1.length : Int) * (W (y0 - r3)))))) else false) = true then
      some ((⟨(2 : Int), j6, r3, (⟨(0 : Int), (0 : Int), ([] : List Int)⟩ : predict_Linear), r9.1⟩ : subframe_Plan), (0 : Int))
    else
      some ((⟨(1 : Int), (0 : Int), r3, (⟨(0 : Int), (0 : Int), ([] : List Int)⟩ : predict_Linear), (⟨(0 : Int), (0 : Int), ([] : List Int), ([] : List Int)⟩ : rice_Plan)⟩ : subframe_Plan), (0 : Int))
def subframe_Best (y0 : Int) (y1 : List Int) : Option (subframe_Plan × Int) :=
  (subframe_sizes (y1.length : Int) y0).bind fun r1 =>
  if (r1 != 0) = true then
    some ((⟨(0 : Int), (0 : Int), (0 : Int), (⟨(0 : Int), (0 : Int), ([] : List Int)⟩ : predict_Linear), (⟨(0 : Int), (0 : Int), ([] : List Int), ([] : List Int)⟩ : rice_Plan)⟩ : subframe_Plan), r1)
  else
    (subframe_fits y0 y1).bind fun r2 =>
    if (!r2) = true then
      some ((⟨(0 : Int), (0 : Int), (0 : Int), (⟨(0 : Int), (0 : Int), ([] : List Int)⟩ : predict_Linear), (⟨(0 : Int), (0 : Int), ([] : List Int), ([] : List Int)⟩ : rice_Plan)⟩ : subframe_Plan), (10 : Int))
    else
      (subframe_wasted y1).bind fun r3 =>
      (subframe_less r3 y1).bind fun r4 =>
      (subframe_same r4.1).bind fun r5 =>
      if r5 = true then
        some ((⟨(0 : Int), (0 : Int), r3, (⟨(0 : Int), (0 : Int), ([] : List Int)⟩ : predict_Linear), (⟨(0 : Int), (0 : Int), ([] : List Int), ([] : List Int)⟩ : rice_Plan)⟩ : subframe_Plan), (0 : Int))
      else
        (predict_Best r4.1).bind fun r11 =>
        subframe_Best_K1 y0 r3 r4 r11
def bits_NewWriter : Option Unit :=
  some ()
def subframe_shape_K1 (y0 : subframe_Plan) (y1 : Int) (j1 : Int × Int) : Option Int :=
  if (if (if (if (if (if (decide (y0.Kind < 0)) = true then true else (decide (y0.Kind > 3))) = true then true else (decide (y0.Wasted < 0))) = true then true else (decide (y0.Wasted ≥ y1))) = true then true else (decide (y0.Order < j1.1))) = true then true else (decide (y0.Order > j1.2))) = true then
    some (10 : Int)
  else
    if (if (if (if (decide (y0.Kind < 3)) = true then (!(if (if (y0.Linear.Precision == 0) = true then (y0.Linear.Shift == 0) else false) = true then ((y0.Linear.Coefs.length : Int) == 0) else false)) else false) = true then true else (if (decide (y0.Kind < 2)) = true then (!(if (if (if (y0.Rice.Method == 0) = true then (y0.Rice.Order == 0) else false) = true then ((y0.Rice.Params.length : Int) == 0) else false) = true then ((y0.Rice.Bits.length : Int) == 0) else false)) else false)) = true then true else (if (y0.Kind == 3) = true then ((y0.Linear.Coefs.length : Int) != y0.Order) else false)) = true then
      some (1 : Int)
    else
      some (0 : Int)
def subframe_shape (y0 : subframe_Plan) (y1 : Int) : Option Int :=
  if (y0.Kind == 2) = true then
    subframe_shape_K1 y0 y1 (0, 4)
  else
    if (y0.Kind == 3) = true then
      subframe_shape_K1 y0 y1 (1, 32)
    else
      subframe_shape_K1 y0 y1 (0, 0)
def subframe_check_K1 (r3 : (List Int) × Bool) (r10 : (List Int) × Int) (j11 : Int) : Option ((List Int) × (List Int) × Int) :=
  some (r3.1, r10.1, j11)
def subframe_check (y0 : subframe_Plan) (y1 : Int) (y2 : List Int) : Option ((List Int) × (List Int) × Int) :=
  (subframe_sizes (y2.length : Int) y1).bind fun r1 =>
  if (r1 != 0) = true then
    some (([] : List Int), ([] : List Int), r1)
  else
    (subframe_shape y0 y1).bind fun r2 =>
    if (r2 != 0) = true then
      some (([] : List Int), ([] : List Int), r2)
    else
      (subframe_less y0.Wasted y2).bind fun r3 =>
      if (!r3.2) = true then
        some (([] : List Int), ([] : List Int), (10 : Int))
      else
        (subframe_fits y1 y2).bind fun r4 =>
        if (!r4) = true then
          some (([] : List Int), ([] : List Int), (10 : Int))
        else
          if (y0.Kind == 0) = true then
            (subframe_same r3.1).bind fun r5 =>
            if (!r5) = true then
              some (([] : List Int), ([] : List Int), (12 : Int))
            else
              if (decide (y0.Kind < 2)) = true then
                some (r3.1, ([] : List Int), (0 : Int))
              else
                (subframe_how y0).bind fun r6 =>
                (predict_Check r6).bind fun r7 =>
                if (r7 != 0) = true then
                  some (([] : List Int), ([] : List Int), r7)
                else
                  (rice_Check y0.Rice (r3.1.length : Int) y0.Order).bind fun r8 =>
                  if (r8 != 0) = true then
                    some (([] : List Int), ([] : List Int), r8)
                  else
                    (subframe_how y0).bind fun r9 =>
                    (predict_Residual r9 r3.1).bind fun r10 =>
                    if (r10.2 == 0) = true then
                      (rice_Size y0.Rice y0.Order r10.1).bind fun r12 =>
                      subframe_check_K1 r3 r10 r12.2
                    else
                      subframe_check_K1 r3 r10 r10.2
          else
            if (decide (y0.Kind < 2)) = true then
              some (r3.1, ([] : List Int), (0 : Int))
            else
              (subframe_how y0).bind fun r13 =>
              (predict_Check r13).bind fun r14 =>
              if (r14 != 0) = true then
                some (([] : List Int), ([] : List Int), r14)
              else
                (rice_Check y0.Rice (r3.1.length : Int) y0.Order).bind fun r15 =>
                if (r15 != 0) = true then
                  some (([] : List Int), ([] : List Int), r15)
                else
                  (subframe_how y0).bind fun r16 =>
                  (predict_Residual r16 r3.1).bind fun r17 =>
                  if (r17.2 == 0) = true then
                    (rice_Size y0.Rice y0.Order r17.1).bind fun r19 =>
                    subframe_check_K1 r3 r17 r19.2
                  else
                    subframe_check_K1 r3 r17 r17.2
def bits_place_rest (y0 : bits_place) : Option Int :=
  some ((W (8 - (y0.m_at.tmod 8))).tmod 8)
def bits_Writer_put_K2 (y1 : Int) (a1 : Int × Int × (List Int)) (j2 : (List Int)) (j4 : Int) : Option ((Int × Int × (List Int)) ⊕ (Int × (List Int))) :=
  need (decide ((W (a1.2.1.tdiv 8)) ≥ 0)) <|
  need (decide ((W (a1.2.1.tdiv 8)) < (j2.length : Int))) <|
  need (decide ((W (a1.1 - j4)) ≥ 0)) <|
  need (decide (j4 ≥ 0)) <|
  need (decide ((W ((W (8 - (a1.2.1.tmod 8))) - j4)) ≥ 0)) <|
  (idx j2 (W (a1.2.1.tdiv 8))).bind fun p5 =>
  need (decide ((W (a1.2.1.tdiv 8)) ≥ 0)) <|
  need (decide ((W (a1.2.1.tdiv 8)) < (j2.length : Int))) <|
  (upd j2 (W (a1.2.1.tdiv 8)) (arD .or .u8 p5 (IntKind.u8.wrap (shD .shl .i64 (arD .and .i64 (shD .shr .i64 y1 (W (a1.1 - j4))) (W ((shD .shl .i64 1 j4) - 1))) (W ((W (8 - (a1.2.1.tmod 8))) - j4)))))).bind fun l6 =>
  some (.inl ((W (a1.1 - j4)), (W (a1.2.1 + j4)), l6))
def bits_Writer_put_K1 (y1 : Int) (a1 : Int × Int × (List Int)) (j2 : (List Int)) : Option ((Int × Int × (List Int)) ⊕ (Int × (List Int))) :=
  (bits_place_rest (⟨a1.2.1⟩ : bits_place)).bind fun r3 =>
  if ((a1.2.1.tmod 8) == 0) = true then
    bits_Writer_put_K2 y1 a1 j2 (if (8 : Int) < a1.1 then 8 else a1.1)
  else
    bits_Writer_put_K2 y1 a1 j2 (if r3 < a1.1 then r3 else a1.1)
def bits_Writer_put_L1 (y1 : Int) (a1 : Int × Int × (List Int)) : Option ((Int × Int × (List Int)) ⊕ (Int × (List Int))) :=
  if (decide (a1.1 > 0)) = true then
    if ((a1.2.1.tmod 8) == 0) = true then
      (app 1 a1.2.2 [(0 : Int)]).bind fun l7 =>
      bits_Writer_put_K1 y1 a1 l7
    else
      bits_Writer_put_K1 y1 a1 a1.2.2
  else
    Option.map .inr <|
    some (a1.2.1, a1.2.2)
def bits_Writer_put (y0 : Int) (y1 : Int) (y2 : Int) (y3 : List Int) : Option (Int × (List Int)) :=
  iter (bits_Writer_put_L1 y1) (y0, y2, y3)
def bits_Writer_Put (y0 : Int) (y1 : Int) (y2 : Int) (y3 : List Int) : Option (Int × Int × (List Int)) :=
  if (if (decide (y0 < 0)) = true then true else (decide (y0 > 48))) = true then
    some (1, y2, y3)
  else
    if (decide (y1 < 0)) = true then
      some (10, y2, y3)
    else
      need (decide (y0 ≥ 0)) <|
      if (decide (y1 ≥ (shD .shl .i64 1 y0))) = true then
        some (10, y2, y3)
      else
        (bits_Writer_put y0 y1 y2 y3).bind fun r1 =>
        some (0, r1.1, r1.2)
def bits_Writer_Unary_K1 (j1 : Int × Int × (List Int)) : Option (Int × Int × (List Int)) :=
  (bits_Writer_put j1.1 (0 : Int) j1.2.1 j1.2.2).bind fun r2 =>
  (bits_Writer_put (1 : Int) (1 : Int) r2.1 r2.2).bind fun r3 =>
  some (0, r3.1, r3.2)
def bits_Writer_Unary_L1 (a4 : Int × Int × (List Int)) : Option ((Int × Int × (List Int)) ⊕ (Int × Int × (List Int))) :=
  if (decide (a4.1 > 48)) = true then
    (bits_Writer_put (48 : Int) (0 : Int) a4.2.1 a4.2.2).bind fun r5 =>
    some (.inl ((W (a4.1 - 48)), r5.1, r5.2))
  else
    Option.map .inr <|
    bits_Writer_Unary_K1 (a4.1, a4.2.1, a4.2.2)
def bits_Writer_Unary (y0 : Int) (y1 : Int) (y2 : List Int) : Option (Int × Int × (List Int)) :=
  if (if (decide (y0 < 0)) = true then true else (decide (y0 > 65536))) = true then
    some (10, y1, y2)
  else
    iter bits_Writer_Unary_L1 (y0, y1, y2)
def bits_Writer_Signed (y0 : Int) (y1 : Int) (y2 : Int) (y3 : List Int) : Option (Int × Int × (List Int)) :=
  if (if (decide (y0 < 0)) = true then true else (decide (y0 > 48))) = true then
    some (1, y2, y3)
  else
    if (if (y0 == 0) = true then (y1 != 0) else false) = true then
      none
    else
      if (decide (y0 > 0)) = true then
        need (decide ((W (y0 - 1)) ≥ 0)) <|
        if (decide (y1 < (shD .shl .i64 (-1) (W (y0 - 1))))) = true then
          some (10, y2, y3)
        else
          need (decide ((W (y0 - 1)) ≥ 0)) <|
          if (decide (y1 ≥ (shD .shl .i64 1 (W (y0 - 1))))) = true then
            some (10, y2, y3)
          else
            need (decide (y0 ≥ 0)) <|
            lett ((arD .and .i64 y1 (W ((shD .shl .i64 1 y0) - 1)))) fun t1 =>
            (bits_Writer_put y0 t1 y2 y3).bind fun r2 =>
            some (0, r2.1, r2.2)
      else
        need (decide (y0 ≥ 0)) <|
        lett ((arD .and .i64 y1 (W ((shD .shl .i64 1 y0) - 1)))) fun t3 =>
        (bits_Writer_put y0 t3 y2 y3).bind fun r4 =>
        some (0, r4.1, r4.2)
def rice_Write_K1 (j4 : Int × (List Int)) : Option (Int × Int × (List Int)) :=
  some (0, j4.1, j4.2)
def rice_Write_K3 (a14 : Int × Int × (List Int)) (j15 : Int × (List Int)) : Option ((Int × Int × (List Int)) ⊕ ((Int × (List Int)) ⊕ Empty)) :=
  some (.inl ((W (a14.1 + 1)), j15.1, j15.2))
def rice_Write_L2 (y0 : rice_Plan) (p8 : Int × (Arr2 Int)) (p11 : Int) (l13 : List Int) (a14 : Int × Int × (List Int)) : Option ((Int × Int × (List Int)) ⊕ ((Int × (List Int)) ⊕ Empty)) :=
  if (decide (a14.1 < (l13.length : Int))) = true then
    (idx l13 a14.1).bind fun p16 =>
    if (p11 == (-1)) = true then
      (idx y0.Bits p8.1).bind fun p17 =>
      (bits_Writer_Signed p17 p16 a14.2.1 a14.2.2).bind fun r18 =>
      rice_Write_K3 a14 (r18.2.1, r18.2.2)
    else
      (rice_fold p16).bind fun r19 =>
      need (decide (p11 ≥ 0)) <|
      lett ((shD .shr .i64 r19.1 p11)) fun t20 =>
      (bits_Writer_Unary t20 a14.2.1 a14.2.2).bind fun r21 =>
      need (decide (p11 ≥ 0)) <|
      lett ((arD .and .i64 r19.1 (W ((shD .shl .i64 1 p11) - 1)))) fun t22 =>
      (bits_Writer_Put p11 t22 r21.2.1 r21.2.2).bind fun r23 =>
      rice_Write_K3 a14 (r23.2.1, r23.2.2)
  else
    Option.map .inr <|
    some (.inl (a14.2.1, a14.2.2))
def rice_Write_K2 (y0 : rice_Plan) (y2 : List Int) (p8 : Int × (Arr2 Int)) (p11 : Int) (j12 : Int × (List Int)) : Option ((Int × (List Int)) ⊕ Empty) :=
  (sub y2 p8.2.a0 p8.2.a1).bind fun l13 =>
  iter (rice_Write_L2 y0 p8 p11 l13) (0, j12.1, j12.2)
def rice_Write_L1 (y0 : rice_Plan) (y2 : List Int) (p8 : Int × (Arr2 Int)) (a9 : Int × (List Int)) : Option ((Int × (List Int)) ⊕ Empty) :=
  (idx y0.Params p8.1).bind fun p11 =>
  if (p11 == (-1)) = true then
    (rice_escape y0.Method).bind fun r24 =>
    lett ((W (4 + y0.Method))) fun t25 =>
    (bits_Writer_Put t25 r24 a9.1 a9.2).bind fun r26 =>
    (idx y0.Bits p8.1).bind fun p27 =>
    (bits_Writer_Put (5 : Int) p27 r26.2.1 r26.2.2).bind fun r28 =>
    rice_Write_K2 y0 y2 p8 p11 (r28.2.1, r28.2.2)
  else
    lett ((W (4 + y0.Method))) fun t29 =>
    (bits_Writer_Put t29 p11 a9.1 a9.2).bind fun r30 =>
    rice_Write_K2 y0 y2 p8 p11 (r30.2.1, r30.2.2)
def rice_Write_K4 (a9 : Int × (List Int)) : Option (Int × Int × (List Int)) :=
  rice_Write_K1 (a9.1, a9.2)
def rice_Write (y0 : rice_Plan) (y1 : Int) (y2 : List Int) (y3 : Int) (y4 : List Int) : Option (Int × Int × (List Int)) :=
  (rice_Size y0 y1 y2).bind fun r1 =>
  if (r1.2 != 0) = true then
    some (r1.2, y3, y4)
  else
    (bits_Writer_Put (2 : Int) y0.Method y3 y4).bind fun r2 =>
    (bits_Writer_Put (4 : Int) y0.Order r2.2.1 r2.2.2).bind fun r3 =>
    lett ((W ((y2.length : Int) + y1))) fun t5 =>
    (rice_parts y0.Order t5 y1).bind fun r6 =>
    (partsF t5 y0.Order y1).bind fun e7 =>
    foldR (rice_Write_L1 y0 y2) rice_Write_K4 ((fun b => nomatch b)) e7 (r3.2.1, r3.2.2)
def subframe_Write_K3 (j6 : Int × (List Int)) (j7 : Unit) : Option (Int × Int × (List Int)) :=
  some (0, j6.1, j6.2)
def subframe_Write_K4 (y0 : subframe_Plan) (r1 : (List Int) × (List Int) × Int) (j8 : Int × (List Int)) : Option (Int × Int × (List Int)) :=
  (rice_Write y0.Rice y0.Order r1.2.1 j8.1 j8.2).bind fun r9 =>
  some (r9.1, r9.2.1, r9.2.2)
def subframe_Write_L1 (y0 : subframe_Plan) (r1 : (List Int) × (List Int) × Int) (a13 : Int × Int × (List Int)) : Option ((Int × Int × (List Int)) ⊕ (Int × Int × (List Int))) :=
  if (decide (a13.1 < (y0.Linear.Coefs.length : Int))) = true then
    (idx y0.Linear.Coefs a13.1).bind fun p14 =>
    (bits_Writer_Signed y0.Linear.Precision p14 a13.2.1 a13.2.2).bind fun r15 =>
    some (.inl ((W (a13.1 + 1)), r15.2.1, r15.2.2))
  else
    Option.map .inr <|
    subframe_Write_K4 y0 r1 (a13.2.1, a13.2.2)
def subframe_Write_K2 (y0 : subframe_Plan) (r1 : (List Int) × (List Int) × Int) (j6 : Int × (List Int)) : Option (Int × Int × (List Int)) :=
  if (y0.Kind == 3) = true then
    lett ((W (y0.Linear.Precision - 1))) fun t10 =>
    (bits_Writer_Put (4 : Int) t10 j6.1 j6.2).bind fun r11 =>
    (bits_Writer_Signed (5 : Int) y0.Linear.Shift r11.2.1 r11.2.2).bind fun r12 =>
    iter (subframe_Write_L1 y0 r1) (0, r12.2.1, r12.2.2)
  else
    if (y0.Kind == 2) = true then
      subframe_Write_K4 y0 r1 (j6.1, j6.2)
    else
      subframe_Write_K3 j6 ()
def subframe_Write_L2 (y0 : subframe_Plan) (y1 : Int) (r1 : (List Int) × (List Int) × Int) (l16 : List Int) (a17 : Int × Int × (List Int)) : Option ((Int × Int × (List Int)) ⊕ (Int × Int × (List Int))) :=
  if (decide (a17.1 < (l16.length : Int))) = true then
    (idx l16 a17.1).bind fun p18 =>
    lett ((W (y1 - y0.Wasted))) fun t19 =>
    (bits_Writer_Signed t19 p18 a17.2.1 a17.2.2).bind fun r20 =>
    some (.inl ((W (a17.1 + 1)), r20.2.1, r20.2.2))
  else
    Option.map .inr <|
    subframe_Write_K2 y0 r1 (a17.2.1, a17.2.2)
def subframe_Write_K1 (y0 : subframe_Plan) (y1 : Int) (r1 : (List Int) × (List Int) × Int) (j4 : Int × (List Int)) : Option (Int × Int × (List Int)) :=
  (idx [(1 : Int), (r1.1.length : Int), y0.Order, y0.Order] y0.Kind).bind fun p5 =>
  (sub r1.1 0 p5).bind fun l16 =>
  iter (subframe_Write_L2 y0 y1 r1 l16) (0, j4.1, j4.2)
def subframe_Write (y0 : subframe_Plan) (y1 : Int) (y2 : List Int) (y3 : Int) (y4 : List Int) : Option (Int × Int × (List Int)) :=
  (subframe_check y0 y1 y2).bind fun r1 =>
  if (r1.2.2 != 0) = true then
    some (r1.2.2, y3, y4)
  else
    (idx [(0 : Int), (1 : Int), (W (8 + y0.Order)), (W (31 + y0.Order))] y0.Kind).bind fun p2 =>
    (bits_Writer_Put (7 : Int) p2 y3 y4).bind fun r3 =>
    if (y0.Wasted == 0) = true then
      (bits_Writer_Put (1 : Int) (0 : Int) r3.2.1 r3.2.2).bind fun r21 =>
      subframe_Write_K1 y0 y1 r1 (r21.2.1, r21.2.2)
    else
      (bits_Writer_Put (1 : Int) (1 : Int) r3.2.1 r3.2.2).bind fun r22 =>
      lett ((W (y0.Wasted - 1))) fun t23 =>
      (bits_Writer_Unary t23 r22.2.1 r22.2.2).bind fun r24 =>
      subframe_Write_K1 y0 y1 r1 (r24.2.1, r24.2.2)
def bits_Writer_Len (y0 : Int) (y1 : List Int) : Option Unit :=
  some ()
def slices_Clone_sbyte_byte (y0 : List Int) : Option (List Int) :=
  (app 1 ([] : List Int) y0).bind fun l1 =>
  some l1
def bits_Writer_Bytes (y0 : Int) (y1 : List Int) : Option (List Int) :=
  (slices_Clone_sbyte_byte y1).bind fun r1 =>
  some r1
def jetsamlaw01_Bytes_K1 (j1 : Unit) : Option Bool :=
  some true
def jetsamlaw01_Bytes_L1 (y0 : List Int) (y1 : List Int) (a2 : Int) : Option (Int ⊕ Bool) :=
  if (decide (a2 < (y0.length : Int))) = true then
    (idx y0 a2).bind fun p3 =>
    (idx y1 a2).bind fun p4 =>
    if (p3 != p4) = true then
      Option.map .inr <|
      some false
    else
      some (.inl (W (a2 + 1)))
  else
    Option.map .inr <|
    jetsamlaw01_Bytes_K1 ()
def jetsamlaw01_Bytes (y0 : List Int) (y1 : List Int) : Option Bool :=
  if ((y0.length : Int) != (y1.length : Int)) = true then
    some false
  else
    iter (jetsamlaw01_Bytes_L1 y0 y1) 0
def jetsamlaw07_awake : Option Bool :=
  (subframe_Best (8 : Int) [(4 : Int), (4 : Int), (4 : Int)]).bind fun r1 =>
  bits_NewWriter.bind fun r2 =>
  (subframe_Write r1.1 (8 : Int) [(4 : Int), (4 : Int), (4 : Int)] (0 : Int) []).bind fun r3 =>
  if (if (if (if (r1.2 == 0) = true then (r3.1 == 0) else false) = true then (r1.1.Kind == 0) else false) = true then (r1.1.Wasted == 2) else false) = true then
    (bits_Writer_Len r3.2.1 r3.2.2).bind fun r4 =>
    if (r3.2.1 == 16) = true then
      (bits_Writer_Bytes r3.2.1 r3.2.2).bind fun r5 =>
      (jetsamlaw01_Bytes r5 [(1 : Int), (65 : Int)]).bind fun r6 =>
      some r6
    else
      some false
  else
    some false
def slices_Clone_sbyte_byte_x2 (y0 : List Int) : Option (List Int) :=
  (app 1 ([] : List Int) y0).bind fun l1 =>
  some l1
def bits_NewReader (y0 : List Int) : Option (List Int) :=
  (slices_Clone_sbyte_byte_x2 y0).bind fun r1 =>
  some r1
def bits_Reader_Seek (y0 : Int) (y1 : bits_Reader) : Option (Int × Int) :=
  if (if (decide (y0 < 0)) = true then true else (decide (y0 > (W ((y1.m_b.length : Int) * 8))))) = true then
    some (10, y1.m_place.m_at)
  else
    some (0, y0)
def bits_Reader_At (y0 : bits_Reader) : Option Unit :=
  some ()
def bits_Reader_Left (y0 : bits_Reader) : Option Unit :=
  some ()
def bits_Reader_Take_K1 (j2 : Int × Int × Int) : Option (Int × Int × Int) :=
  some (j2.1, 0, j2.2.1)
def bits_Reader_Take_L1 (y1 : bits_Reader) (a3 : Int × Int × Int × Int) : Option ((Int × Int × Int × Int) ⊕ (Int × Int × Int)) :=
  if (decide (a3.1 > 0)) = true then
    need (decide ((if (W (8 - (a3.2.2.1.tmod 8))) < a3.1 then (W (8 - (a3.2.2.1.tmod 8))) else a3.1) ≥ 0)) <|
    (idx y1.m_b (W (a3.2.2.1.tdiv 8))).bind fun p4 =>
    need (decide ((W ((W (8 - (a3.2.2.1.tmod 8))) - (if (W (8 - (a3.2.2.1.tmod 8))) < a3.1 then (W (8 - (a3.2.2.1.tmod 8))) else a3.1))) ≥ 0)) <|
    need (decide ((if (W (8 - (a3.2.2.1.tmod 8))) < a3.1 then (W (8 - (a3.2.2.1.tmod 8))) else a3.1) ≥ 0)) <|
    some (.inl ((W (a3.1 - (if (W (8 - (a3.2.2.1.tmod 8))) < a3.1 then (W (8 - (a3.2.2.1.tmod 8))) else a3.1))), (arD .or .i64 (shD .shl .i64 a3.2.1 (if (W (8 - (a3.2.2.1.tmod 8))) < a3.1 then (W (8 - (a3.2.2.1.tmod 8))) else a3.1)) (arD .and .i64 (shD .shr .i64 p4 (W ((W (8 - (a3.2.2.1.tmod 8))) - (if (W (8 - (a3.2.2.1.tmod 8))) < a3.1 then (W (8 - (a3.2.2.1.tmod 8))) else a3.1)))) (W ((shD .shl .i64 1 (if (W (8 - (a3.2.2.1.tmod 8))) < a3.1 then (W (8 - (a3.2.2.1.tmod 8))) else a3.1)) - 1)))), (W (a3.2.2.1 + (if (W (8 - (a3.2.2.1.tmod 8))) < a3.1 then (W (8 - (a3.2.2.1.tmod 8))) else a3.1))), (W (a3.2.2.1 + (if (W (8 - (a3.2.2.1.tmod 8))) < a3.1 then (W (8 - (a3.2.2.1.tmod 8))) else a3.1)))))
  else
    Option.map .inr <|
    bits_Reader_Take_K1 (a3.2.1, a3.2.2.1, a3.2.2.1)
def bits_Reader_Take (y0 : Int) (y1 : bits_Reader) : Option (Int × Int × Int) :=
  if (if (decide (y0 < 0)) = true then true else (decide (y0 > 48))) = true then
    some (0, 1, y1.m_place.m_at)
  else
    (bits_Reader_Left y1).bind fun r1 =>
    if (decide (y0 > (W ((W ((y1.m_b.length : Int) * 8)) - y1.m_place.m_at)))) = true then
      some (0, 11, y1.m_place.m_at)
    else
      iter (bits_Reader_Take_L1 y1) (y0, 0, y1.m_place.m_at, y1.m_place.m_at)
def subframe_reader_told (y0 : Int) (y1 : Int) (y2 : Int) (y3 : bits_Reader) : Option (Int × Int) :=
  if (y2 != 0) = true then
    some (0, y2)
  else
    some (y0, y1)
def subframe_reader_take (y0 : Int) (y1 : Int) (y2 : bits_Reader) : Option (Int × Int × Int) :=
  (bits_Reader_Take y0 y2).bind fun r1 =>
  (subframe_reader_told r1.1 r1.2.1 y1 (⟨(⟨r1.2.2⟩ : bits_place), y2.m_b⟩ : bits_Reader)).bind fun r2 =>
  some (r2.1, r2.2, r1.2.2)
def subframe_reader_wrong (y0 : Bool) (y1 : Int) (y2 : Int) (y3 : bits_Reader) : Option Int :=
  if (if y0 = true then (y2 == 0) else false) = true then
    some y1
  else
    some y2
def bits_Reader_bit (y0 : Int) (y1 : bits_Reader) : Option Int :=
  (idx y1.m_b (W (y0.tdiv 8))).bind fun p1 =>
  need (decide ((W (7 - (y0.tmod 8))) ≥ 0)) <|
  some (arD .and .i64 (shD .shr .u8 p1 (W (7 - (y0.tmod 8)))) 1)
def bits_Reader_Unary_K1 (y0 : bits_Reader) (j1 : Int) : Option (Int × Int × Int) :=
  if (decide (j1 ≥ (W ((y0.m_b.length : Int) * 8)))) = true then
    some (0, 11, y0.m_place.m_at)
  else
    some ((W (j1 - y0.m_place.m_at)), 0, (W (j1 + 1)))
def bits_Reader_Unary_L1 (y0 : bits_Reader) (a2 : Int) : Option (Int ⊕ (Int × Int × Int)) :=
  if (decide (a2 < (W ((y0.m_b.length : Int) * 8)))) = true then
    if ((a2.tmod 8) == 0) = true then
      (idx y0.m_b (W (a2.tdiv 8))).bind fun p3 =>
      if (p3 == 0) = true then
        some (.inl (W (a2 + 8)))
      else
        (bits_Reader_bit a2 y0).bind fun r4 =>
        if (r4 == 0) = true then
          some (.inl (W (a2 + 1)))
        else
          Option.map .inr <|
          bits_Reader_Unary_K1 y0 a2
    else
      (bits_Reader_bit a2 y0).bind fun r5 =>
      if (r5 == 0) = true then
        some (.inl (W (a2 + 1)))
      else
        Option.map .inr <|
        bits_Reader_Unary_K1 y0 a2
  else
    Option.map .inr <|
    bits_Reader_Unary_K1 y0 a2
def bits_Reader_Unary (y0 : bits_Reader) : Option (Int × Int × Int) :=
  iter (bits_Reader_Unary_L1 y0) y0.m_place.m_at
def subframe_reader_head_K2 (j5 : Int × Int × Int) (j6 : Int × Int × Int) : Option (Int × Int × Int × Int × Int) :=
  some (j5.2.1, j5.2.2, j6.2.2, j6.1, j6.2.1)
def subframe_reader_head_K1 (y0 : Int) (y2 : bits_Reader) (r4 : Int × Int × Int) (j5 : Int × Int × Int) : Option (Int × Int × Int × Int × Int) :=
  (subframe_reader_take (1 : Int) j5.1 (⟨(⟨r4.2.2⟩ : bits_place), y2.m_b⟩ : bits_Reader)).bind fun r7 =>
  if (r7.1 == 1) = true then
    (bits_Reader_Unary (⟨(⟨r7.2.2⟩ : bits_place), y2.m_b⟩ : bits_Reader)).bind fun r8 =>
    (subframe_reader_told r8.1 r8.2.1 r7.2.1 (⟨(⟨r8.2.2⟩ : bits_place), y2.m_b⟩ : bits_Reader)).bind fun r9 =>
    lett ((decide ((W (r9.1 + 1)) ≥ y0))) fun t10 =>
    (subframe_reader_wrong t10 (10 : Int) r9.2 (⟨(⟨r8.2.2⟩ : bits_place), y2.m_b⟩ : bits_Reader)).bind fun r11 =>
    subframe_reader_head_K2 j5 (r11, r8.2.2, (W (r9.1 + 1)))
  else
    subframe_reader_head_K2 j5 (r7.2.1, r7.2.2, 0)
def subframe_reader_head (y0 : Int) (y1 : Int) (y2 : bits_Reader) : Option (Int × Int × Int × Int × Int) :=
  (subframe_reader_take (1 : Int) y1 y2).bind fun r1 =>
  lett ((r1.1 == 1)) fun t2 =>
  (subframe_reader_wrong t2 (12 : Int) r1.2.1 (⟨(⟨r1.2.2⟩ : bits_place), y2.m_b⟩ : bits_Reader)).bind fun r3 =>
  (subframe_reader_take (6 : Int) r3 (⟨(⟨r1.2.2⟩ : bits_place), y2.m_b⟩ : bits_Reader)).bind fun r4 =>
  if (decide (r4.1 ≤ 1)) = true then
    subframe_reader_head_K1 y0 y2 r4 (r4.2.1, r4.1, 0)
  else
    if (if (decide (r4.1 ≥ 8)) = true then (decide (r4.1 ≤ 12)) else false) = true then
      subframe_reader_head_K1 y0 y2 r4 (r4.2.1, 2, (W (r4.1 - 8)))
    else
      if (decide (r4.1 > 31)) = true then
        subframe_reader_head_K1 y0 y2 r4 (r4.2.1, 3, (W (r4.1 - 31)))
      else
        (subframe_reader_wrong true (13 : Int) r4.2.1 (⟨(⟨r4.2.2⟩ : bits_place), y2.m_b⟩ : bits_Reader)).bind fun r12 =>
        subframe_reader_head_K1 y0 y2 r4 (r12, 0, 0)
def bits_Reader_Signed_K1 (r1 : Int × Int × Int) (j2 : Int) : Option (Int × Int × Int) :=
  some (j2, r1.2.1, r1.2.2)
def bits_Reader_Signed (y0 : Int) (y1 : bits_Reader) : Option (Int × Int × Int) :=
  (bits_Reader_Take y0 y1).bind fun r1 =>
  if (if (r1.2.1 == 0) = true then (decide (y0 > 0)) else false) = true then
    need (decide ((W (y0 - 1)) ≥ 0)) <|
    if ((shD .shr .i64 r1.1 (W (y0 - 1))) == 1) = true then
      need (decide (y0 ≥ 0)) <|
      bits_Reader_Signed_K1 r1 (W (r1.1 - (shD .shl .i64 1 y0)))
    else
      bits_Reader_Signed_K1 r1 r1.1
  else
    bits_Reader_Signed_K1 r1 r1.1
def subframe_reader_signed (y0 : Int) (y1 : Int) (y2 : bits_Reader) : Option (Int × Int × Int) :=
  (bits_Reader_Signed y0 y2).bind fun r1 =>
  (subframe_reader_told r1.1 r1.2.1 y1 (⟨(⟨r1.2.2⟩ : bits_place), y2.m_b⟩ : bits_Reader)).bind fun r2 =>
  some (r2.1, r2.2, r1.2.2)
def math_bits_Mul64 (y0 : Int) (y1 : Int) : Option (Int × Int) :=
  some ((IntKind.u64.wrap ((IntKind.u64.wrap ((IntKind.u64.wrap ((shD .shr .u64 y0 32) * (shD .shr .u64 y1 32))) + (shD .shr .u64 (IntKind.u64.wrap ((IntKind.u64.wrap ((shD .shr .u64 y0 32) * (arD .and .u64 y1 4294967295))) + (shD .shr .u64 (IntKind.u64.wrap ((arD .and .u64 y0 4294967295) * (arD .and .u64 y1 4294967295))) 32))) 32))) + (shD .shr .u64 (IntKind.u64.wrap ((arD .and .u64 (IntKind.u64.wrap ((IntKind.u64.wrap ((shD .shr .u64 y0 32) * (arD .and .u64 y1 4294967295))) + (shD .shr .u64 (IntKind.u64.wrap ((arD .and .u64 y0 4294967295) * (arD .and .u64 y1 4294967295))) 32))) 4294967295) + (IntKind.u64.wrap ((arD .and .u64 y0 4294967295) * (shD .shr .u64 y1 32))))) 32))), (IntKind.u64.wrap (y0 * y1)))
def math_bits_Mul (y0 : Int) (y1 : Int) : Option (Int × Int) :=
  (math_bits_Mul64 y0 y1).bind fun r1 =>
  some (r1.1, r1.2)
def slices_Repeat_sint_int_K1 (j4 : (List Int)) : Option (List Int) :=
  some j4
def slices_Repeat_sint_int_L1 (a5 : Int × (List Int)) : Option ((Int × (List Int)) ⊕ (List Int)) :=
  if (decide (a5.1 < (a5.2.length : Int))) = true then
    (sub a5.2 a5.1 (a5.2.length : Int)).bind fun l6 =>
    (sub a5.2 0 a5.1).bind fun l7 =>
    (cpq a5.2 a5.1 ((a5.2.length : Int) - a5.1) ((a5.2.drop (0 : Int).toNat).take (a5.1 - 0 : Int).toNat)).bind fun c8 =>
    if decide (0 < c8.2) = true then
      some (.inl ((W (a5.1 + (c8.2 : Int))), c8.1))
    else
      some (.inl ((W (a5.1 + 0)), a5.2))
  else
    Option.map .inr <|
    slices_Repeat_sint_int_K1 a5.2
def slices_Repeat_sint_int (y0 : List Int) (y1 : Int) : Option (List Int) :=
  if (decide (y1 < 0)) = true then
    none
  else
    (math_bits_Mul (IntKind.u64.wrap (y0.length : Int)) (IntKind.u64.wrap y1)).bind fun r1 =>
    if (if (decide (r1.1 > 0)) = true then true else (decide (r1.2 > 9223372036854775807))) = true then
      none
    else
      (mks 8 (W r1.2) (0 : Int)).bind fun l2 =>
      (cpq l2 0 (l2.length : Int) y0).bind fun c3 =>
      if decide (0 < c3.2) = true then
        iter slices_Repeat_sint_int_L1 ((c3.2 : Int), c3.1)
      else
        iter slices_Repeat_sint_int_L1 (0, l2)
def subframe_reader_linear_K1 (r1 : Int × Int × Int) (r4 : Int × Int × Int) (j7 : Int × Int × (List Int)) : Option (Int × Int × (List Int) × Int × Int) :=
  some ((W (r1.1 + 1)), r4.1, j7.2.2, j7.1, j7.2.1)
def subframe_reader_linear_K2 (a8 : Int × Int × Int × (List Int)) (j9 : Int × Int × (List Int)) : Option ((Int × Int × Int × (List Int)) ⊕ (Int × Int × (List Int) × Int × Int)) :=
  some (.inl ((W (a8.1 + 1)), j9.1, j9.2.1, j9.2.2))
def subframe_reader_linear_L1 (y0 : Int) (y2 : bits_Reader) (r1 : Int × Int × Int) (r4 : Int × Int × Int) (a8 : Int × Int × Int × (List Int)) : Option ((Int × Int × Int × (List Int)) ⊕ (Int × Int × (List Int) × Int × Int)) :=
  if (decide (a8.1 < y0)) = true then
    if (a8.2.1 == 0) = true then
      lett ((W (r1.1 + 1))) fun t10 =>
      (subframe_reader_signed t10 a8.2.1 (⟨(⟨a8.2.2.1⟩ : bits_place), y2.m_b⟩ : bits_Reader)).bind fun r11 =>
      (app 8 a8.2.2.2 [r11.1]).bind fun l12 =>
      subframe_reader_linear_K2 a8 (r11.2.1, r11.2.2, l12)
    else
      subframe_reader_linear_K2 a8 (a8.2.1, a8.2.2.1, a8.2.2.2)
  else
    Option.map .inr <|
    subframe_reader_linear_K1 r1 r4 (a8.2.1, a8.2.2.1, a8.2.2.2)
def subframe_reader_linear (y0 : Int) (y1 : Int) (y2 : bits_Reader) : Option (Int × Int × (List Int) × Int × Int) :=
  (subframe_reader_take (4 : Int) y1 y2).bind fun r1 =>
  lett (((W (r1.1 + 1)) == 16)) fun t2 =>
  (subframe_reader_wrong t2 (13 : Int) r1.2.1 (⟨(⟨r1.2.2⟩ : bits_place), y2.m_b⟩ : bits_Reader)).bind fun r3 =>
  (subframe_reader_signed (5 : Int) r3 (⟨(⟨r1.2.2⟩ : bits_place), y2.m_b⟩ : bits_Reader)).bind fun r4 =>
  lett ((decide (r4.1 < 0))) fun t5 =>
  (subframe_reader_wrong t5 (10 : Int) r4.2.1 (⟨(⟨r4.2.2⟩ : bits_place), y2.m_b⟩ : bits_Reader)).bind fun r6 =>
  iter (subframe_reader_linear_L1 y0 y2 r1 r4) (0, r6, r4.2.2, [])
def rice_reader_number_c1 (y0 : Int) (y1 : Int) (y2 : bits_Reader) : Option (Int × Int × Int) :=
  (bits_Reader_Take y0 y2).bind fun r1 =>
  some (r1.1, r1.2.1, r1.2.2)
def rice_reader_take (y0 : Int) (y1 : Int) (y2 : bits_Reader) : Option (Int × Int × Int) :=
  if (y0 != 0) = true then
    some (0, y0, y2.m_place.m_at)
  else
    (rice_reader_number_c1 y1 y0 y2).bind fun r1 =>
    some (r1.1, r1.2.1, r1.2.2)
def rice_reader_number (y0 : Int) (y1 : Int) (y2 : bits_Reader) : Option (Int × Int × Int) :=
  (rice_reader_take y1 y0 y2).bind fun r1 =>
  some (r1.1, r1.2.1, r1.2.2)
def rice_read_c1 (y0 : Int) (y1 : Int) (y2 : bits_Reader) : Option (Int × Int × Int) :=
  (bits_Reader_Signed y0 y2).bind fun r1 =>
  some (r1.1, r1.2.1, r1.2.2)
def rice_reader_take_x2 (y0 : Int) (y1 : Int) (y2 : bits_Reader) : Option (Int × Int × Int) :=
  if (y0 != 0) = true then
    some (0, y0, y2.m_place.m_at)
  else
    (rice_read_c1 y1 y0 y2).bind fun r1 =>
    some (r1.1, r1.2.1, r1.2.2)
def rice_reader_take_x3 (y0 : Int) (y1 : bits_Reader) : Option (Int × Int × Int) :=
  if (y0 != 0) = true then
    some (0, y0, y1.m_place.m_at)
  else
    (bits_Reader_Unary y1).bind fun r1 =>
    some (r1.1, r1.2.1, r1.2.2)
def rice_unfold (y0 : Int) : Option Int :=
  if ((arD .and .i64 y0 1) == 1) = true then
    some (W ((W (0 - (W (y0 + 1)))).tdiv 2))
  else
    some (W (y0.tdiv 2))
def rice_reader_coded_K1 (r2 : Int × Int × Int) (r3 : Int) (j4 : Int) : Option (Int × Int × Int) :=
  some (r3, j4, r2.2.2)
def rice_reader_coded (y0 : Int) (y1 : Int) (y2 : bits_Reader) : Option (Int × Int × Int) :=
  (rice_reader_take_x3 y1 y2).bind fun r1 =>
  need (decide (y0 ≥ 0)) <|
  (rice_reader_number y0 r1.2.1 (⟨(⟨r1.2.2⟩ : bits_place), y2.m_b⟩ : bits_Reader)).bind fun r2 =>
  (rice_unfold (arD .or .i64 (shD .shl .i64 r1.1 y0) r2.1)).bind fun r3 =>
  (rice_fold r3).bind fun r5 =>
  if (if (if (!r5.2) = true then true else (decide (r1.1 > 65536))) = true then (r2.2.1 == 0) else false) = true then
    rice_reader_coded_K1 r2 r3 10
  else
    rice_reader_coded_K1 r2 r3 r2.2.1
def rice_read_K1 (r1 : Int × Int × Int) (r2 : Int × Int × Int) (j4 : Int × Int × (List Int) × (List Int) × (List Int)) : Option ((List Int) × Int × Int × (List Int) × (List Int) × Int × Int × Int) :=
  some (j4.2.2.1, r1.1, r2.1, j4.2.2.2.1, j4.2.2.2.2, j4.1, j4.1, j4.2.1)
def rice_read_K4 (j13 : (List Int) × (List Int)) (a14 : Int × (List Int) × Int × Int) (j15 : (List Int) × Int × Int) : Option ((Int × (List Int) × Int × Int) ⊕ ((Int × Int × (List Int) × (List Int) × (List Int)) ⊕ (Int × Int × (List Int) × (List Int) × (List Int)))) :=
  if (j15.2.1 != 0) = true then
    Option.map .inr <|
    some (.inr (j15.2.1, j15.2.2, j15.1, j13.2, j13.1))
  else
    some (.inl ((W (a14.1 + 1)), j15.1, j15.2.1, j15.2.2))
def rice_read_L2 (y3 : bits_Reader) (p7 : Int × (Arr2 Int)) (j12 : Int × Int × Int × Int) (j13 : (List Int) × (List Int)) (a14 : Int × (List Int) × Int × Int) : Option ((Int × (List Int) × Int × Int) ⊕ ((Int × Int × (List Int) × (List Int) × (List Int)) ⊕ (Int × Int × (List Int) × (List Int) × (List Int)))) :=
  if (decide (a14.1 < (W (p7.2.a1 - p7.2.a0)))) = true then
    if (j12.1 == (-1)) = true then
      (rice_reader_take_x2 a14.2.2.1 j12.2.2.2 (⟨(⟨a14.2.2.2⟩ : bits_place), y3.m_b⟩ : bits_Reader)).bind fun r16 =>
      (app 8 a14.2.1 [r16.1]).bind fun l17 =>
      rice_read_K4 j13 a14 (l17, r16.2.1, r16.2.2)
    else
      (rice_reader_coded j12.1 a14.2.2.1 (⟨(⟨a14.2.2.2⟩ : bits_place), y3.m_b⟩ : bits_Reader)).bind fun r23 =>
      (app 8 a14.2.1 [r23.1]).bind fun l24 =>
      rice_read_K4 j13 a14 (l24, r23.2.1, r23.2.2)
  else
    Option.map .inr <|
    some (.inl (a14.2.2.1, a14.2.2.2, a14.2.1, j13.2, j13.1))
def rice_read_K3 (y3 : bits_Reader) (p7 : Int × (Arr2 Int)) (a8 : Int × Int × (List Int) × (List Int) × (List Int)) (j12 : Int × Int × Int × Int) (j13 : (List Int) × (List Int)) : Option ((Int × Int × (List Int) × (List Int) × (List Int)) ⊕ (Int × Int × (List Int) × (List Int) × (List Int))) :=
  iter (rice_read_L2 y3 p7 j12 j13) (0, a8.2.2.1, j12.2.1, j12.2.2.1)
def rice_read_K2 (y3 : bits_Reader) (p7 : Int × (Arr2 Int)) (a8 : Int × Int × (List Int) × (List Int) × (List Int)) (j12 : Int × Int × Int × Int) : Option ((Int × Int × (List Int) × (List Int) × (List Int)) ⊕ (Int × Int × (List Int) × (List Int) × (List Int))) :=
  (app 8 a8.2.2.2.1 [j12.1]).bind fun l28 =>
  (app 8 a8.2.2.2.2 [j12.2.2.2]).bind fun l29 =>
  rice_read_K3 y3 p7 a8 j12 (l29, l28)
def rice_read_L1 (y3 : bits_Reader) (r1 : Int × Int × Int) (p7 : Int × (Arr2 Int)) (a8 : Int × Int × (List Int) × (List Int) × (List Int)) : Option ((Int × Int × (List Int) × (List Int) × (List Int)) ⊕ (Int × Int × (List Int) × (List Int) × (List Int))) :=
  lett ((W (4 + r1.1))) fun t10 =>
  (rice_reader_number t10 a8.1 (⟨(⟨a8.2.1⟩ : bits_place), y3.m_b⟩ : bits_Reader)).bind fun r11 =>
  (rice_escape r1.1).bind fun r106 =>
  if (r11.1 == r106) = true then
    (rice_reader_number (5 : Int) r11.2.1 (⟨(⟨r11.2.2⟩ : bits_place), y3.m_b⟩ : bits_Reader)).bind fun r107 =>
    rice_read_K2 y3 p7 a8 ((-1), r107.2.1, r107.2.2, r107.1)
  else
    rice_read_K2 y3 p7 a8 (r11.1, r11.2.1, r11.2.2, 0)
def rice_read_K5 (r1 : Int × Int × Int) (r2 : Int × Int × Int) (a8 : Int × Int × (List Int) × (List Int) × (List Int)) : Option ((List Int) × Int × Int × (List Int) × (List Int) × Int × Int × Int) :=
  rice_read_K1 r1 r2 (a8.1, a8.2.1, a8.2.2.1, a8.2.2.2.1, a8.2.2.2.2)
def rice_read_K6 (r1 : Int × Int × Int) (r2 : Int × Int × Int) (b9 : Int × Int × (List Int) × (List Int) × (List Int)) : Option ((List Int) × Int × Int × (List Int) × (List Int) × Int × Int × Int) :=
  rice_read_K1 r1 r2 (b9.1, b9.2.1, b9.2.2.1, b9.2.2.2.1, b9.2.2.2.2)
def rice_read (y0 : Int) (y1 : Int) (y2 : Int) (y3 : bits_Reader) : Option ((List Int) × Int × Int × (List Int) × (List Int) × Int × Int × Int) :=
  (rice_reader_number (2 : Int) y2 y3).bind fun r1 =>
  if (if (r1.2.1 == 0) = true then (decide (r1.1 > 1)) else false) = true then
    some ([], r1.1, 0, [], [], 13, r1.2.1, r1.2.2)
  else
    (rice_reader_number (4 : Int) r1.2.1 (⟨(⟨r1.2.2⟩ : bits_place), y3.m_b⟩ : bits_Reader)).bind fun r2 =>
    if (r2.2.1 != 0) = true then
      some ([], r1.1, r2.1, [], [], r2.2.1, r2.2.1, r2.2.2)
    else
      (rice_head r1.1 r2.1 y0 y1).bind fun r3 =>
      if (r3 != 0) = true then
        some ([], r1.1, r2.1, [], [], r3, r2.2.1, r2.2.2)
      else
        (rice_parts r2.1 y0 y1).bind fun r5 =>
        (partsF y0 r2.1 y1).bind fun e6 =>
        foldR (rice_read_L1 y3 r1) (rice_read_K5 r1 r2) (rice_read_K6 r1 r2) e6 (r2.2.1, r2.2.2, [], [], [])
def rice_Read (y0 : Int) (y1 : Int) (y2 : bits_Reader) : Option ((List Int) × Int × Int × (List Int) × (List Int) × Int × Int) :=
  (rice_head (0 : Int) (0 : Int) y0 y1).bind fun r1 =>
  if (r1 == 1) = true then
    some ([], 0, 0, [], [], r1, y2.m_place.m_at)
  else
    (bits_Reader_At y2).bind fun r2 =>
    (rice_read y0 y1 (0 : Int) y2).bind fun r3 =>
    if (r3.2.2.2.2.2.1 != 0) = true then
      (bits_Reader_Seek y2.m_place.m_at (⟨(⟨r3.2.2.2.2.2.2.2⟩ : bits_place), y2.m_b⟩ : bits_Reader)).bind fun r4 =>
      some ([], 0, 0, [], [], r3.2.2.2.2.2.1, r4.2)
    else
      some (r3.1, r3.2.1, r3.2.2.1, r3.2.2.2.1, r3.2.2.2.2.1, 0, r3.2.2.2.2.2.2.2)
def slices_Clone_sint_int_x2 (y0 : List Int) : Option (List Int) :=
  (app 8 ([] : List Int) y0).bind fun l1 =>
  some l1
def predict_Restore_K1 (j4 : Int × (List Int)) : Option (Int × (List Int)) :=
  if (j4.1 != 0) = true then
    some (j4.1, [])
  else
    some (0, j4.2)
def predict_Restore_L1 (y0 : predict_Linear) (y2 : List Int) (a5 : Int × (List Int)) : Option ((Int × (List Int)) ⊕ (Int × (List Int))) :=
  if (decide (a5.1 < (y2.length : Int))) = true then
    (idx y2 a5.1).bind fun p6 =>
    (predict_Linear_told y0 a5.2).bind fun r7 =>
    if (if (decide (p6 < (W ((-4294967296) - r7)))) = true then true else (decide (p6 ≥ (W (4294967296 - r7))))) = true then
      Option.map .inr <|
      predict_Restore_K1 (10, a5.2)
    else
      (app 8 a5.2 [(W (p6 + r7))]).bind fun l8 =>
      some (.inl ((W (a5.1 + 1)), l8))
  else
    Option.map .inr <|
    predict_Restore_K1 (0, a5.2)
def predict_Restore (y0 : predict_Linear) (y1 : List Int) (y2 : List Int) : Option (Int × (List Int)) :=
  (predict_Check y0).bind fun r1 =>
  if (r1 != 0) = true then
    some (r1, [])
  else
    if ((y1.length : Int) != (y0.Coefs.length : Int)) = true then
      some (1, [])
    else
      (slices_Clone_sint_int_x2 y1).bind fun r2 =>
      (predict_may y1).bind fun r3 =>
      if (!r3) = true then
        some (10, [])
      else
        iter (predict_Restore_L1 y0 y2) (0, r2)
def subframe_reader_read_K3 (r1 : Int × Int × Int × Int × Int) (j4 : Int × Int × Int × Int × (List Int) × Int × Int × (List Int) × (List Int) × (List Int)) (j5 : (List Int)) : Option ((List Int) × Int × Int × Int × Int × Int × (List Int) × Int × Int × (List Int) × (List Int) × Int × Int) :=
  some (j5, r1.1, r1.2.1, r1.2.2.1, j4.2.2.1, j4.2.2.2.1, j4.2.2.2.2.1, j4.2.2.2.2.2.1, j4.2.2.2.2.2.2.1, j4.2.2.2.2.2.2.2.1, j4.2.2.2.2.2.2.2.2.1, j4.1, j4.2.1)
def subframe_reader_read_L1 (r1 : Int × Int × Int × Int × Int) (j4 : Int × Int × Int × Int × (List Int) × Int × Int × (List Int) × (List Int) × (List Int)) (a6 : Int × (List Int)) : Option ((Int × (List Int)) ⊕ ((List Int) × Int × Int × Int × Int × Int × (List Int) × Int × Int × (List Int) × (List Int) × Int × Int)) :=
  if (decide (a6.1 < (j4.2.2.2.2.2.2.2.2.2.length : Int))) = true then
    need (decide (a6.1 ≥ 0)) <|
    need (decide (a6.1 < (a6.2.length : Int))) <|
    (idx a6.2 a6.1).bind fun p7 =>
    need (decide (r1.2.2.1 ≥ 0)) <|
    need (decide (a6.1 ≥ 0)) <|
    need (decide (a6.1 < (a6.2.length : Int))) <|
    (upd a6.2 a6.1 (shD .shl .i64 p7 r1.2.2.1)).bind fun l8 =>
    some (.inl ((W (a6.1 + 1)), l8))
  else
    Option.map .inr <|
    subframe_reader_read_K3 r1 j4 a6.2
def subframe_reader_read_K2 (r1 : Int × Int × Int × Int × Int) (j4 : Int × Int × Int × Int × (List Int) × Int × Int × (List Int) × (List Int) × (List Int)) : Option ((List Int) × Int × Int × Int × Int × Int × (List Int) × Int × Int × (List Int) × (List Int) × Int × Int) :=
  iter (subframe_reader_read_L1 r1 j4) (0, j4.2.2.2.2.2.2.2.2.2)
def subframe_reader_read_K5 (r1 : Int × Int × Int × Int × Int) (j9 : Int × Int × Int × Int × (List Int)) (j10 : Int × Int × Int × Int × (List Int) × (List Int) × (List Int)) : Option ((List Int) × Int × Int × Int × Int × Int × (List Int) × Int × Int × (List Int) × (List Int) × Int × Int) :=
  subframe_reader_read_K2 r1 (j10.1, j10.2.1, j9.2.2.1, j9.2.2.2.1, j9.2.2.2.2, j10.2.2.1, j10.2.2.2.1, j10.2.2.2.2.1, j10.2.2.2.2.2.1, j10.2.2.2.2.2.2)
def subframe_reader_read_K7 (y1 : Int) (y3 : bits_Reader) (r1 : Int × Int × Int × Int × Int) (j9 : Int × Int × Int × Int × (List Int)) (j11 : (List Int) × Int × Int × Int × Int × Int × (List Int) × (List Int)) (j12 : Int × (List Int)) : Option ((List Int) × Int × Int × Int × Int × Int × (List Int) × Int × Int × (List Int) × (List Int) × Int × Int) :=
  if (j12.1 == 0) = true then
    (subframe_fits (W (y1 - r1.2.2.1)) j12.2).bind fun r13 =>
    lett ((!r13)) fun t14 =>
    (subframe_reader_wrong t14 (10 : Int) j12.1 (⟨(⟨j11.2.2.1⟩ : bits_place), y3.m_b⟩ : bits_Reader)).bind fun r15 =>
    subframe_reader_read_K5 r1 j9 (r15, j11.2.2.1, j11.2.2.2.2.1, j11.2.2.2.2.2.1, j11.2.2.2.2.2.2.1, j11.2.2.2.2.2.2.2, j12.2)
  else
    (subframe_reader_wrong false (10 : Int) j12.1 (⟨(⟨j11.2.2.1⟩ : bits_place), y3.m_b⟩ : bits_Reader)).bind fun r16 =>
    subframe_reader_read_K5 r1 j9 (r16, j11.2.2.1, j11.2.2.2.2.1, j11.2.2.2.2.2.1, j11.2.2.2.2.2.2.1, j11.2.2.2.2.2.2.2, j12.2)
def subframe_reader_read_K6 (y1 : Int) (y3 : bits_Reader) (r1 : Int × Int × Int × Int × Int) (j3 : Int × Int × (List Int)) (j9 : Int × Int × Int × Int × (List Int)) (j11 : (List Int) × Int × Int × Int × Int × Int × (List Int) × (List Int)) : Option ((List Int) × Int × Int × Int × Int × Int × (List Int) × Int × Int × (List Int) × (List Int) × Int × Int) :=
  if (j11.2.1 == 0) = true then
    (subframe_how (⟨r1.1, r1.2.1, r1.2.2.1, (⟨j9.2.2.1, j9.2.2.2.1, j9.2.2.2.2⟩ : predict_Linear), (⟨j11.2.2.2.2.1, j11.2.2.2.2.2.1, j11.2.2.2.2.2.2.1, j11.2.2.2.2.2.2.2⟩ : rice_Plan)⟩ : subframe_Plan)).bind fun r17 =>
    (predict_Restore r17 j3.2.2 j11.1).bind fun r18 =>
    subframe_reader_read_K7 y1 y3 r1 j9 j11 (r18.1, r18.2)
  else
    subframe_reader_read_K7 y1 y3 r1 j9 j11 (j11.2.1, j3.2.2)
def subframe_reader_read_K4 (y0 : Int) (y1 : Int) (y3 : bits_Reader) (r1 : Int × Int × Int × Int × Int) (j3 : Int × Int × (List Int)) (j9 : Int × Int × Int × Int × (List Int)) : Option ((List Int) × Int × Int × Int × Int × Int × (List Int) × Int × Int × (List Int) × (List Int) × Int × Int) :=
  if (j9.1 != 0) = true then
    subframe_reader_read_K2 r1 (j9.1, j9.2.1, j9.2.2.1, j9.2.2.2.1, j9.2.2.2.2, 0, 0, [], [], j3.2.2)
  else
    (rice_Read y0 r1.2.1 (⟨(⟨j9.2.1⟩ : bits_place), y3.m_b⟩ : bits_Reader)).bind fun r19 =>
    subframe_reader_read_K6 y1 y3 r1 j3 j9 (r19.1, r19.2.2.2.2.2.1, r19.2.2.2.2.2.2, r19.2.2.2.2.2.2, r19.2.1, r19.2.2.1, r19.2.2.2.1, r19.2.2.2.2.1)
def subframe_reader_read_K1 (y0 : Int) (y1 : Int) (y3 : bits_Reader) (r1 : Int × Int × Int × Int × Int) (j3 : Int × Int × (List Int)) : Option ((List Int) × Int × Int × Int × Int × Int × (List Int) × Int × Int × (List Int) × (List Int) × Int × Int) :=
  if (r1.1 == 0) = true then
    (slices_Repeat_sint_int j3.2.2 y0).bind fun r21 =>
    subframe_reader_read_K2 r1 (j3.1, j3.2.1, 0, 0, [], 0, 0, [], [], r21)
  else
    if (r1.1 == 3) = true then
      (subframe_reader_linear r1.2.1 j3.1 (⟨(⟨j3.2.1⟩ : bits_place), y3.m_b⟩ : bits_Reader)).bind fun r22 =>
      subframe_reader_read_K4 y0 y1 y3 r1 j3 (r22.2.2.2.1, r22.2.2.2.2, r22.1, r22.2.1, r22.2.2.1)
    else
      if (r1.1 == 2) = true then
        subframe_reader_read_K4 y0 y1 y3 r1 j3 (j3.1, j3.2.1, 0, 0, [])
      else
        subframe_reader_read_K2 r1 (j3.1, j3.2.1, 0, 0, [], 0, 0, [], [], j3.2.2)
def subframe_reader_read_L2 (y0 : Int) (y1 : Int) (y3 : bits_Reader) (r1 : Int × Int × Int × Int × Int) (p2 : Int) (a23 : Int × Int × Int × (List Int)) : Option ((Int × Int × Int × (List Int)) ⊕ ((List Int) × Int × Int × Int × Int × Int × (List Int) × Int × Int × (List Int) × (List Int) × Int × Int)) :=
  if (decide (a23.1 < p2)) = true then
    lett ((W (y1 - r1.2.2.1))) fun t24 =>
    (subframe_reader_signed t24 a23.2.1 (⟨(⟨a23.2.2.1⟩ : bits_place), y3.m_b⟩ : bits_Reader)).bind fun r25 =>
    (app 8 a23.2.2.2 [r25.1]).bind fun l26 =>
    if (r25.2.1 != 0) = true then
      Option.map .inr <|
      subframe_reader_read_K1 y0 y1 y3 r1 (r25.2.1, r25.2.2, l26)
    else
      some (.inl ((W (a23.1 + 1)), r25.2.1, r25.2.2, l26))
  else
    Option.map .inr <|
    subframe_reader_read_K1 y0 y1 y3 r1 (a23.2.1, a23.2.2.1, a23.2.2.2)
def subframe_reader_read (y0 : Int) (y1 : Int) (y2 : Int) (y3 : bits_Reader) : Option ((List Int) × Int × Int × Int × Int × Int × (List Int) × Int × Int × (List Int) × (List Int) × Int × Int) :=
  (subframe_reader_head y1 y2 y3).bind fun r1 =>
  if (r1.2.2.2.1 != 0) = true then
    some ([], r1.1, r1.2.1, r1.2.2.1, 0, 0, [], 0, 0, [], [], r1.2.2.2.1, r1.2.2.2.2)
  else
    (idx [(1 : Int), y0, r1.2.1, r1.2.1] r1.1).bind fun p2 =>
    iter (subframe_reader_read_L2 y0 y1 y3 r1 p2) (0, r1.2.2.2.1, r1.2.2.2.2, [])
def subframe_Read (y0 : Int) (y1 : Int) (y2 : bits_Reader) : Option ((List Int) × Int × Int × Int × Int × Int × (List Int) × Int × Int × (List Int) × (List Int) × Int × Int) :=
  (subframe_sizes y0 y1).bind fun r1 =>
  if (r1 != 0) = true then
    some ([], 0, 0, 0, 0, 0, [], 0, 0, [], [], r1, y2.m_place.m_at)
  else
    (bits_Reader_At y2).bind fun r2 =>
    (subframe_reader_read y0 y1 (0 : Int) y2).bind fun r3 =>
    if (r3.2.2.2.2.2.2.2.2.2.2.2.1 != 0) = true then
      (bits_Reader_Seek y2.m_place.m_at (⟨(⟨r3.2.2.2.2.2.2.2.2.2.2.2.2⟩ : bits_place), y2.m_b⟩ : bits_Reader)).bind fun r4 =>
      some ([], 0, 0, 0, 0, 0, [], 0, 0, [], [], r3.2.2.2.2.2.2.2.2.2.2.2.1, r4.2)
    else
      some (r3.1, r3.2.1, r3.2.2.1, r3.2.2.2.1, r3.2.2.2.2.1, r3.2.2.2.2.2.1, r3.2.2.2.2.2.2.1, r3.2.2.2.2.2.2.2.1, r3.2.2.2.2.2.2.2.2.1, r3.2.2.2.2.2.2.2.2.2.1, r3.2.2.2.2.2.2.2.2.2.2.1, 0, r3.2.2.2.2.2.2.2.2.2.2.2.2)
def jetsamref01_Bits_K1 (j1 : (List Int)) : Option (List Int) :=
  some j1
def jetsamref01_Bits_K2 (a2 : Int × (List Int)) (j3 : (List Int)) : Option ((Int × (List Int)) ⊕ (List Int)) :=
  some (.inl ((W (a2.1 + 1)), j3))
def jetsamref01_Bits_L2 (y0 : List Int) (a2 : Int × (List Int)) (a4 : Int × (List Int)) : Option ((Int × (List Int)) ⊕ ((Int × (List Int)) ⊕ (List Int))) :=
  if (decide (a4.1 ≥ 0)) = true then
    (idx y0 a2.1).bind fun p5 =>
    need (decide (a4.1 ≥ 0)) <|
    (app 8 a4.2 [(arD .and .i64 (shD .shr .i64 p5 a4.1) 1)]).bind fun l6 =>
    some (.inl ((W (a4.1 - 1)), l6))
  else
    Option.map .inr <|
    jetsamref01_Bits_K2 a2 a4.2
def jetsamref01_Bits_L1 (y0 : List Int) (a2 : Int × (List Int)) : Option ((Int × (List Int)) ⊕ (List Int)) :=
  if (decide (a2.1 < (y0.length : Int))) = true then
    iter (jetsamref01_Bits_L2 y0 a2) (7, a2.2)
  else
    Option.map .inr <|
    jetsamref01_Bits_K1 a2.2
def jetsamref01_Bits (y0 : List Int) : Option (List Int) :=
  iter (jetsamref01_Bits_L1 y0) (0, [])
def jetsamlaw06_Plain (y0 : predict_Linear) : Option jetsamref06_Linear :=
  some (⟨y0.Precision, y0.Shift, y0.Coefs⟩ : jetsamref06_Linear)
def jetsamlaw05_Plain (y0 : rice_Plan) : Option jetsamref05_Plan :=
  some (⟨y0.Method, y0.Order, y0.Params, y0.Bits⟩ : jetsamref05_Plan)
def jetsamlaw07_Plain (y0 : subframe_Plan) : Option jetsamref07_Plan :=
  (jetsamlaw06_Plain y0.Linear).bind fun r1 =>
  (jetsamlaw05_Plain y0.Rice).bind fun r2 =>
  some (⟨y0.Kind, y0.Order, y0.Wasted, r1, r2⟩ : jetsamref07_Plan)
def jetsamref07_shape_K2 (y0 : jetsamref07_Plan) (j2 : Int × Int) : Option Int :=
  if (if (decide (y0.Order < j2.1)) = true then true else (decide (y0.Order > j2.2))) = true then
    some (10 : Int)
  else
    if (if (decide (y0.Kind < 3)) = true then (if (if (y0.Linear.Precision != 0) = true then true else (y0.Linear.Shift != 0)) = true then true else ((y0.Linear.Coefs.length : Int) != 0)) else false) = true then
      some (1 : Int)
    else
      if (if (decide (y0.Kind < 2)) = true then (if (if (if (y0.Rice.Method != 0) = true then true else (y0.Rice.Order != 0)) = true then true else ((y0.Rice.Params.length : Int) != 0)) = true then true else ((y0.Rice.Bits.length : Int) != 0)) else false) = true then
        some (1 : Int)
      else
        if (if (y0.Kind == 3) = true then ((y0.Linear.Coefs.length : Int) != y0.Order) else false) = true then
          some (1 : Int)
        else
          some (0 : Int)
def jetsamref07_shape_K1 (y0 : jetsamref07_Plan) (j1 : Int) : Option Int :=
  if (y0.Kind == 3) = true then
    jetsamref07_shape_K2 y0 (1, 32)
  else
    jetsamref07_shape_K2 y0 (0, j1)
def jetsamref07_shape (y0 : jetsamref07_Plan) (y1 : Int) : Option Int :=
  if (if (if (if (decide (y0.Kind < 0)) = true then true else (decide (y0.Kind > 3))) = true then true else (decide (y0.Wasted < 0))) = true then true else (decide (y0.Wasted ≥ y1))) = true then
    some (10 : Int)
  else
    if (y0.Kind == 2) = true then
      jetsamref07_shape_K1 y0 4
    else
      jetsamref07_shape_K1 y0 0
def jetsamref07_Less_K1 (j1 : (List Int)) : Option ((List Int) × Bool) :=
  some (j1, true)
def jetsamref07_Less_L1 (y0 : Int) (y1 : List Int) (a2 : Int × (List Int)) : Option ((Int × (List Int)) ⊕ ((List Int) × Bool)) :=
  if (decide (a2.1 < (y1.length : Int))) = true then
    (idx y1 a2.1).bind fun p3 =>
    need (decide (y0 ≥ 0)) <|
    need ((shD .shl .i64 1 y0) != 0) <|
    if ((p3.tmod (shD .shl .i64 1 y0)) != 0) = true then
      Option.map .inr <|
      some (([] : List Int), false)
    else
      (idx y1 a2.1).bind fun p4 =>
      need (decide (y0 ≥ 0)) <|
      need ((shD .shl .i64 1 y0) != 0) <|
      (app 8 a2.2 [(W (p4.tdiv (shD .shl .i64 1 y0)))]).bind fun l5 =>
      some (.inl ((W (a2.1 + 1)), l5))
  else
    Option.map .inr <|
    jetsamref07_Less_K1 a2.2
def jetsamref07_Less (y0 : Int) (y1 : List Int) : Option ((List Int) × Bool) :=
  iter (jetsamref07_Less_L1 y0 y1) (0, [])
def jetsamref07_Fits_K1 (j1 : Unit) : Option Bool :=
  some true
def jetsamref07_Fits_K2 (a2 : Int) (j3 : Bool) : Option (Int ⊕ Bool) :=
  if j3 = true then
    Option.map .inr <|
    some false
  else
    some (.inl (W (a2 + 1)))
def jetsamref07_Fits_L1 (y0 : Int) (y1 : List Int) (a2 : Int) : Option (Int ⊕ Bool) :=
  if (decide (a2 < (y1.length : Int))) = true then
    (idx y1 a2).bind fun p4 =>
    need (decide ((W (y0 - 1)) ≥ 0)) <|
    if (decide (p4 < (W (0 - (shD .shl .i64 1 (W (y0 - 1))))))) = true then
      jetsamref07_Fits_K2 a2 true
    else
      (idx y1 a2).bind fun p5 =>
      need (decide ((W (y0 - 1)) ≥ 0)) <|
      jetsamref07_Fits_K2 a2 (decide (p5 ≥ (shD .shl .i64 1 (W (y0 - 1)))))
  else
    Option.map .inr <|
    jetsamref07_Fits_K1 ()
def jetsamref07_Fits (y0 : Int) (y1 : List Int) : Option Bool :=
  iter (jetsamref07_Fits_L1 y0 y1) 0
def jetsamref01_Number_K1 (j1 : Int) : Option Int :=
  some j1
def jetsamref01_Number_K2 (a2 : Int × Int) (j3 : Int) : Option ((Int × Int) ⊕ Int) :=
  some (.inl (j3, (W (a2.2 + 1))))
def jetsamref01_Number_L1 (y0 : List Int) (y1 : Bool) (a2 : Int × Int) : Option ((Int × Int) ⊕ Int) :=
  if (decide (a2.2 < (y0.length : Int))) = true then
    (idx y0 a2.2).bind fun p4 =>
    if (if (a2.2 == 0) = true then y1 else false) = true then
      (idx y0 0).bind fun p5 =>
      jetsamref01_Number_K2 a2 (W (0 - p5))
    else
      jetsamref01_Number_K2 a2 (W ((W (2 * a2.1)) + p4))
  else
    Option.map .inr <|
    jetsamref01_Number_K1 a2.1
def jetsamref01_Number (y0 : List Int) (y1 : Bool) : Option Int :=
  iter (jetsamref01_Number_L1 y0 y1) (0, 0)
def jetsamref01_Put_K1 (y1 : Int) (y2 : Bool) (j1 : (List Int)) : Option (Int × (List Int)) :=
  (jetsamref01_Number j1 y2).bind fun r2 =>
  if (r2 != y1) = true then
    some (10, [])
  else
    (app 8 [] j1).bind fun l3 =>
    some (0, l3)
def jetsamref01_Put_L1 (y1 : Int) (y2 : Bool) (a4 : Int × (List Int)) : Option ((Int × (List Int)) ⊕ (Int × (List Int))) :=
  if (decide (a4.1 ≥ 0)) = true then
    need (decide (a4.1 ≥ 0)) <|
    (app 8 a4.2 [(arD .and .i64 (shD .shr .i64 y1 a4.1) 1)]).bind fun l5 =>
    some (.inl ((W (a4.1 - 1)), l5))
  else
    Option.map .inr <|
    jetsamref01_Put_K1 y1 y2 a4.2
def jetsamref01_Put (y0 : Int) (y1 : Int) (y2 : Bool) : Option (Int × (List Int)) :=
  if (if (decide (y0 < 0)) = true then true else (decide (y0 > 48))) = true then
    some (1, [])
  else
    iter (jetsamref01_Put_L1 y1 y2) ((W (y0 - 1)), [])
def jetsamref01_Unary_K1 (j1 : (List Int)) : Option (Int × (List Int)) :=
  (app 8 j1 [(1 : Int)]).bind fun l2 =>
  some (0, l2)
def jetsamref01_Unary_L1 (y0 : Int) (a3 : Int × (List Int)) : Option ((Int × (List Int)) ⊕ (Int × (List Int))) :=
  if (decide (a3.1 < y0)) = true then
    (app 8 a3.2 [(0 : Int)]).bind fun l4 =>
    some (.inl ((W (a3.1 + 1)), l4))
  else
    Option.map .inr <|
    jetsamref01_Unary_K1 a3.2
def jetsamref01_Unary (y0 : Int) (y1 : List Int) : Option (Int × (List Int)) :=
  if (if (decide (y0 < 0)) = true then true else (decide (y0 > 65536))) = true then
    some (10, y1)
  else
    iter (jetsamref01_Unary_L1 y0) (0, y1)
def jetsamref07_Coefs (y0 : Int) : Option jetsamref06_Linear :=
  (idx [([] : List Int), [(1 : Int)], [(2 : Int), ((-1) : Int)], [(3 : Int), ((-3) : Int), (1 : Int)], [(4 : Int), ((-6) : Int), (4 : Int), ((-1) : Int)]] y0).bind fun p1 =>
  some (⟨(4 : Int), (0 : Int), p1⟩ : jetsamref06_Linear)
def jetsamref06_Check_K1 (j1 : Unit) : Option Int :=
  some (0 : Int)
def jetsamref06_Check_K2 (a2 : Int) (j3 : Bool) : Option (Int ⊕ Int) :=
  if j3 = true then
    Option.map .inr <|
    some (10 : Int)
  else
    some (.inl (W (a2 + 1)))
def jetsamref06_Check_L1 (y0 : jetsamref06_Linear) (a2 : Int) : Option (Int ⊕ Int) :=
  if (decide (a2 < (y0.Coefs.length : Int))) = true then
    (idx y0.Coefs a2).bind fun p4 =>
    need (decide ((W (y0.Precision - 1)) ≥ 0)) <|
    if (decide (p4 < (W (0 - (shD .shl .i64 1 (W (y0.Precision - 1))))))) = true then
      jetsamref06_Check_K2 a2 true
    else
      (idx y0.Coefs a2).bind fun p5 =>
      need (decide ((W (y0.Precision - 1)) ≥ 0)) <|
      jetsamref06_Check_K2 a2 (decide (p5 ≥ (shD .shl .i64 1 (W (y0.Precision - 1)))))
  else
    Option.map .inr <|
    jetsamref06_Check_K1 ()
def jetsamref06_Check (y0 : jetsamref06_Linear) : Option Int :=
  if (if (if (if (if (decide ((y0.Coefs.length : Int) > 32)) = true then true else (decide (y0.Precision < 1))) = true then true else (decide (y0.Precision > 15))) = true then true else (decide (y0.Shift < 0))) = true then true else (decide (y0.Shift > 15))) = true then
    some (10 : Int)
  else
    iter (jetsamref06_Check_L1 y0) 0
def jetsamref05_Head (y0 : Int) (y1 : Int) (y2 : Int) (y3 : Int) : Option Int :=
  if (if (if (if (decide (y2 < 1)) = true then true else (decide (y2 > 65535))) = true then true else (decide (y3 < 0))) = true then true else (decide (y3 > 32))) = true then
    some (1 : Int)
  else
    if (if (if (if (decide (y0 < 0)) = true then true else (decide (y0 > 1))) = true then true else (decide (y1 < 0))) = true then true else (decide (y1 > 15))) = true then
      some (10 : Int)
    else
      need (decide (y1 ≥ 0)) <|
      need ((shD .shl .i64 1 y1) != 0) <|
      if ((y2.tmod (shD .shl .i64 1 y1)) != 0) = true then
        some (12 : Int)
      else
        need (decide (y1 ≥ 0)) <|
        need ((shD .shl .i64 1 y1) != 0) <|
        if (decide ((W (y2.tdiv (shD .shl .i64 1 y1))) ≤ y3)) = true then
          some (12 : Int)
        else
          some (0 : Int)
def jetsamref05_Check_K2 (j3 : Unit) : Option Int :=
  some (0 : Int)
def jetsamref05_Check_K4 (a4 : Int) (j5 : Bool) (j6 : Bool) : Option (Int ⊕ Int) :=
  if (if (!j5) = true then (!j6) else false) = true then
    Option.map .inr <|
    some (10 : Int)
  else
    some (.inl (W (a4 + 1)))
def jetsamref05_Check_K3 (y0 : jetsamref05_Plan) (a4 : Int) (j5 : Bool) : Option (Int ⊕ Int) :=
  (idx y0.Params a4).bind fun p7 =>
  if (decide (p7 ≥ 0)) = true then
    (idx y0.Params a4).bind fun p8 =>
    if (decide (p8 ≤ (W (14 + (W (16 * y0.Method)))))) = true then
      (idx y0.Bits a4).bind fun p9 =>
      jetsamref05_Check_K4 a4 j5 (p9 == 0)
    else
      jetsamref05_Check_K4 a4 j5 false
  else
    jetsamref05_Check_K4 a4 j5 false
def jetsamref05_Check_L1 (y0 : jetsamref05_Plan) (a4 : Int) : Option (Int ⊕ Int) :=
  if (decide (a4 < (y0.Params.length : Int))) = true then
    (idx y0.Params a4).bind fun p10 =>
    if (p10 == (-1)) = true then
      (idx y0.Bits a4).bind fun p11 =>
      if (decide (p11 ≥ 0)) = true then
        (idx y0.Bits a4).bind fun p12 =>
        jetsamref05_Check_K3 y0 a4 (decide (p12 ≤ 31))
      else
        jetsamref05_Check_K3 y0 a4 false
    else
      jetsamref05_Check_K3 y0 a4 false
  else
    Option.map .inr <|
    jetsamref05_Check_K2 ()
def jetsamref05_Check_K1 (y0 : jetsamref05_Plan) (j2 : Bool) : Option Int :=
  if j2 = true then
    some (1 : Int)
  else
    iter (jetsamref05_Check_L1 y0) 0
def jetsamref05_Check (y0 : jetsamref05_Plan) (y1 : Int) (y2 : Int) : Option Int :=
  (jetsamref05_Head y0.Method y0.Order y1 y2).bind fun r1 =>
  if (r1 != 0) = true then
    some r1
  else
    need (decide (y0.Order ≥ 0)) <|
    if ((y0.Params.length : Int) != (shD .shl .i64 1 y0.Order)) = true then
      jetsamref05_Check_K1 y0 true
    else
      need (decide (y0.Order ≥ 0)) <|
      jetsamref05_Check_K1 y0 ((y0.Bits.length : Int) != (shD .shl .i64 1 y0.Order))
def jetsamref01_Put_x2_K1 (y1 : Int) (y2 : Bool) (y3 : List Int) (j1 : (List Int)) : Option (Int × (List Int)) :=
  (jetsamref01_Number j1 y2).bind fun r2 =>
  if (r2 != y1) = true then
    some (10, y3)
  else
    (app 8 y3 j1).bind fun l3 =>
    some (0, l3)
def jetsamref01_Put_x2_L1 (y1 : Int) (y2 : Bool) (y3 : List Int) (a4 : Int × (List Int)) : Option ((Int × (List Int)) ⊕ (Int × (List Int))) :=
  if (decide (a4.1 ≥ 0)) = true then
    need (decide (a4.1 ≥ 0)) <|
    (app 8 a4.2 [(arD .and .i64 (shD .shr .i64 y1 a4.1) 1)]).bind fun l5 =>
    some (.inl ((W (a4.1 - 1)), l5))
  else
    Option.map .inr <|
    jetsamref01_Put_x2_K1 y1 y2 y3 a4.2
def jetsamref01_Put_x2 (y0 : Int) (y1 : Int) (y2 : Bool) (y3 : List Int) : Option (Int × (List Int)) :=
  if (if (decide (y0 < 0)) = true then true else (decide (y0 > 48))) = true then
    some (1, y3)
  else
    iter (jetsamref01_Put_x2_L1 y1 y2 y3) ((W (y0 - 1)), [])
def jetsamref06_may (y0 : Int) : Option Bool :=
  some (if (decide (y0 ≥ (-4294967296))) = true then (decide (y0 < 4294967296)) else false)
def jetsamref06_Told_K2 (j2 : Int) : Option Int :=
  some j2
def jetsamref06_Told_K1 (y0 : jetsamref06_Linear) (j1 : Int) : Option Int :=
  need (decide (y0.Shift ≥ 0)) <|
  need ((shD .shl .i64 1 y0.Shift) != 0) <|
  if (decide ((W ((W (j1.tdiv (shD .shl .i64 1 y0.Shift))) * (shD .shl .i64 1 y0.Shift))) > j1)) = true then
    jetsamref06_Told_K2 (W ((W (j1.tdiv (shD .shl .i64 1 y0.Shift))) - 1))
  else
    jetsamref06_Told_K2 (W (j1.tdiv (shD .shl .i64 1 y0.Shift)))
def jetsamref06_Told_L1 (y0 : jetsamref06_Linear) (y1 : List Int) (a3 : Int × Int) : Option ((Int × Int) ⊕ Int) :=
  if (decide (a3.2 < (y0.Coefs.length : Int))) = true then
    (idx y0.Coefs a3.2).bind fun p4 =>
    (idx y1 (W ((W ((y1.length : Int) - 1)) - a3.2))).bind fun p5 =>
    some (.inl ((W (a3.1 + (W (p4 * p5)))), (W (a3.2 + 1))))
  else
    Option.map .inr <|
    jetsamref06_Told_K1 y0 a3.1
def jetsamref06_Told (y0 : jetsamref06_Linear) (y1 : List Int) : Option Int :=
  iter (jetsamref06_Told_L1 y0 y1) (0, 0)
def jetsamref06_Residual_K1 (j2 : (List Int)) : Option ((List Int) × Int) :=
  some (j2, (0 : Int))
def jetsamref06_Residual_K2 (a3 : Int × (List Int)) (j4 : (List Int)) : Option ((Int × (List Int)) ⊕ ((List Int) × Int)) :=
  some (.inl ((W (a3.1 + 1)), j4))
def jetsamref06_Residual_L1 (y0 : jetsamref06_Linear) (y1 : List Int) (a3 : Int × (List Int)) : Option ((Int × (List Int)) ⊕ ((List Int) × Int)) :=
  if (decide (a3.1 < (y1.length : Int))) = true then
    (idx y1 a3.1).bind fun p5 =>
    (jetsamref06_may p5).bind fun r6 =>
    if (!r6) = true then
      Option.map .inr <|
      some (([] : List Int), (10 : Int))
    else
      if (decide (a3.1 ≥ (y0.Coefs.length : Int))) = true then
        (idx y1 a3.1).bind fun p7 =>
        (sub y1 0 a3.1).bind fun l8 =>
        (jetsamref06_Told y0 l8).bind fun r9 =>
        (app 8 a3.2 [(W (p7 - r9))]).bind fun l10 =>
        jetsamref06_Residual_K2 a3 l10
      else
        jetsamref06_Residual_K2 a3 a3.2
  else
    Option.map .inr <|
    jetsamref06_Residual_K1 a3.2
def jetsamref06_Residual (y0 : jetsamref06_Linear) (y1 : List Int) : Option ((List Int) × Int) :=
  (jetsamref06_Check y0).bind fun r1 =>
  if (r1 != 0) = true then
    some (([] : List Int), r1)
  else
    if (decide ((y1.length : Int) < (y0.Coefs.length : Int))) = true then
      some (([] : List Int), (1 : Int))
    else
      iter (jetsamref06_Residual_L1 y0 y1) (0, [])
def jetsamref05_part (y0 : jetsamref05_Plan) (y1 : Int) (y2 : Int) (y3 : Int) : Option Int :=
  need (decide (y0.Order ≥ 0)) <|
  need ((shD .shl .i64 1 y0.Order) != 0) <|
  need ((W (y1.tdiv (shD .shl .i64 1 y0.Order))) != 0) <|
  some (W ((W (y3 + y2)).tdiv (W (y1.tdiv (shD .shl .i64 1 y0.Order)))))
def jetsamref01_Unary_x2_K1 (j1 : (List Int)) : Option (Int × (List Int)) :=
  (app 8 j1 [(1 : Int)]).bind fun l2 =>
  some (0, l2)
def jetsamref01_Unary_x2_L1 (y0 : Int) (a3 : Int × (List Int)) : Option ((Int × (List Int)) ⊕ (Int × (List Int))) :=
  if (decide (a3.1 < y0)) = true then
    (app 8 a3.2 [(0 : Int)]).bind fun l4 =>
    some (.inl ((W (a3.1 + 1)), l4))
  else
    Option.map .inr <|
    jetsamref01_Unary_x2_K1 a3.2
def jetsamref01_Unary_x2 (y0 : Int) : Option (Int × (List Int)) :=
  if (if (decide (y0 < 0)) = true then true else (decide (y0 > 65536))) = true then
    some (10, [])
  else
    iter (jetsamref01_Unary_x2_L1 y0) (0, [])
def jetsamref05_one_K1 (y1 : Int) (j2 : Int) : Option ((List Int) × Bool) :=
  need (decide (y1 ≥ 0)) <|
  if (decide ((shD .shr .i64 j2 y1) > 65536)) = true then
    some (([] : List Int), false)
  else
    need (decide (y1 ≥ 0)) <|
    lett ((shD .shr .i64 j2 y1)) fun t3 =>
    (jetsamref01_Unary_x2 t3).bind fun r4 =>
    if (r4.1 != 0) = true then
      some (([] : List Int), false)
    else
      need (decide (y1 ≥ 0)) <|
      need ((shD .shl .i64 1 y1) != 0) <|
      lett ((j2.tmod (shD .shl .i64 1 y1))) fun t5 =>
      (jetsamref01_Put_x2 y1 t5 false r4.2).bind fun r6 =>
      some (r6.2, (r6.1 == 0))
def jetsamref05_one (y0 : Int) (y1 : Int) (y2 : Int) : Option ((List Int) × Bool) :=
  if (if (decide (y0 ≤ (-2147483648))) = true then true else (decide (y0 ≥ 2147483648))) = true then
    some (([] : List Int), false)
  else
    if (decide (y1 < 0)) = true then
      (jetsamref01_Put y2 y0 true).bind fun r1 =>
      some (r1.2, (r1.1 == 0))
    else
      if (decide (y0 < 0)) = true then
        jetsamref05_one_K1 y1 (W ((W ((-2) * y0)) - 1))
      else
        jetsamref05_one_K1 y1 (W (2 * y0))
def jetsamref05_Bits_K1 (j4 : (List Int)) : Option ((List Int) × Int) :=
  some (j4, (0 : Int))
def jetsamref05_Bits_K2 (a5 : Int × Int × (List Int)) (j6 : Int × (List Int)) : Option ((Int × Int × (List Int)) ⊕ ((List Int) × Int)) :=
  some (.inl (j6.1, (W (a5.2.1 + 1)), j6.2))
def jetsamref05_Bits_L2 (y0 : jetsamref05_Plan) (y1 : Int) (y2 : List Int) (a5 : Int × Int × (List Int)) (a8 : Int × (List Int)) : Option ((Int × (List Int)) ⊕ ((Int × Int × (List Int)) ⊕ ((List Int) × Int))) :=
  if (decide (a8.1 < (y2.length : Int))) = true then
    (jetsamref05_part y0 (W ((y2.length : Int) + y1)) y1 a8.1).bind fun r9 =>
    if (r9 == a5.2.1) = true then
      (idx y2 a8.1).bind fun p10 =>
      (idx y0.Params a5.2.1).bind fun p11 =>
      (idx y0.Bits a5.2.1).bind fun p12 =>
      (jetsamref05_one p10 p11 p12).bind fun r13 =>
      if (!r13.2) = true then
        Option.map .inr <|
        Option.map .inr <|
        some (([] : List Int), (10 : Int))
      else
        (app 8 a8.2 r13.1).bind fun l14 =>
        some (.inl ((W (a8.1 + 1)), l14))
    else
      Option.map .inr <|
      jetsamref05_Bits_K2 a5 (a8.1, a8.2)
  else
    Option.map .inr <|
    jetsamref05_Bits_K2 a5 (a8.1, a8.2)
def jetsamref05_Bits_K3 (y0 : jetsamref05_Plan) (y1 : Int) (y2 : List Int) (a5 : Int × Int × (List Int)) (j7 : (List Int)) : Option ((Int × Int × (List Int)) ⊕ ((List Int) × Int)) :=
  iter (jetsamref05_Bits_L2 y0 y1 y2 a5) (a5.1, j7)
def jetsamref05_Bits_L1 (y0 : jetsamref05_Plan) (y1 : Int) (y2 : List Int) (a5 : Int × Int × (List Int)) : Option ((Int × Int × (List Int)) ⊕ ((List Int) × Int)) :=
  if (decide (a5.2.1 < (y0.Params.length : Int))) = true then
    (idx y0.Params a5.2.1).bind fun p15 =>
    if (decide (p15 < 0)) = true then
      need (decide ((W (4 + y0.Method)) ≥ 0)) <|
      lett ((W (4 + y0.Method))) fun t16 =>
      lett ((W ((shD .shl .i64 1 (W (4 + y0.Method))) - 1))) fun t17 =>
      (jetsamref01_Put_x2 t16 t17 false a5.2.2).bind fun r18 =>
      (idx y0.Bits a5.2.1).bind fun p19 =>
      (jetsamref01_Put_x2 (5 : Int) p19 false r18.2).bind fun r20 =>
      jetsamref05_Bits_K3 y0 y1 y2 a5 r20.2
    else
      (idx y0.Params a5.2.1).bind fun p21 =>
      lett ((W (4 + y0.Method))) fun t22 =>
      (jetsamref01_Put_x2 t22 p21 false a5.2.2).bind fun r23 =>
      jetsamref05_Bits_K3 y0 y1 y2 a5 r23.2
  else
    Option.map .inr <|
    jetsamref05_Bits_K1 a5.2.2
def jetsamref05_Bits (y0 : jetsamref05_Plan) (y1 : Int) (y2 : List Int) : Option ((List Int) × Int) :=
  (jetsamref05_Check y0 (W ((y2.length : Int) + y1)) y1).bind fun r1 =>
  if (r1 != 0) = true then
    some (([] : List Int), r1)
  else
    (jetsamref01_Put (2 : Int) y0.Method false).bind fun r2 =>
    (jetsamref01_Put_x2 (4 : Int) y0.Order false r2.2).bind fun r3 =>
    iter (jetsamref05_Bits_L1 y0 y1 y2) (0, 0, r3.2)
def jetsamref07_Bits_K9 (y0 : jetsamref07_Plan) (r2 : (List Int) × Bool) (j10 : Int × Int × (List Int)) (j13 : (List Int)) : Option ((List Int) × Int) :=
  (jetsamref06_Residual (⟨j10.1, j10.2.1, j10.2.2⟩ : jetsamref06_Linear) r2.1).bind fun r14 =>
  (jetsamref05_Bits y0.Rice y0.Order r14.1).bind fun r15 =>
  if (r15.2 != 0) = true then
    some (([] : List Int), r15.2)
  else
    (app 8 j13 r15.1).bind fun l16 =>
    some (l16, (0 : Int))
def jetsamref07_Bits_L1 (y0 : jetsamref07_Plan) (r2 : (List Int) × Bool) (j10 : Int × Int × (List Int)) (a20 : Int × (List Int)) : Option ((Int × (List Int)) ⊕ ((List Int) × Int)) :=
  if (decide (a20.1 < (j10.2.2.length : Int))) = true then
    (idx j10.2.2 a20.1).bind fun p21 =>
    (jetsamref01_Put_x2 j10.1 p21 true a20.2).bind fun r22 =>
    some (.inl ((W (a20.1 + 1)), r22.2))
  else
    Option.map .inr <|
    jetsamref07_Bits_K9 y0 r2 j10 a20.2
def jetsamref07_Bits_K8 (y0 : jetsamref07_Plan) (r2 : (List Int) × Bool) (j10 : Int × Int × (List Int)) (j12 : (List Int)) : Option ((List Int) × Int) :=
  if (decide (y0.Kind < 2)) = true then
    some (j12, (0 : Int))
  else
    if (y0.Kind == 3) = true then
      lett ((W (j10.1 - 1))) fun t17 =>
      (jetsamref01_Put_x2 (4 : Int) t17 false j12).bind fun r18 =>
      (jetsamref01_Put_x2 (5 : Int) j10.2.1 true r18.2).bind fun r19 =>
      iter (jetsamref07_Bits_L1 y0 r2 j10) (0, r19.2)
    else
      jetsamref07_Bits_K9 y0 r2 j10 j12
def jetsamref07_Bits_L2 (y0 : jetsamref07_Plan) (y1 : Int) (r2 : (List Int) × Bool) (j9 : Int) (j10 : Int × Int × (List Int)) (a23 : Int × (List Int)) : Option ((Int × (List Int)) ⊕ ((List Int) × Int)) :=
  if (decide (a23.1 < j9)) = true then
    (idx r2.1 a23.1).bind fun p24 =>
    lett ((W (y1 - y0.Wasted))) fun t25 =>
    (jetsamref01_Put_x2 t25 p24 true a23.2).bind fun r26 =>
    some (.inl ((W (a23.1 + 1)), r26.2))
  else
    Option.map .inr <|
    jetsamref07_Bits_K8 y0 r2 j10 a23.2
def jetsamref07_Bits_K7 (y0 : jetsamref07_Plan) (y1 : Int) (r2 : (List Int) × Bool) (j7 : (List Int)) (j9 : Int) (j10 : Int × Int × (List Int)) (j11 : Unit) : Option ((List Int) × Int) :=
  iter (jetsamref07_Bits_L2 y0 y1 r2 j9 j10) (0, j7)
def jetsamref07_Bits_K10 (y0 : jetsamref07_Plan) (y1 : Int) (r2 : (List Int) × Bool) (j7 : (List Int)) (j9 : Int) (j10 : Int × Int × (List Int)) (j28 : Int) : Option ((List Int) × Int) :=
  if (j28 != 0) = true then
    some (([] : List Int), j28)
  else
    jetsamref07_Bits_K7 y0 y1 r2 j7 j9 j10 ()
def jetsamref07_Bits_K6 (y0 : jetsamref07_Plan) (y1 : Int) (r2 : (List Int) × Bool) (j7 : (List Int)) (j9 : Int) (j10 : Int × Int × (List Int)) : Option ((List Int) × Int) :=
  if (decide (y0.Kind > 1)) = true then
    (jetsamref06_Check (⟨j10.1, j10.2.1, j10.2.2⟩ : jetsamref06_Linear)).bind fun r27 =>
    if (r27 == 0) = true then
      (jetsamref05_Check y0.Rice (r2.1.length : Int) y0.Order).bind fun r29 =>
      jetsamref07_Bits_K10 y0 y1 r2 j7 j9 j10 r29
    else
      jetsamref07_Bits_K10 y0 y1 r2 j7 j9 j10 r27
  else
    jetsamref07_Bits_K7 y0 y1 r2 j7 j9 j10 ()
def jetsamref07_Bits_K5 (y0 : jetsamref07_Plan) (y1 : Int) (r2 : (List Int) × Bool) (j7 : (List Int)) (j9 : Int) : Option ((List Int) × Int) :=
  if (y0.Kind == 2) = true then
    (jetsamref07_Coefs y0.Order).bind fun r30 =>
    jetsamref07_Bits_K6 y0 y1 r2 j7 j9 (r30.Precision, r30.Shift, r30.Coefs)
  else
    jetsamref07_Bits_K6 y0 y1 r2 j7 j9 (y0.Linear.Precision, y0.Linear.Shift, y0.Linear.Coefs)
def jetsamref07_Bits_K4 (y0 : jetsamref07_Plan) (y1 : Int) (r2 : (List Int) × Bool) (j7 : (List Int)) (j8 : Int) : Option ((List Int) × Int) :=
  if (y0.Kind == 1) = true then
    jetsamref07_Bits_K5 y0 y1 r2 j7 (r2.1.length : Int)
  else
    jetsamref07_Bits_K5 y0 y1 r2 j7 j8
def jetsamref07_Bits_L3 (y0 : jetsamref07_Plan) (y1 : Int) (r2 : (List Int) × Bool) (j7 : (List Int)) (a31 : Int) : Option (Int ⊕ ((List Int) × Int)) :=
  if (decide (a31 < (r2.1.length : Int))) = true then
    (idx r2.1 a31).bind fun p32 =>
    (idx r2.1 0).bind fun p33 =>
    if (p32 != p33) = true then
      Option.map .inr <|
      some (([] : List Int), (12 : Int))
    else
      some (.inl (W (a31 + 1)))
  else
    Option.map .inr <|
    jetsamref07_Bits_K4 y0 y1 r2 j7 1
def jetsamref07_Bits_K3 (y0 : jetsamref07_Plan) (y1 : Int) (r2 : (List Int) × Bool) (j7 : (List Int)) : Option ((List Int) × Int) :=
  if (y0.Kind == 0) = true then
    iter (jetsamref07_Bits_L3 y0 y1 r2 j7) 0
  else
    jetsamref07_Bits_K4 y0 y1 r2 j7 y0.Order
def jetsamref07_Bits_K2 (y0 : jetsamref07_Plan) (y1 : Int) (r2 : (List Int) × Bool) (j5 : Int) : Option ((List Int) × Int) :=
  (jetsamref01_Put (7 : Int) j5 false).bind fun r6 =>
  if (y0.Wasted == 0) = true then
    (app 8 r6.2 [(0 : Int)]).bind fun l34 =>
    jetsamref07_Bits_K3 y0 y1 r2 l34
  else
    (app 8 r6.2 [(1 : Int)]).bind fun l35 =>
    lett ((W (y0.Wasted - 1))) fun t36 =>
    (jetsamref01_Unary t36 l35).bind fun r37 =>
    jetsamref07_Bits_K3 y0 y1 r2 r37.2
def jetsamref07_Bits_K1 (y0 : jetsamref07_Plan) (y1 : Int) (r2 : (List Int) × Bool) (j4 : Int) : Option ((List Int) × Int) :=
  if (y0.Kind == 3) = true then
    jetsamref07_Bits_K2 y0 y1 r2 (W (31 + y0.Order))
  else
    jetsamref07_Bits_K2 y0 y1 r2 j4
def jetsamref07_Bits (y0 : jetsamref07_Plan) (y1 : Int) (y2 : List Int) : Option ((List Int) × Int) :=
  if (if (if (if (decide (y1 < 4)) = true then true else (decide (y1 > 33))) = true then true else (decide ((y2.length : Int) < 1))) = true then true else (decide ((y2.length : Int) > 65535))) = true then
    some (([] : List Int), (1 : Int))
  else
    (jetsamref07_shape y0 y1).bind fun r1 =>
    if (r1 != 0) = true then
      some (([] : List Int), r1)
    else
      (jetsamref07_Less y0.Wasted y2).bind fun r2 =>
      (jetsamref07_Fits y1 y2).bind fun r3 =>
      if (if (!r3) = true then true else (!r2.2)) = true then
        some (([] : List Int), (10 : Int))
      else
        if (y0.Kind == 2) = true then
          jetsamref07_Bits_K1 y0 y1 r2 (W (8 + y0.Order))
        else
          jetsamref07_Bits_K1 y0 y1 r2 y0.Kind
def jetsamlaw01_Ints_K1 (j1 : Unit) : Option Bool :=
  some true
def jetsamlaw01_Ints_L1 (y0 : List Int) (y1 : List Int) (a2 : Int) : Option (Int ⊕ Bool) :=
  if (decide (a2 < (y0.length : Int))) = true then
    (idx y0 a2).bind fun p3 =>
    (idx y1 a2).bind fun p4 =>
    if (p3 != p4) = true then
      Option.map .inr <|
      some false
    else
      some (.inl (W (a2 + 1)))
  else
    Option.map .inr <|
    jetsamlaw01_Ints_K1 ()
def jetsamlaw01_Ints (y0 : List Int) (y1 : List Int) : Option Bool :=
  if ((y0.length : Int) != (y1.length : Int)) = true then
    some false
  else
    iter (jetsamlaw01_Ints_L1 y0 y1) 0
def jetsamlaw07_SubframeReads (y0 : List Int) (y1 : Int) (y2 : Arr2 Int) : Option Bool :=
  if (decide ((y0.length : Int) > 200)) = true then
    (jetsamlaw07_awake).bind fun r1 =>
    some r1
  else
    if (decide (y2.a0 > 100)) = true then
      if (decide (y2.a0 ≤ 65535)) = true then
        (jetsamlaw07_awake).bind fun r2 =>
        some r2
      else
        (bits_NewReader y0).bind fun r3 =>
        (bits_Reader_Seek y1 (⟨(⟨(0 : Int)⟩ : bits_place), r3⟩ : bits_Reader)).bind fun r4 =>
        (bits_Reader_At (⟨(⟨r4.2⟩ : bits_place), r3⟩ : bits_Reader)).bind fun r5 =>
        (subframe_Read y2.a0 y2.a1 (⟨(⟨r4.2⟩ : bits_place), r3⟩ : bits_Reader)).bind fun r6 =>
        if (decide (y2.a0 < 1)) = true then
          if (if (r6.2.2.2.2.2.2.2.2.2.2.2.1 == 1) = true then ((r6.1.length : Int) == 0) else false) = true then
            (bits_Reader_At (⟨(⟨r6.2.2.2.2.2.2.2.2.2.2.2.2⟩ : bits_place), r3⟩ : bits_Reader)).bind fun r7 =>
            if (r6.2.2.2.2.2.2.2.2.2.2.2.2 == r4.2) = true then
              (jetsamlaw07_awake).bind fun r8 =>
              some r8
            else
              some false
          else
            some false
        else
          if (decide (y2.a0 > 65535)) = true then
            if (if (r6.2.2.2.2.2.2.2.2.2.2.2.1 == 1) = true then ((r6.1.length : Int) == 0) else false) = true then
              (bits_Reader_At (⟨(⟨r6.2.2.2.2.2.2.2.2.2.2.2.2⟩ : bits_place), r3⟩ : bits_Reader)).bind fun r9 =>
              if (r6.2.2.2.2.2.2.2.2.2.2.2.2 == r4.2) = true then
                (jetsamlaw07_awake).bind fun r10 =>
                some r10
              else
                some false
            else
              some false
          else
            if (decide (y2.a1 < 4)) = true then
              if (if (r6.2.2.2.2.2.2.2.2.2.2.2.1 == 1) = true then ((r6.1.length : Int) == 0) else false) = true then
                (bits_Reader_At (⟨(⟨r6.2.2.2.2.2.2.2.2.2.2.2.2⟩ : bits_place), r3⟩ : bits_Reader)).bind fun r11 =>
                if (r6.2.2.2.2.2.2.2.2.2.2.2.2 == r4.2) = true then
                  (jetsamlaw07_awake).bind fun r12 =>
                  some r12
                else
                  some false
              else
                some false
            else
              if (decide (y2.a1 > 33)) = true then
                if (if (r6.2.2.2.2.2.2.2.2.2.2.2.1 == 1) = true then ((r6.1.length : Int) == 0) else false) = true then
                  (bits_Reader_At (⟨(⟨r6.2.2.2.2.2.2.2.2.2.2.2.2⟩ : bits_place), r3⟩ : bits_Reader)).bind fun r13 =>
                  if (r6.2.2.2.2.2.2.2.2.2.2.2.2 == r4.2) = true then
                    (jetsamlaw07_awake).bind fun r14 =>
                    some r14
                  else
                    some false
                else
                  some false
              else
                if (r6.2.2.2.2.2.2.2.2.2.2.2.1 != 0) = true then
                  if (if (if (if (if (r6.2.2.2.2.2.2.2.2.2.2.2.1 == 13) = true then true else (r6.2.2.2.2.2.2.2.2.2.2.2.1 == 12)) = true then true else (r6.2.2.2.2.2.2.2.2.2.2.2.1 == 10)) = true then true else (r6.2.2.2.2.2.2.2.2.2.2.2.1 == 11)) = true then ((r6.1.length : Int) == 0) else false) = true then
                    (bits_Reader_At (⟨(⟨r6.2.2.2.2.2.2.2.2.2.2.2.2⟩ : bits_place), r3⟩ : bits_Reader)).bind fun r15 =>
                    if (r6.2.2.2.2.2.2.2.2.2.2.2.2 == r4.2) = true then
                      (jetsamlaw07_awake).bind fun r16 =>
                      some r16
                    else
                      some false
                  else
                    some false
                else
                  (jetsamref01_Bits y0).bind fun r17 =>
                  (jetsamlaw07_Plain (⟨r6.2.1, r6.2.2.1, r6.2.2.2.1, (⟨r6.2.2.2.2.1, r6.2.2.2.2.2.1, r6.2.2.2.2.2.2.1⟩ : predict_Linear), (⟨r6.2.2.2.2.2.2.2.1, r6.2.2.2.2.2.2.2.2.1, r6.2.2.2.2.2.2.2.2.2.1, r6.2.2.2.2.2.2.2.2.2.2.1⟩ : rice_Plan)⟩ : subframe_Plan)).bind fun r18 =>
                  (jetsamref07_Bits r18 y2.a1 r6.1).bind fun r19 =>
                  if (r19.2 == 0) = true then
                    if ((r6.1.length : Int) == y2.a0) = true then
                      (bits_Reader_At (⟨(⟨r6.2.2.2.2.2.2.2.2.2.2.2.2⟩ : bits_place), r3⟩ : bits_Reader)).bind fun r20 =>
                      if ((W (r4.2 + (r19.1.length : Int))) == r6.2.2.2.2.2.2.2.2.2.2.2.2) = true then
                        (bits_Reader_At (⟨(⟨r6.2.2.2.2.2.2.2.2.2.2.2.2⟩ : bits_place), r3⟩ : bits_Reader)).bind fun r21 =>
                        if (decide (r6.2.2.2.2.2.2.2.2.2.2.2.2 ≤ (r17.length : Int))) = true then
                          (bits_Reader_At (⟨(⟨r6.2.2.2.2.2.2.2.2.2.2.2.2⟩ : bits_place), r3⟩ : bits_Reader)).bind fun r22 =>
                          (sub r17 r4.2 r6.2.2.2.2.2.2.2.2.2.2.2.2).bind fun l23 =>
                          (jetsamlaw01_Ints r19.1 l23).bind fun r24 =>
                          if r24 = true then
                            (jetsamlaw07_awake).bind fun r25 =>
                            some r25
                          else
                            some false
                        else
                          some false
                      else
                        some false
                    else
                      some false
                  else
                    some false
    else
      (bits_NewReader y0).bind fun r26 =>
      (bits_Reader_Seek y1 (⟨(⟨(0 : Int)⟩ : bits_place), r26⟩ : bits_Reader)).bind fun r27 =>
      (bits_Reader_At (⟨(⟨r27.2⟩ : bits_place), r26⟩ : bits_Reader)).bind fun r28 =>
      (subframe_Read y2.a0 y2.a1 (⟨(⟨r27.2⟩ : bits_place), r26⟩ : bits_Reader)).bind fun r29 =>
      if (decide (y2.a0 < 1)) = true then
        if (if (r29.2.2.2.2.2.2.2.2.2.2.2.1 == 1) = true then ((r29.1.length : Int) == 0) else false) = true then
          (bits_Reader_At (⟨(⟨r29.2.2.2.2.2.2.2.2.2.2.2.2⟩ : bits_place), r26⟩ : bits_Reader)).bind fun r30 =>
          if (r29.2.2.2.2.2.2.2.2.2.2.2.2 == r27.2) = true then
            (jetsamlaw07_awake).bind fun r31 =>
            some r31
          else
            some false
        else
          some false
      else
        if (decide (y2.a0 > 65535)) = true then
          if (if (r29.2.2.2.2.2.2.2.2.2.2.2.1 == 1) = true then ((r29.1.length : Int) == 0) else false) = true then
            (bits_Reader_At (⟨(⟨r29.2.2.2.2.2.2.2.2.2.2.2.2⟩ : bits_place), r26⟩ : bits_Reader)).bind fun r32 =>
            if (r29.2.2.2.2.2.2.2.2.2.2.2.2 == r27.2) = true then
              (jetsamlaw07_awake).bind fun r33 =>
              some r33
            else
              some false
          else
            some false
        else
          if (decide (y2.a1 < 4)) = true then
            if (if (r29.2.2.2.2.2.2.2.2.2.2.2.1 == 1) = true then ((r29.1.length : Int) == 0) else false) = true then
              (bits_Reader_At (⟨(⟨r29.2.2.2.2.2.2.2.2.2.2.2.2⟩ : bits_place), r26⟩ : bits_Reader)).bind fun r34 =>
              if (r29.2.2.2.2.2.2.2.2.2.2.2.2 == r27.2) = true then
                (jetsamlaw07_awake).bind fun r35 =>
                some r35
              else
                some false
            else
              some false
          else
            if (decide (y2.a1 > 33)) = true then
              if (if (r29.2.2.2.2.2.2.2.2.2.2.2.1 == 1) = true then ((r29.1.length : Int) == 0) else false) = true then
                (bits_Reader_At (⟨(⟨r29.2.2.2.2.2.2.2.2.2.2.2.2⟩ : bits_place), r26⟩ : bits_Reader)).bind fun r36 =>
                if (r29.2.2.2.2.2.2.2.2.2.2.2.2 == r27.2) = true then
                  (jetsamlaw07_awake).bind fun r37 =>
                  some r37
                else
                  some false
              else
                some false
            else
              if (r29.2.2.2.2.2.2.2.2.2.2.2.1 != 0) = true then
                if (if (if (if (if (r29.2.2.2.2.2.2.2.2.2.2.2.1 == 13) = true then true else (r29.2.2.2.2.2.2.2.2.2.2.2.1 == 12)) = true then true else (r29.2.2.2.2.2.2.2.2.2.2.2.1 == 10)) = true then true else (r29.2.2.2.2.2.2.2.2.2.2.2.1 == 11)) = true then ((r29.1.length : Int) == 0) else false) = true then
                  (bits_Reader_At (⟨(⟨r29.2.2.2.2.2.2.2.2.2.2.2.2⟩ : bits_place), r26⟩ : bits_Reader)).bind fun r38 =>
                  if (r29.2.2.2.2.2.2.2.2.2.2.2.2 == r27.2) = true then
                    (jetsamlaw07_awake).bind fun r39 =>
                    some r39
                  else
                    some false
                else
                  some false
              else
                (jetsamref01_Bits y0).bind fun r40 =>
                (jetsamlaw07_Plain (⟨r29.2.1, r29.2.2.1, r29.2.2.2.1, (⟨r29.2.2.2.2.1, r29.2.2.2.2.2.1, r29.2.2.2.2.2.2.1⟩ : predict_Linear), (⟨r29.2.2.2.2.2.2.2.1, r29.2.2.2.2.2.2.2.2.1, r29.2.2.2.2.2.2.2.2.2.1, r29.2.2.2.2.2.2.2.2.2.2.1⟩ : rice_Plan)⟩ : subframe_Plan)).bind fun r41 =>
                (jetsamref07_Bits r41 y2.a1 r29.1).bind fun r42 =>
                if (r42.2 == 0) = true then
                  if ((r29.1.length : Int) == y2.a0) = true then
                    (bits_Reader_At (⟨(⟨r29.2.2.2.2.2.2.2.2.2.2.2.2⟩ : bits_place), r26⟩ : bits_Reader)).bind fun r43 =>
                    if ((W (r27.2 + (r42.1.length : Int))) == r29.2.2.2.2.2.2.2.2.2.2.2.2) = true then
                      (bits_Reader_At (⟨(⟨r29.2.2.2.2.2.2.2.2.2.2.2.2⟩ : bits_place), r26⟩ : bits_Reader)).bind fun r44 =>
                      if (decide (r29.2.2.2.2.2.2.2.2.2.2.2.2 ≤ (r40.length : Int))) = true then
                        (bits_Reader_At (⟨(⟨r29.2.2.2.2.2.2.2.2.2.2.2.2⟩ : bits_place), r26⟩ : bits_Reader)).bind fun r45 =>
                        (sub r40 r27.2 r29.2.2.2.2.2.2.2.2.2.2.2.2).bind fun l46 =>
                        (jetsamlaw01_Ints r42.1 l46).bind fun r47 =>
                        if r47 = true then
                          (jetsamlaw07_awake).bind fun r48 =>
                          some r48
                        else
                          some false
                      else
                        some false
                    else
                      some false
                  else
                    some false
                else
                  some false
end Go.Vg
