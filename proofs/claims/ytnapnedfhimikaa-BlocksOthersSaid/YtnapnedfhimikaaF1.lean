/- What the functions answer, printed by a program. -/
import Derived.Test.YtnapnedfhimikaaVhS
import Derived.Test.YtnapnedfhimikaaVhR
set_option maxRecDepth 4000
set_option linter.all false
set_option linter.unusedVariables false
set_option linter.unusedSimpArgs false
namespace Go.Vg
open Go
structure blocks_Point where
  Sample : Int
  Offset : Int
  Count : Int
def e_blocks_Point (p : blocks_Point) : V := .agg [.int .i64 (.v p.Sample), .int .i64 (.v p.Offset), .int .i64 (.v p.Count)]
structure blocks_Block where
  m_Type : Int
  Data : List Int
def e_blocks_Block (p : blocks_Block) : V := .agg [.int .i64 (.v p.m_Type), .sl 1 e_u8 p.Data]
def blocks_Zeros (y0 : Int) : Option (blocks_Block × Int) :=
  if (if (decide (y0 < 0)) = true then true else (decide (y0 > 16777215))) = true then
    some ((⟨(0 : Int), ([] : List Int)⟩ : blocks_Block), (10 : Int))
  else
    (mks 1 y0 (0 : Int)).bind fun l1 =>
    some ((⟨(1 : Int), l1⟩ : blocks_Block), (0 : Int))
def blocks_big_K1 (j2 : (List Int)) : Option (List Int) :=
  some j2
def blocks_big_L1 (y0 : Int) (y1 : Int) (l1 : List Int) (a3 : Int × (List Int)) : Option ((Int × (List Int)) ⊕ (List Int)) :=
  if (decide (a3.1 < (l1.length : Int))) = true then
    need (decide ((W (8 * a3.1)) ≥ 0)) <|
    need (decide ((W ((W (y1 - 1)) - a3.1)) ≥ 0)) <|
    need (decide ((W ((W (y1 - 1)) - a3.1)) < (a3.2.length : Int))) <|
    (upd a3.2 (W ((W (y1 - 1)) - a3.1)) (IntKind.u8.wrap (shD .shr .i64 y0 (W (8 * a3.1))))).bind fun l4 =>
    some (.inl ((W (a3.1 + 1)), l4))
  else
    Option.map .inr <|
    blocks_big_K1 a3.2
def blocks_big (y0 : Int) (y1 : Int) : Option (List Int) :=
  (mks 1 y1 (0 : Int)).bind fun l1 =>
  iter (blocks_big_L1 y0 y1 l1) (0, l1)
def slices_Concat_sbyte_byte_K2 (j3 : (List Int)) : Option (List Int) :=
  some j3
def slices_Concat_sbyte_byte_L1 (y0 : List (List Int)) (a4 : Int × (List Int)) : Option ((Int × (List Int)) ⊕ (List Int)) :=
  if (decide (a4.1 < (y0.length : Int))) = true then
    (idx y0 a4.1).bind fun p5 =>
    (app 1 a4.2 p5).bind fun l6 =>
    some (.inl ((W (a4.1 + 1)), l6))
  else
    Option.map .inr <|
    slices_Concat_sbyte_byte_K2 a4.2
def slices_Concat_sbyte_byte_K1 (y0 : List (List Int)) (j1 : Int) : Option (List Int) :=
  (growF j1).bind fun r2 =>
  iter (slices_Concat_sbyte_byte_L1 y0) (0, r2)
def slices_Concat_sbyte_byte_L2 (y0 : List (List Int)) (a7 : Int × Int) : Option ((Int × Int) ⊕ (List Int)) :=
  if (decide (a7.2 < (y0.length : Int))) = true then
    (idx y0 a7.2).bind fun p8 =>
    if (decide ((W (a7.1 + (p8.length : Int))) < 0)) = true then
      none
    else
      some (.inl ((W (a7.1 + (p8.length : Int))), (W (a7.2 + 1))))
  else
    Option.map .inr <|
    slices_Concat_sbyte_byte_K1 y0 a7.1
def slices_Concat_sbyte_byte (y0 : List (List Int)) : Option (List Int) :=
  iter (slices_Concat_sbyte_byte_L2 y0) (0, 0)
def blocks_Write_K1 (j1 : (List Int)) : Option ((List Int) × Int) :=
  some (j1, (0 : Int))
def blocks_Write_K2 (a2 : (List Int) × Int) (p3 : blocks_Block) (j4 : Int) : Option (((List Int) × Int) ⊕ ((List Int) × Int)) :=
  (blocks_big (p3.Data.length : Int) (3 : Int)).bind fun r5 =>
  (slices_Concat_sbyte_byte [a2.1, [(IntKind.u8.wrap j4)], r5, p3.Data]).bind fun r6 =>
  some (.inl (r6, (W (a2.2 + 1))))
def blocks_Write_L1 (y0 : List blocks_Block) (a2 : (List Int) × Int) : Option (((List Int) × Int) ⊕ ((List Int) × Int)) :=
  if (decide (a2.2 < (y0.length : Int))) = true then
    (idx y0 a2.2).bind fun p3 =>
    if (if (decide (p3.m_Type < 0)) = true then true else (decide (p3.m_Type ≥ 127))) = true then
      Option.map .inr <|
      some (([] : List Int), (13 : Int))
    else
      if (decide ((p3.Data.length : Int) > 16777215)) = true then
        Option.map .inr <|
        some (([] : List Int), (21 : Int))
      else
        if (a2.2 == (W ((y0.length : Int) - 1))) = true then
          blocks_Write_K2 a2 p3 (W (p3.m_Type + 128))
        else
          blocks_Write_K2 a2 p3 p3.m_Type
  else
    Option.map .inr <|
    blocks_Write_K1 a2.1
def blocks_Write (y0 : List blocks_Block) : Option ((List Int) × Int) :=
  if ((y0.length : Int) == 0) = true then
    some (([] : List Int), (20 : Int))
  else
    iter (blocks_Write_L1 y0) ([], 0)
def blocks_number_K1 (j1 : Int) : Option Int :=
  some j1
def blocks_number_L1 (y0 : List Int) (a2 : Int × Int) : Option ((Int × Int) ⊕ Int) :=
  if (decide (a2.2 < (y0.length : Int))) = true then
    (idx y0 a2.2).bind fun p3 =>
    some (.inl ((arD .or .i64 (shD .shl .i64 a2.1 8) p3), (W (a2.2 + 1))))
  else
    Option.map .inr <|
    blocks_number_K1 a2.1
def blocks_number (y0 : List Int) : Option Int :=
  iter (blocks_number_L1 y0) (0, 0)
def blocks_order_K1 (j1 : Unit) : Option Int :=
  some (0 : Int)
def blocks_order_L1 (y0 : List blocks_Point) (a2 : Int) : Option (Int ⊕ Int) :=
  if (decide (a2 < (y0.length : Int))) = true then
    (idx y0 a2).bind fun p3 =>
    if (p3.Sample != (-1)) = true then
      (idx y0 a2).bind fun p4 =>
      (idx y0 (W (a2 - 1))).bind fun p5 =>
      if (decide (p4.Sample ≤ p5.Sample)) = true then
        Option.map .inr <|
        some (18 : Int)
      else
        (idx y0 (W (a2 - 1))).bind fun p6 =>
        if (p6.Sample == (-1)) = true then
          (idx y0 a2).bind fun p7 =>
          if (p7.Sample != (-1)) = true then
            Option.map .inr <|
            some (18 : Int)
          else
            some (.inl (W (a2 + 1)))
        else
          some (.inl (W (a2 + 1)))
    else
      (idx y0 (W (a2 - 1))).bind fun p8 =>
      if (p8.Sample == (-1)) = true then
        (idx y0 a2).bind fun p9 =>
        if (p9.Sample != (-1)) = true then
          Option.map .inr <|
          some (18 : Int)
        else
          some (.inl (W (a2 + 1)))
      else
        some (.inl (W (a2 + 1)))
  else
    Option.map .inr <|
    blocks_order_K1 ()
def blocks_order (y0 : List blocks_Point) : Option Int :=
  iter (blocks_order_L1 y0) 1
def blocks_Points_K1 (j1 : (List blocks_Point)) : Option ((List blocks_Point) × Int) :=
  (blocks_order j1).bind fun r2 =>
  if (r2 != 0) = true then
    some (([] : List blocks_Point), r2)
  else
    some (j1, (0 : Int))
def blocks_Points_L1 (p4 : List Int) (a5 : (List blocks_Point)) : Option ((List blocks_Point) ⊕ (List blocks_Point)) :=
  (sub p4 0 8).bind fun l7 =>
  (sub p4 8 16).bind fun l8 =>
  (sub p4 16 (p4.length : Int)).bind fun l9 =>
  (blocks_number l7).bind fun r10 =>
  (blocks_number l8).bind fun r11 =>
  (blocks_number l9).bind fun r12 =>
  if (if (decide (r10 < (-1))) = true then true else (decide (r11 < 0))) = true then
    some (.inr a5)
  else
    (app 24 a5 [(⟨r10, r11, r12⟩ : blocks_Point)]).bind fun l13 =>
    some (.inl l13)
def blocks_Points_K2 (a5 : (List blocks_Point)) : Option ((List blocks_Point) × Int) :=
  blocks_Points_K1 a5
def blocks_Points_K3 (b6 : (List blocks_Point)) : Option ((List blocks_Point) × Int) :=
  some (([] : List blocks_Point), (10 : Int))
def blocks_Points (y0 : List Int) : Option ((List blocks_Point) × Int) :=
  if (decide (((y0.length : Int).tmod 18) > 0)) = true then
    some (([] : List blocks_Point), (12 : Int))
  else
    (chunkF y0 (18 : Int)).bind fun r3 =>
    foldR blocks_Points_L1 blocks_Points_K2 blocks_Points_K3 r3 []
def jetsamlaw11_Bytes_K1 (j1 : Unit) : Option Bool :=
  some true
def jetsamlaw11_Bytes_L1 (y0 : List Int) (y1 : List Int) (a2 : Int) : Option (Int ⊕ Bool) :=
  if (decide (a2 < (y0.length : Int))) = true then
    (idx y0 a2).bind fun p3 =>
    (idx y1 a2).bind fun p4 =>
    if (p3 != p4) = true then
      Option.map .inr <|
      some false
    else
      some (.inl (W (a2 + 1)))
  else
    Option.map .inr <|
    jetsamlaw11_Bytes_K1 ()
def jetsamlaw11_Bytes (y0 : List Int) (y1 : List Int) : Option Bool :=
  if ((y0.length : Int) != (y1.length : Int)) = true then
    some false
  else
    iter (jetsamlaw11_Bytes_L1 y0 y1) 0
def jetsamlaw12_awake_K2 (r1 : blocks_Block × Int) (r2 : (List Int) × Int) (j4 : (List Int)) : Option Bool :=
  (blocks_Points j4).bind fun r5 =>
  if (if (r1.2 == 0) = true then (r2.2 == 0) else false) = true then
    (jetsamlaw11_Bytes r2.1 [(129 : Int), (0 : Int), (0 : Int), (2 : Int), (0 : Int), (0 : Int)]).bind fun r6 =>
    if (if (if r6 = true then (r5.2 == 0) else false) = true then ((r5.1.length : Int) == 1) else false) = true then
      (idx r5.1 0).bind fun p7 =>
      some ((p7.Sample == (-1)) && ((p7.Offset == 0) && (p7.Count == 0)))
    else
      some false
  else
    some false
def jetsamlaw12_awake_L1 (r1 : blocks_Block × Int) (r2 : (List Int) × Int) (a8 : Int × (List Int)) : Option ((Int × (List Int)) ⊕ Bool) :=
  if (decide (a8.1 < 8)) = true then
    need (decide (a8.1 ≥ 0)) <|
    need (decide (a8.1 < (a8.2.length : Int))) <|
    (upd a8.2 a8.1 (255 : Int)).bind fun l9 =>
    some (.inl ((W (a8.1 + 1)), l9))
  else
    Option.map .inr <|
    jetsamlaw12_awake_K2 r1 r2 a8.2
def jetsamlaw12_awake_K1 (r1 : blocks_Block × Int) (r2 : (List Int) × Int) (j3 : (List Int)) : Option Bool :=
  iter (jetsamlaw12_awake_L1 r1 r2) (0, j3)
def jetsamlaw12_awake_L2 (r1 : blocks_Block × Int) (r2 : (List Int) × Int) (a10 : Int × (List Int)) : Option ((Int × (List Int)) ⊕ Bool) :=
  if (decide (a10.1 < 18)) = true then
    (app 1 a10.2 [(0 : Int)]).bind fun l11 =>
    some (.inl ((W (a10.1 + 1)), l11))
  else
    Option.map .inr <|
    jetsamlaw12_awake_K1 r1 r2 a10.2
def jetsamlaw12_awake : Option Bool :=
  (blocks_Zeros (2 : Int)).bind fun r1 =>
  (blocks_Write [r1.1]).bind fun r2 =>
  iter (jetsamlaw12_awake_L2 r1 r2) (0, [])
def jetsamlaw12_two (y0 : Int) : Option (Int × Int × Bool) :=
  some ((W (10 * y0)), (2 : Int), (if (if (decide (y0 ≥ 0)) = true then (decide (y0 ≤ 20)) else false) = true then ((y0.tmod 2) == 0) else false))
def blocks_Seekable_K1 (j1 : Unit) : Option Int :=
  some (0 : Int)
def blocks_Seekable_K2 (a2 : Int) (j3 : Unit) : Option (Int ⊕ Int) :=
  some (.inl (W (a2 + 1)))
def blocks_Seekable_L1 (y0 : List blocks_Point) (g1 : Int → Option (Int × Int × Bool)) (a2 : Int) : Option (Int ⊕ Int) :=
  if (decide (a2 < (y0.length : Int))) = true then
    (idx y0 a2).bind fun p4 =>
    if (p4.Sample == (-1)) = true then
      blocks_Seekable_K2 a2 ()
    else
      (g1 p4.Sample).bind fun r5 =>
      if (if (if (!r5.2.2) = true then true else (r5.1 != p4.Offset)) = true then true else (r5.2.1 != p4.Count)) = true then
        Option.map .inr <|
        some (12 : Int)
      else
        blocks_Seekable_K2 a2 ()
  else
    Option.map .inr <|
    blocks_Seekable_K1 ()
def blocks_Seekable (y0 : List blocks_Point) (g1 : Int → Option (Int × Int × Bool)) : Option Int :=
  iter (blocks_Seekable_L1 y0 g1) 0
def blocks_Seekable_nil1 (y0 : List blocks_Point) : Option Int :=
  some (20 : Int)
def jetsamlaw12_BlocksSeeks_K1 (y0 : List blocks_Point) (j2 : Int) : Option Bool :=
  (blocks_Seekable y0 jetsamlaw12_two).bind fun r3 =>
  if (r3 == j2) = true then
    (blocks_Seekable_nil1 y0).bind fun r4 =>
    if (r4 == 20) = true then
      (jetsamlaw12_awake).bind fun r5 =>
      some r5
    else
      some false
  else
    some false
def jetsamlaw12_BlocksSeeks_K2 (a6 : Int × Int) (j7 : Int) : Option ((Int × Int) ⊕ Bool) :=
  some (.inl (j7, (W (a6.2 + 1))))
def jetsamlaw12_BlocksSeeks_L1 (y0 : List blocks_Point) (a6 : Int × Int) : Option ((Int × Int) ⊕ Bool) :=
  if (decide (a6.2 < (y0.length : Int))) = true then
    (idx y0 a6.2).bind fun p8 =>
    (jetsamlaw12_two p8.Sample).bind fun r9 =>
    (idx y0 a6.2).bind fun p10 =>
    if (p10.Sample != (-1)) = true then
      if (!r9.2.2) = true then
        jetsamlaw12_BlocksSeeks_K2 a6 12
      else
        (idx y0 a6.2).bind fun p11 =>
        if (r9.1 != p11.Offset) = true then
          jetsamlaw12_BlocksSeeks_K2 a6 12
        else
          (idx y0 a6.2).bind fun p12 =>
          if (r9.2.1 != p12.Count) = true then
            jetsamlaw12_BlocksSeeks_K2 a6 12
          else
            jetsamlaw12_BlocksSeeks_K2 a6 a6.1
    else
      jetsamlaw12_BlocksSeeks_K2 a6 a6.1
  else
    Option.map .inr <|
    jetsamlaw12_BlocksSeeks_K1 y0 a6.1
def jetsamlaw12_BlocksSeeks (y0 : List blocks_Point) : Option Bool :=
  if (decide ((y0.length : Int) > 40)) = true then
    (jetsamlaw12_awake).bind fun r1 =>
    some r1
  else
    iter (jetsamlaw12_BlocksSeeks_L1 y0) (0, 0)
def slices_Clone_sbyte_byte (y0 : List Int) : Option (List Int) :=
  (app 1 ([] : List Int) y0).bind fun l1 =>
  some l1
def blocks_Name (y0 : blocks_Block) : Option ((List UInt8) × (List Int) × Int) :=
  if (y0.m_Type != 2) = true then
    some ([], ([] : List Int), (13 : Int))
  else
    if (decide ((y0.Data.length : Int) < 4)) = true then
      some ([], ([] : List Int), (11 : Int))
    else
      (sub y0.Data 0 4).bind fun l1 =>
      (sub y0.Data 4 (y0.Data.length : Int)).bind fun l2 =>
      (slices_Clone_sbyte_byte l2).bind fun r4 =>
      some ((bstr l1), r4, (0 : Int))
def jetsamlaw12_BlocksOthers_K1 (y1 : blocks_Block) (j3 : Unit) : Option Bool :=
  (blocks_Name y1).bind fun r4 =>
  if (y1.m_Type != 2) = true then
    if (if (if (r4.1 == []) = true then ((r4.2.1.length : Int) == 0) else false) = true then (r4.2.2 == 13) else false) = true then
      (jetsamlaw12_awake).bind fun r5 =>
      some r5
    else
      some false
  else
    if (decide ((y1.Data.length : Int) < 4)) = true then
      if (if (if (r4.1 == []) = true then ((r4.2.1.length : Int) == 0) else false) = true then (r4.2.2 == 11) else false) = true then
        (jetsamlaw12_awake).bind fun r6 =>
        some r6
      else
        some false
    else
      (sub y1.Data 0 4).bind fun l7 =>
      if (r4.1 == (bstr l7)) = true then
        (sub y1.Data 4 (y1.Data.length : Int)).bind fun l9 =>
        (jetsamlaw11_Bytes r4.2.1 l9).bind fun r10 =>
        if (if r10 = true then (r4.2.2 == 0) else false) = true then
          (jetsamlaw12_awake).bind fun r11 =>
          some r11
        else
          some false
      else
        some false
def jetsamlaw12_BlocksOthers_L1 (y0 : Int) (y1 : blocks_Block) (r2 : blocks_Block × Int) (a12 : Int) : Option (Int ⊕ Bool) :=
  if (decide (a12 < y0)) = true then
    (idx r2.1.Data a12).bind fun p13 =>
    if (p13 != 0) = true then
      Option.map .inr <|
      some false
    else
      some (.inl (W (a12 + 1)))
  else
    Option.map .inr <|
    jetsamlaw12_BlocksOthers_K1 y1 ()
def jetsamlaw12_BlocksOthers (y0 : Int) (y1 : blocks_Block) : Option Bool :=
  if (if (decide ((y1.Data.length : Int) > 500)) = true then true else (if (decide (y0 > 2000)) = true then (decide (y0 ≤ 16777215)) else false)) = true then
    (jetsamlaw12_awake).bind fun r1 =>
    some r1
  else
    (blocks_Zeros y0).bind fun r2 =>
    if (if (decide (y0 < 0)) = true then true else (decide (y0 > 16777215))) = true then
      if (if (if (r2.2 != 10) = true then true else (r2.1.m_Type != 0)) = true then true else ((r2.1.Data.length : Int) != 0)) = true then
        some false
      else
        jetsamlaw12_BlocksOthers_K1 y1 ()
    else
      if (if (if (r2.2 != 0) = true then true else (r2.1.m_Type != 1)) = true then true else ((r2.1.Data.length : Int) != y0)) = true then
        some false
      else
        iter (jetsamlaw12_BlocksOthers_L1 y0 y1 r2) 0
def slices_IndexFunc_sblocks_Point_blocks_Point_K1 (j1 : Unit) : Option Int :=
  some ((-1) : Int)
def slices_IndexFunc_sblocks_Point_blocks_Point_L1 (y0 : List blocks_Point) (g1 : blocks_Point → Option Bool) (a2 : Int) : Option (Int ⊕ Int) :=
  if (decide (a2 < (y0.length : Int))) = true then
    (idx y0 a2).bind fun p3 =>
    (g1 p3).bind fun r4 =>
    if r4 = true then
      Option.map .inr <|
      some a2
    else
      some (.inl (W (a2 + 1)))
  else
    Option.map .inr <|
    slices_IndexFunc_sblocks_Point_blocks_Point_K1 ()
def slices_IndexFunc_sblocks_Point_blocks_Point (y0 : List blocks_Point) (g1 : blocks_Point → Option Bool) : Option Int :=
  iter (slices_IndexFunc_sblocks_Point_blocks_Point_L1 y0 g1) 0
def slices_ContainsFunc_sblocks_Point_blocks_Point (y0 : List blocks_Point) (g1 : blocks_Point → Option Bool) : Option Bool :=
  (slices_IndexFunc_sblocks_Point_blocks_Point y0 g1).bind fun r1 =>
  some (decide (r1 ≥ 0))
def blocks_WritePoints_c1 (y0 : blocks_Point) : Option Bool :=
  some (if (if (if (decide (y0.Sample < (-1))) = true then true else (decide (y0.Offset < 0))) = true then true else (decide (y0.Count < 0))) = true then true else (decide (y0.Count > 65535)))
def blocks_WritePoints_K1 (j3 : (List Int)) : Option ((List Int) × Int) :=
  some (j3, (0 : Int))
def blocks_WritePoints_L1 (y0 : List blocks_Point) (a4 : (List Int) × Int) : Option (((List Int) × Int) ⊕ ((List Int) × Int)) :=
  if (decide (a4.2 < (y0.length : Int))) = true then
    (idx y0 a4.2).bind fun p5 =>
    (blocks_big p5.Sample (8 : Int)).bind fun r6 =>
    (blocks_big p5.Offset (8 : Int)).bind fun r7 =>
    (blocks_big p5.Count (2 : Int)).bind fun r8 =>
    (slices_Concat_sbyte_byte [a4.1, r6, r7, r8]).bind fun r9 =>
    some (.inl (r9, (W (a4.2 + 1))))
  else
    Option.map .inr <|
    blocks_WritePoints_K1 a4.1
def blocks_WritePoints (y0 : List blocks_Point) : Option ((List Int) × Int) :=
  (slices_ContainsFunc_sblocks_Point_blocks_Point y0 blocks_WritePoints_c1).bind fun r1 =>
  if r1 = true then
    some (([] : List Int), (10 : Int))
  else
    (blocks_order y0).bind fun r2 =>
    if (r2 != 0) = true then
      some (([] : List Int), r2)
    else
      if (decide ((W ((y0.length : Int) * 18)) > 16777215)) = true then
        some (([] : List Int), (21 : Int))
      else
        iter (blocks_WritePoints_L1 y0) ([], 0)
def jetsamlaw12_points_K1 (j1 : (List (Arr3 Int))) : Option (List (Arr3 Int)) :=
  some j1
def jetsamlaw12_points_L1 (y0 : List blocks_Point) (a2 : Int × (List (Arr3 Int))) : Option ((Int × (List (Arr3 Int))) ⊕ (List (Arr3 Int))) :=
  if (decide (a2.1 < (y0.length : Int))) = true then
    (idx y0 a2.1).bind fun p3 =>
    (idx y0 a2.1).bind fun p4 =>
    (idx y0 a2.1).bind fun p5 =>
    (app 24 a2.2 [(⟨p3.Sample, p4.Offset, p5.Count⟩ : Arr3 Int)]).bind fun l6 =>
    some (.inl ((W (a2.1 + 1)), l6))
  else
    Option.map .inr <|
    jetsamlaw12_points_K1 a2.2
def jetsamlaw12_points (y0 : List blocks_Point) : Option (List (Arr3 Int)) :=
  iter (jetsamlaw12_points_L1 y0) (0, [])
def jetsamref12_Big_K1 (j1 : (List Int)) : Option (List Int) :=
  some j1
def jetsamref12_Big_L1 (y0 : Int) (a2 : Int × (List Int)) : Option ((Int × (List Int)) ⊕ (List Int)) :=
  if (decide (a2.1 ≥ 0)) = true then
    need (decide ((W (8 * a2.1)) ≥ 0)) <|
    (app 1 a2.2 [(IntKind.u8.wrap ((shD .shr .i64 y0 (W (8 * a2.1))).tmod 256))]).bind fun l3 =>
    some (.inl ((W (a2.1 - 1)), l3))
  else
    Option.map .inr <|
    jetsamref12_Big_K1 a2.2
def jetsamref12_Big (y0 : Int) (y1 : Int) : Option (List Int) :=
  iter (jetsamref12_Big_L1 y0) ((W (y1 - 1)), [])
def jetsamref12_ordered_K1 (j1 : Unit) : Option Bool :=
  some true
def jetsamref12_ordered_L1 (y0 : List (Arr3 Int)) (a2 : Int) : Option (Int ⊕ Bool) :=
  if (decide (a2 < (y0.length : Int))) = true then
    (idx y0 a2).bind fun p3 =>
    if (decide (p3.a0 ≥ 0)) = true then
      (idx y0 a2).bind fun p4 =>
      (idx y0 (W (a2 - 1))).bind fun p5 =>
      if (decide (p4.a0 ≤ p5.a0)) = true then
        Option.map .inr <|
        some false
      else
        (idx y0 a2).bind fun p6 =>
        if (decide (p6.a0 ≥ 0)) = true then
          (idx y0 (W (a2 - 1))).bind fun p7 =>
          if (decide (p7.a0 < 0)) = true then
            Option.map .inr <|
            some false
          else
            some (.inl (W (a2 + 1)))
        else
          some (.inl (W (a2 + 1)))
    else
      (idx y0 a2).bind fun p8 =>
      if (decide (p8.a0 ≥ 0)) = true then
        (idx y0 (W (a2 - 1))).bind fun p9 =>
        if (decide (p9.a0 < 0)) = true then
          Option.map .inr <|
          some false
        else
          some (.inl (W (a2 + 1)))
      else
        some (.inl (W (a2 + 1)))
  else
    Option.map .inr <|
    jetsamref12_ordered_K1 ()
def jetsamref12_ordered (y0 : List (Arr3 Int)) : Option Bool :=
  iter (jetsamref12_ordered_L1 y0) 1
def jetsamref12_WritePoints_K1 (y0 : List (Arr3 Int)) (j1 : (List Int)) : Option ((List Int) × Int) :=
  (jetsamref12_ordered y0).bind fun r2 =>
  if (!r2) = true then
    some (([] : List Int), (18 : Int))
  else
    some (j1, (0 : Int))
def jetsamref12_WritePoints_K2 (a3 : Int × (List Int)) (j4 : Int × Bool × Int × Bool × Int × Bool × (List Int)) : Option ((Int × (List Int)) ⊕ ((List Int) × Int)) :=
  some (.inl ((W (a3.1 + 1)), j4.2.2.2.2.2.2))
def jetsamref12_WritePoints_K4 (y0 : List (Arr3 Int)) (a3 : Int × (List Int)) (p6 : Arr3 Int) (p7 : Arr3 Int) (p8 : Arr3 Int) (j10 : (List Int)) : Option ((Int × (List Int)) ⊕ ((List Int) × Int)) :=
  (idx y0 a3.1).bind fun p11 =>
  (jetsamref12_Big p11.a1 (8 : Int)).bind fun r12 =>
  (app 1 j10 r12).bind fun l13 =>
  (idx y0 a3.1).bind fun p14 =>
  (jetsamref12_Big p14.a2 (2 : Int)).bind fun r15 =>
  (app 1 l13 r15).bind fun l16 =>
  jetsamref12_WritePoints_K2 a3 (p6.a1, (decide (p6.a1 < 0)), p7.a2, (decide (p7.a2 < 0)), p8.a2, (decide (p8.a2 > 65535)), l16)
def jetsamref12_WritePoints_K3 (y0 : List (Arr3 Int)) (a3 : Int × (List Int)) (p6 : Arr3 Int) (p7 : Arr3 Int) (p8 : Arr3 Int) (j9 : (List Int)) : Option ((Int × (List Int)) ⊕ ((List Int) × Int)) :=
  (idx y0 a3.1).bind fun p17 =>
  if (decide (p17.a0 ≥ 0)) = true then
    (idx y0 a3.1).bind fun p18 =>
    (jetsamref12_Big p18.a0 (8 : Int)).bind fun r19 =>
    (app 1 j9 r19).bind fun l20 =>
    jetsamref12_WritePoints_K4 y0 a3 p6 p7 p8 l20
  else
    jetsamref12_WritePoints_K4 y0 a3 p6 p7 p8 j9
def jetsamref12_WritePoints_L2 (y0 : List (Arr3 Int)) (a3 : Int × (List Int)) (p6 : Arr3 Int) (p7 : Arr3 Int) (p8 : Arr3 Int) (a21 : Int × (List Int)) : Option ((Int × (List Int)) ⊕ ((Int × (List Int)) ⊕ ((List Int) × Int))) :=
  if (decide (a21.1 < 8)) = true then
    (idx y0 a3.1).bind fun p22 =>
    if (decide (p22.a0 < 0)) = true then
      (app 1 a21.2 [(255 : Int)]).bind fun l23 =>
      some (.inl ((W (a21.1 + 1)), l23))
    else
      Option.map .inr <|
      jetsamref12_WritePoints_K3 y0 a3 p6 p7 p8 a21.2
  else
    Option.map .inr <|
    jetsamref12_WritePoints_K3 y0 a3 p6 p7 p8 a21.2
def jetsamref12_WritePoints_L1 (y0 : List (Arr3 Int)) (a3 : Int × (List Int)) : Option ((Int × (List Int)) ⊕ ((List Int) × Int)) :=
  if (decide (a3.1 < (y0.length : Int))) = true then
    (idx y0 a3.1).bind fun p5 =>
    if (decide (p5.a0 < (-1))) = true then
      Option.map .inr <|
      some (([] : List Int), (10 : Int))
    else
      (idx y0 a3.1).bind fun p6 =>
      if (decide (p6.a1 < 0)) = true then
        Option.map .inr <|
        some (([] : List Int), (10 : Int))
      else
        (idx y0 a3.1).bind fun p7 =>
        if (decide (p7.a2 < 0)) = true then
          Option.map .inr <|
          some (([] : List Int), (10 : Int))
        else
          (idx y0 a3.1).bind fun p8 =>
          if (decide (p8.a2 > 65535)) = true then
            Option.map .inr <|
            some (([] : List Int), (10 : Int))
          else
            iter (jetsamref12_WritePoints_L2 y0 a3 p6 p7 p8) (0, a3.2)
  else
    Option.map .inr <|
    jetsamref12_WritePoints_K1 y0 a3.2
def jetsamref12_WritePoints (y0 : List (Arr3 Int)) : Option ((List Int) × Int) :=
  iter (jetsamref12_WritePoints_L1 y0) (0, [])
def jetsamref12_number_K2 (j3 : Int) : Option Int :=
  some j3
def jetsamref12_number_L1 (y0 : List Int) (a4 : Int × Int) : Option ((Int × Int) ⊕ Int) :=
  if (decide (a4.2 < 8)) = true then
    (idx y0 a4.2).bind fun p5 =>
    some (.inl ((W ((W (a4.1 * 256)) + p5)), (W (a4.2 + 1))))
  else
    Option.map .inr <|
    jetsamref12_number_K2 a4.1
def jetsamref12_number_K1 (y0 : List Int) (j1 : Bool) : Option Int :=
  if j1 = true then
    some ((-1) : Int)
  else
    (idx y0 0).bind fun p2 =>
    if (decide (p2 > 127)) = true then
      some ((-2) : Int)
    else
      iter (jetsamref12_number_L1 y0) (0, 0)
def jetsamref12_number_L2 (y0 : List Int) (a6 : Bool × Int) : Option ((Bool × Int) ⊕ Int) :=
  if (decide (a6.2 < 8)) = true then
    if a6.1 = true then
      (idx y0 a6.2).bind fun p7 =>
      some (.inl ((p7 == 255), (W (a6.2 + 1))))
    else
      some (.inl (false, (W (a6.2 + 1))))
  else
    Option.map .inr <|
    jetsamref12_number_K1 y0 a6.1
def jetsamref12_number (y0 : List Int) : Option Int :=
  iter (jetsamref12_number_L2 y0) (true, 0)
def jetsamref12_Points_K1 (j1 : (List (Arr3 Int))) : Option ((List (Arr3 Int)) × Int) :=
  (jetsamref12_ordered j1).bind fun r2 =>
  if (!r2) = true then
    some (([] : List (Arr3 Int)), (18 : Int))
  else
    some (j1, (0 : Int))
def jetsamref12_Points_L1 (y0 : List Int) (a3 : Int × (List (Arr3 Int))) : Option ((Int × (List (Arr3 Int))) ⊕ ((List (Arr3 Int)) × Int)) :=
  if (decide (a3.1 < (y0.length : Int))) = true then
    (sub y0 a3.1 (W (a3.1 + 8))).bind fun l4 =>
    (sub y0 (W (a3.1 + 8)) (W (a3.1 + 16))).bind fun l5 =>
    (idx y0 (W (a3.1 + 16))).bind fun p6 =>
    (idx y0 (W (a3.1 + 17))).bind fun p7 =>
    (jetsamref12_number l4).bind fun r8 =>
    (jetsamref12_number l5).bind fun r9 =>
    if (decide (r8 < (-1))) = true then
      Option.map .inr <|
      some (([] : List (Arr3 Int)), (10 : Int))
    else
      if (decide (r9 < 0)) = true then
        Option.map .inr <|
        some (([] : List (Arr3 Int)), (10 : Int))
      else
        (app 24 a3.2 [(⟨r8, r9, (W ((W (p6 * 256)) + p7))⟩ : Arr3 Int)]).bind fun l10 =>
        some (.inl ((W (a3.1 + 18)), l10))
  else
    Option.map .inr <|
    jetsamref12_Points_K1 a3.2
def jetsamref12_Points (y0 : List Int) : Option ((List (Arr3 Int)) × Int) :=
  if (((y0.length : Int).tmod 18) != 0) = true then
    some (([] : List (Arr3 Int)), (12 : Int))
  else
    iter (jetsamref12_Points_L1 y0) (0, [])
def jetsamlaw12_same_K1 (j1 : Unit) : Option Bool :=
  some true
def jetsamlaw12_same_L1 (y0 : List (Arr3 Int)) (y1 : List (Arr3 Int)) (a2 : Int) : Option (Int ⊕ Bool) :=
  if (decide (a2 < (y0.length : Int))) = true then
    (idx y0 a2).bind fun p3 =>
    (idx y1 a2).bind fun p4 =>
    if (!((p3.a0 == p4.a0) && ((p3.a1 == p4.a1) && (p3.a2 == p4.a2)))) = true then
      Option.map .inr <|
      some false
    else
      some (.inl (W (a2 + 1)))
  else
    Option.map .inr <|
    jetsamlaw12_same_K1 ()
def jetsamlaw12_same (y0 : List (Arr3 Int)) (y1 : List (Arr3 Int)) : Option Bool :=
  if ((y0.length : Int) != (y1.length : Int)) = true then
    some false
  else
    iter (jetsamlaw12_same_L1 y0 y1) 0
def jetsamlaw12_BlocksPoints_K1 (y1 : List Int) (r2 : (List Int) × Int) (r4 : (List Int) × Int) (j5 : (List Int)) : Option Bool :=
  (jetsamlaw11_Bytes r2.1 j5).bind fun r6 =>
  if (if (!r6) = true then true else (r2.2 != r4.2)) = true then
    some false
  else
    (blocks_Points y1).bind fun r7 =>
    (jetsamref12_Points y1).bind fun r8 =>
    (jetsamlaw12_points r7.1).bind fun r9 =>
    (jetsamlaw12_same r9 r8.1).bind fun r10 =>
    if (if r10 = true then (r7.2 == r8.2) else false) = true then
      (jetsamlaw12_awake).bind fun r11 =>
      some r11
    else
      some false
def jetsamlaw12_BlocksPoints (y0 : List blocks_Point) (y1 : List Int) : Option Bool :=
  if (if (decide ((y0.length : Int) > 40)) = true then true else (decide ((y1.length : Int) > 500))) = true then
    (jetsamlaw12_awake).bind fun r1 =>
    some r1
  else
    (blocks_WritePoints y0).bind fun r2 =>
    (jetsamlaw12_points y0).bind fun r3 =>
    (jetsamref12_WritePoints r3).bind fun r4 =>
    if (r4.2 != 0) = true then
      jetsamlaw12_BlocksPoints_K1 y1 r2 r4 []
    else
      jetsamlaw12_BlocksPoints_K1 y1 r2 r4 r4.1
def jetsamlaw12_BlocksTable_K1 (y1 : List Int) (j3 : Unit) : Option Bool :=
  (blocks_Points y1).bind fun r4 =>
  if (r4.2 != 0) = true then
    if ((r4.1.length : Int) == 0) = true then
      (jetsamlaw12_awake).bind fun r5 =>
      some r5
    else
      some false
  else
    (blocks_WritePoints r4.1).bind fun r6 =>
    if (r6.2 == 0) = true then
      (jetsamlaw11_Bytes r6.1 y1).bind fun r7 =>
      if r7 = true then
        (jetsamlaw12_awake).bind fun r8 =>
        some r8
      else
        some false
    else
      some false
def jetsamlaw12_BlocksTable_K2 (a13 : Int) (j14 : Unit) : Option (Int ⊕ Bool) :=
  some (.inl (W (a13 + 1)))
def jetsamlaw12_BlocksTable_L2 (y0 : List blocks_Point) (a13 : Int) (a15 : Int) : Option (Int ⊕ (Int ⊕ Bool)) :=
  if (decide (a15 < a13)) = true then
    (idx y0 a13).bind fun p16 =>
    if (decide (p16.Sample ≥ 0)) = true then
      (idx y0 a13).bind fun p17 =>
      (idx y0 a15).bind fun p18 =>
      if (decide (p17.Sample ≤ p18.Sample)) = true then
        Option.map .inr <|
        Option.map .inr <|
        some false
      else
        some (.inl (W (a15 + 1)))
    else
      some (.inl (W (a15 + 1)))
  else
    Option.map .inr <|
    jetsamlaw12_BlocksTable_K2 a13 ()
def jetsamlaw12_BlocksTable_L1 (y0 : List blocks_Point) (y1 : List Int) (a13 : Int) : Option (Int ⊕ Bool) :=
  if (decide (a13 < (y0.length : Int))) = true then
    iter (jetsamlaw12_BlocksTable_L2 y0 a13) 0
  else
    Option.map .inr <|
    jetsamlaw12_BlocksTable_K1 y1 ()
def jetsamlaw12_BlocksTable (y0 : List blocks_Point) (y1 : List Int) : Option Bool :=
  if (if (decide ((y0.length : Int) > 40)) = true then true else (decide ((y1.length : Int) > 500))) = true then
    (jetsamlaw12_awake).bind fun r1 =>
    some r1
  else
    (blocks_WritePoints y0).bind fun r2 =>
    if (r2.2 == 0) = true then
      (blocks_Points r2.1).bind fun r9 =>
      if (r9.2 != 0) = true then
        some false
      else
        (jetsamlaw12_points r9.1).bind fun r10 =>
        (jetsamlaw12_points y0).bind fun r11 =>
        (jetsamlaw12_same r10 r11).bind fun r12 =>
        if (!r12) = true then
          some false
        else
          iter (jetsamlaw12_BlocksTable_L1 y0 y1) 0
    else
      jetsamlaw12_BlocksTable_K1 y1 ()
def blocks_Read_K1 (j1 : Int × (List blocks_Block)) : Option ((List blocks_Block) × Int × Int) :=
  some (j1.2, j1.1, (0 : Int))
def blocks_Read_L1 (y0 : List Int) (a2 : Int × (List blocks_Block)) : Option ((Int × (List blocks_Block)) ⊕ ((List blocks_Block) × Int × Int)) :=
  if (decide ((W ((y0.length : Int) - a2.1)) < 4)) = true then
    Option.map .inr <|
    some (([] : List blocks_Block), (0 : Int), (11 : Int))
  else
    (idx y0 a2.1).bind fun p3 =>
    (sub y0 (W (a2.1 + 1)) (W (a2.1 + 4))).bind fun l4 =>
    (blocks_number l4).bind fun r5 =>
    if (decide ((W ((W ((y0.length : Int) - a2.1)) - 4)) < r5)) = true then
      Option.map .inr <|
      some (([] : List blocks_Block), (0 : Int), (11 : Int))
    else
      if ((p3.tmod 128) == 127) = true then
        Option.map .inr <|
        some (([] : List blocks_Block), (0 : Int), (13 : Int))
      else
        (sub y0 (W (a2.1 + 4)) (W ((W (a2.1 + 4)) + r5))).bind fun l6 =>
        (slices_Clone_sbyte_byte l6).bind fun r7 =>
        (app 32 a2.2 [(⟨(p3.tmod 128), r7⟩ : blocks_Block)]).bind fun l8 =>
        if (decide (p3 ≥ 128)) = true then
          Option.map .inr <|
          blocks_Read_K1 ((W ((W (a2.1 + 4)) + r5)), l8)
        else
          some (.inl ((W ((W (a2.1 + 4)) + r5)), l8))
def blocks_Read (y0 : List Int) : Option ((List blocks_Block) × Int × Int) :=
  iter (blocks_Read_L1 y0) (0, [])
def jetsamref12_Read_L1 (y0 : List Int) (a1 : Int × (List Int) × (List (List Int))) : Option ((Int × (List Int) × (List (List Int))) ⊕ ((List Int) × (List (List Int)) × Int × Int)) :=
  if (decide ((W (a1.1 + 4)) > (y0.length : Int))) = true then
    Option.map .inr <|
    some (([] : List Int), ([] : List (List Int)), (0 : Int), (11 : Int))
  else
    (idx y0 (W (a1.1 + 1))).bind fun p2 =>
    (idx y0 (W (a1.1 + 2))).bind fun p3 =>
    (idx y0 (W (a1.1 + 3))).bind fun p4 =>
    if (decide ((W ((W (a1.1 + 4)) + (W ((W ((W (p2 * 65536)) + (W (p3 * 256)))) + p4)))) > (y0.length : Int))) = true then
      Option.map .inr <|
      some (([] : List Int), ([] : List (List Int)), (0 : Int), (11 : Int))
    else
      (idx y0 a1.1).bind fun p5 =>
      if (if (p5 == 127) = true then true else (p5 == 255)) = true then
        Option.map .inr <|
        some (([] : List Int), ([] : List (List Int)), (0 : Int), (13 : Int))
      else
        (sub y0 (W (a1.1 + 4)) (W ((W (a1.1 + 4)) + (W ((W ((W (p2 * 65536)) + (W (p3 * 256)))) + p4))))).bind fun l6 =>
        (app 1 [] l6).bind fun l7 =>
        (app 8 a1.2.1 [(p5.tmod 128)]).bind fun l8 =>
        (app 24 a1.2.2 [l7]).bind fun l9 =>
        if (decide (p5 > 127)) = true then
          Option.map .inr <|
          some (l8, l9, (W ((W (a1.1 + 4)) + (W ((W ((W (p2 * 65536)) + (W (p3 * 256)))) + p4)))), (0 : Int))
        else
          some (.inl ((W ((W (a1.1 + 4)) + (W ((W ((W (p2 * 65536)) + (W (p3 * 256)))) + p4)))), l8, l9))
def jetsamref12_Read (y0 : List Int) : Option ((List Int) × (List (List Int)) × Int × Int) :=
  iter (jetsamref12_Read_L1 y0) (0, [], [])
def jetsamlaw12_Plain_K1 (j1 : (List Int) × (List (List Int))) : Option ((List Int) × (List (List Int))) :=
  some (j1.1, j1.2)
def jetsamlaw12_Plain_L1 (y0 : List blocks_Block) (a2 : Int × (List Int) × (List (List Int))) : Option ((Int × (List Int) × (List (List Int))) ⊕ ((List Int) × (List (List Int)))) :=
  if (decide (a2.1 < (y0.length : Int))) = true then
    (idx y0 a2.1).bind fun p3 =>
    (app 8 a2.2.1 [p3.m_Type]).bind fun l4 =>
    (idx y0 a2.1).bind fun p5 =>
    (app 24 a2.2.2 [p5.Data]).bind fun l6 =>
    some (.inl ((W (a2.1 + 1)), l4, l6))
  else
    Option.map .inr <|
    jetsamlaw12_Plain_K1 (a2.2.1, a2.2.2)
def jetsamlaw12_Plain (y0 : List blocks_Block) : Option ((List Int) × (List (List Int))) :=
  iter (jetsamlaw12_Plain_L1 y0) (0, [], [])
def jetsamlaw12_BlocksReads_K1 (j5 : Unit) : Option Bool :=
  (jetsamlaw12_awake).bind fun r6 =>
  some r6
def jetsamlaw12_BlocksReads_L1 (r3 : (List Int) × (List (List Int)) × Int × Int) (r4 : (List Int) × (List (List Int))) (a7 : Int) : Option (Int ⊕ Bool) :=
  if (decide (a7 < (r4.1.length : Int))) = true then
    (idx r4.1 a7).bind fun p8 =>
    (idx r3.1 a7).bind fun p9 =>
    if (p8 != p9) = true then
      Option.map .inr <|
      some false
    else
      (idx r4.2 a7).bind fun p10 =>
      (idx r3.2.1 a7).bind fun p11 =>
      (jetsamlaw11_Bytes p10 p11).bind fun r12 =>
      if (!r12) = true then
        Option.map .inr <|
        some false
      else
        some (.inl (W (a7 + 1)))
  else
    Option.map .inr <|
    jetsamlaw12_BlocksReads_K1 ()
def jetsamlaw12_BlocksReads (y0 : List Int) : Option Bool :=
  if (decide ((y0.length : Int) > 1000)) = true then
    (jetsamlaw12_awake).bind fun r1 =>
    some r1
  else
    (blocks_Read y0).bind fun r2 =>
    (jetsamref12_Read y0).bind fun r3 =>
    (jetsamlaw12_Plain r2.1).bind fun r4 =>
    if (if (if (r2.2.1 != r3.2.2.1) = true then true else (r2.2.2 != r3.2.2.2)) = true then true else ((r4.1.length : Int) != (r3.1.length : Int))) = true then
      some false
    else
      iter (jetsamlaw12_BlocksReads_L1 r3 r4) 0
def jetsamlaw12_Few_K1 (y0 : List blocks_Block) (j1 : Unit) : Option Bool :=
  some (decide ((y0.length : Int) ≤ 12))
def jetsamlaw12_Few_L1 (y0 : List blocks_Block) (a2 : Int) : Option (Int ⊕ Bool) :=
  if (decide (a2 < (y0.length : Int))) = true then
    (idx y0 a2).bind fun p3 =>
    if (decide ((p3.Data.length : Int) > 500)) = true then
      Option.map .inr <|
      some false
    else
      some (.inl (W (a2 + 1)))
  else
    Option.map .inr <|
    jetsamlaw12_Few_K1 y0 ()
def jetsamlaw12_Few (y0 : List blocks_Block) : Option Bool :=
  iter (jetsamlaw12_Few_L1 y0) 0
def jetsamlaw12_Same_K1 (j1 : Unit) : Option Bool :=
  some true
def jetsamlaw12_Same_L1 (y0 : List blocks_Block) (y1 : List blocks_Block) (a2 : Int) : Option (Int ⊕ Bool) :=
  if (decide (a2 < (y0.length : Int))) = true then
    (idx y0 a2).bind fun p3 =>
    (idx y1 a2).bind fun p4 =>
    if (p3.m_Type != p4.m_Type) = true then
      Option.map .inr <|
      some false
    else
      (idx y0 a2).bind fun p5 =>
      (idx y1 a2).bind fun p6 =>
      (jetsamlaw11_Bytes p5.Data p6.Data).bind fun r7 =>
      if (!r7) = true then
        Option.map .inr <|
        some false
      else
        some (.inl (W (a2 + 1)))
  else
    Option.map .inr <|
    jetsamlaw12_Same_K1 ()
def jetsamlaw12_Same (y0 : List blocks_Block) (y1 : List blocks_Block) : Option Bool :=
  if ((y0.length : Int) != (y1.length : Int)) = true then
    some false
  else
    iter (jetsamlaw12_Same_L1 y0 y1) 0
def jetsamlaw12_BlocksBack_K1 (y1 : List Int) (j4 : Unit) : Option Bool :=
  (blocks_Read y1).bind fun r5 =>
  if (r5.2.2 != 0) = true then
    if (if ((r5.1.length : Int) == 0) = true then (r5.2.1 == 0) else false) = true then
      (jetsamlaw12_awake).bind fun r6 =>
      some r6
    else
      some false
  else
    (blocks_Write r5.1).bind fun r7 =>
    if (if (if (r7.2 == 0) = true then (decide (r5.2.1 ≥ 0)) else false) = true then (decide (r5.2.1 ≤ (y1.length : Int))) else false) = true then
      (sub y1 0 r5.2.1).bind fun l8 =>
      (jetsamlaw11_Bytes r7.1 l8).bind fun r9 =>
      if r9 = true then
        (jetsamlaw12_awake).bind fun r10 =>
        some r10
      else
        some false
    else
      some false
def jetsamlaw12_BlocksBack (y0 : List blocks_Block) (y1 : List Int) : Option Bool :=
  (jetsamlaw12_Few y0).bind fun r1 =>
  if (if (!r1) = true then true else (decide ((y1.length : Int) > 1000))) = true then
    (jetsamlaw12_awake).bind fun r2 =>
    some r2
  else
    (blocks_Write y0).bind fun r3 =>
    if (r3.2 == 0) = true then
      (app 1 [] r3.1).bind fun l11 =>
      (app 1 l11 y1).bind fun l12 =>
      (blocks_Read l12).bind fun r13 =>
      if (if (r13.2.2 != 0) = true then true else (r13.2.1 != (r3.1.length : Int))) = true then
        some false
      else
        (jetsamlaw12_Same r13.1 y0).bind fun r14 =>
        if (!r14) = true then
          some false
        else
          (sub r3.1 0 (W ((r3.1.length : Int) - 1))).bind fun l15 =>
          (blocks_Read l15).bind fun r16 =>
          if (r16.2.2 != 11) = true then
            some false
          else
            jetsamlaw12_BlocksBack_K1 y1 ()
    else
      jetsamlaw12_BlocksBack_K1 y1 ()
end Go.Vg
