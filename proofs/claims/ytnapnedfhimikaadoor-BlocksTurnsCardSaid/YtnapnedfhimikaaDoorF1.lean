/- What the functions answer, printed by a program. -/
import Derived.Test.YtnapnedfhimikaaDoorVhS
import Derived.Test.YtnapnedfhimikaaDoorVhR
set_option maxRecDepth 4000
set_option linter.all false
set_option linter.unusedVariables false
set_option linter.unusedSimpArgs false
namespace Go.Vg
open Go
structure blocks_Block where
  m_Type : Int
  Data : List Int
def e_blocks_Block (p : blocks_Block) : V := .agg [.int .i64 (.v p.m_Type), .sl 1 e_u8 p.Data]
structure blocks_Point where
  Sample : Int
  Offset : Int
  Count : Int
def e_blocks_Point (p : blocks_Point) : V := .agg [.int .i64 (.v p.Sample), .int .i64 (.v p.Offset), .int .i64 (.v p.Count)]
def jetsamlaw12_Few_K1 (y0 : List blocks_Block) (j1 : Unit) : Option Bool :=
  some (decide ((y0.length : Int) ≤ 12))
def jetsamlaw12_Few_L1 (y0 : List blocks_Block) (a2 : Int) : Option (Int ⊕ Bool) :=
  if (decide (a2 < (y0.length : Int))) = true then
    (idx y0 a2).bind fun p3 =>
    if (decide ((p3.Data.length : Int) > 500)) = true then
      Option.map .inr <|
      some false
    else
      some (.inl (W (a2 + 1)))
  else
    Option.map .inr <|
    jetsamlaw12_Few_K1 y0 ()
def jetsamlaw12_Few (y0 : List blocks_Block) : Option Bool :=
  iter (jetsamlaw12_Few_L1 y0) 0
def blocks_Zeros (y0 : Int) : Option (blocks_Block × Int) :=
  if (if (decide (y0 < 0)) = true then true else (decide (y0 > 16777215))) = true then
    some ((⟨(0 : Int), ([] : List Int)⟩ : blocks_Block), (10 : Int))
  else
    (mks 1 y0 (0 : Int)).bind fun l1 =>
    some ((⟨(1 : Int), l1⟩ : blocks_Block), (0 : Int))
def blocks_big_K1 (j2 : (List Int)) : Option (List Int) :=
  some j2
def blocks_big_L1 (y0 : Int) (y1 : Int) (l1 : List Int) (a3 : Int × (List Int)) : Option ((Int × (List Int)) ⊕ (List Int)) :=
  if (decide (a3.1 < (l1.length : Int))) = true then
    need (decide ((W (8 * a3.1)) ≥ 0)) <|
    need (decide ((W ((W (y1 - 1)) - a3.1)) ≥ 0)) <|
    need (decide ((W ((W (y1 - 1)) - a3.1)) < (a3.2.length : Int))) <|
    (upd a3.2 (W ((W (y1 - 1)) - a3.1)) (IntKind.u8.wrap (shD .shr .i64 y0 (W (8 * a3.1))))).bind fun l4 =>
    some (.inl ((W (a3.1 + 1)), l4))
  else
    Option.map .inr <|
    blocks_big_K1 a3.2
def blocks_big (y0 : Int) (y1 : Int) : Option (List Int) :=
  (mks 1 y1 (0 : Int)).bind fun l1 =>
  iter (blocks_big_L1 y0 y1 l1) (0, l1)
def slices_Concat_sbyte_byte_K2 (j3 : (List Int)) : Option (List Int) :=
  some j3
def slices_Concat_sbyte_byte_L1 (y0 : List (List Int)) (a4 : Int × (List Int)) : Option ((Int × (List Int)) ⊕ (List Int)) :=
  if (decide (a4.1 < (y0.length : Int))) = true then
    (idx y0 a4.1).bind fun p5 =>
    (app 1 a4.2 p5).bind fun l6 =>
    some (.inl ((W (a4.1 + 1)), l6))
  else
    Option.map .inr <|
    slices_Concat_sbyte_byte_K2 a4.2
def slices_Concat_sbyte_byte_K1 (y0 : List (List Int)) (j1 : Int) : Option (List Int) :=
  (growF j1).bind fun r2 =>
  iter (slices_Concat_sbyte_byte_L1 y0) (0, r2)
def slices_Concat_sbyte_byte_L2 (y0 : List (List Int)) (a7 : Int × Int) : Option ((Int × Int) ⊕ (List Int)) :=
  if (decide (a7.2 < (y0.length : Int))) = true then
    (idx y0 a7.2).bind fun p8 =>
    if (decide ((W (a7.1 + (p8.length : Int))) < 0)) = true then
      none
    else
      some (.inl ((W (a7.1 + (p8.length : Int))), (W (a7.2 + 1))))
  else
    Option.map .inr <|
    slices_Concat_sbyte_byte_K1 y0 a7.1
def slices_Concat_sbyte_byte (y0 : List (List Int)) : Option (List Int) :=
  iter (slices_Concat_sbyte_byte_L2 y0) (0, 0)
def blocks_Write_K1 (j1 : (List Int)) : Option ((List Int) × Int) :=
  some (j1, (0 : Int))
def blocks_Write_K2 (a2 : (List Int) × Int) (p3 : blocks_Block) (j4 : Int) : Option (((List Int) × Int) ⊕ ((List Int) × Int)) :=
  (blocks_big (p3.Data.length : Int) (3 : Int)).bind fun r5 =>
  (slices_Concat_sbyte_byte [a2.1, [(IntKind.u8.wrap j4)], r5, p3.Data]).bind fun r6 =>
  some (.inl (r6, (W (a2.2 + 1))))
def blocks_Write_L1 (y0 : List blocks_Block) (a2 : (List Int) × Int) : Option (((List Int) × Int) ⊕ ((List Int) × Int)) :=
  if (decide (a2.2 < (y0.length : Int))) = true then
    (idx y0 a2.2).bind fun p3 =>
    if (if (decide (p3.m_Type < 0)) = true then true else (decide (p3.m_Type ≥ 127))) = true then
      Option.map .inr <|
      some (([] : List Int), (13 : Int))
    else
      if (decide ((p3.Data.length : Int) > 16777215)) = true then
        Option.map .inr <|
        some (([] : List Int), (21 : Int))
      else
        if (a2.2 == (W ((y0.length : Int) - 1))) = true then
          blocks_Write_K2 a2 p3 (W (p3.m_Type + 128))
        else
          blocks_Write_K2 a2 p3 p3.m_Type
  else
    Option.map .inr <|
    blocks_Write_K1 a2.1
def blocks_Write (y0 : List blocks_Block) : Option ((List Int) × Int) :=
  if ((y0.length : Int) == 0) = true then
    some (([] : List Int), (20 : Int))
  else
    iter (blocks_Write_L1 y0) ([], 0)
def blocks_number_K1 (j1 : Int) : Option Int :=
  some j1
def blocks_number_L1 (y0 : List Int) (a2 : Int × Int) : Option ((Int × Int) ⊕ Int) :=
  if (decide (a2.2 < (y0.length : Int))) = true then
    (idx y0 a2.2).bind fun p3 =>
    some (.inl ((arD .or .i64 (shD .shl .i64 a2.1 8) p3), (W (a2.2 + 1))))
  else
    Option.map .inr <|
    blocks_number_K1 a2.1
def blocks_number (y0 : List Int) : Option Int :=
  iter (blocks_number_L1 y0) (0, 0)
def blocks_order_K1 (j1 : Unit) : Option Int :=
  some (0 : Int)
def blocks_order_L1 (y0 : List blocks_Point) (a2 : Int) : Option (Int ⊕ Int) :=
  if (decide (a2 < (y0.length : Int))) = true then
    (idx y0 a2).bind fun p3 =>
    if (p3.Sample != (-1)) = true then
      (idx y0 a2).bind fun p4 =>
      (idx y0 (W (a2 - 1))).bind fun p5 =>
      if (decide (p4.Sample ≤ p5.Sample)) = true then
        Option.map .inr <|
        some (18 : Int)
      else
        (idx y0 (W (a2 - 1))).bind fun p6 =>
        if (p6.Sample == (-1)) = true then
          (idx y0 a2).bind fun p7 =>
          if (p7.Sample != (-1)) = true then
            Option.map .inr <|
            some (18 : Int)
          else
            some (.inl (W (a2 + 1)))
        else
          some (.inl (W (a2 + 1)))
    else
      (idx y0 (W (a2 - 1))).bind fun p8 =>
      if (p8.Sample == (-1)) = true then
        (idx y0 a2).bind fun p9 =>
        if (p9.Sample != (-1)) = true then
          Option.map .inr <|
          some (18 : Int)
        else
          some (.inl (W (a2 + 1)))
      else
        some (.inl (W (a2 + 1)))
  else
    Option.map .inr <|
    blocks_order_K1 ()
def blocks_order (y0 : List blocks_Point) : Option Int :=
  iter (blocks_order_L1 y0) 1
def blocks_Points_K1 (j1 : (List blocks_Point)) : Option ((List blocks_Point) × Int) :=
  (blocks_order j1).bind fun r2 =>
  if (r2 != 0) = true then
    some (([] : List blocks_Point), r2)
  else
    some (j1, (0 : Int))
def blocks_Points_L1 (p4 : List Int) (a5 : (List blocks_Point)) : Option ((List blocks_Point) ⊕ (List blocks_Point)) :=
  (sub p4 0 8).bind fun l7 =>
  (sub p4 8 16).bind fun l8 =>
  (sub p4 16 (p4.length : Int)).bind fun l9 =>
  (blocks_number l7).bind fun r10 =>
  (blocks_number l8).bind fun r11 =>
  (blocks_number l9).bind fun r12 =>
  if (if (decide (r10 < (-1))) = true then true else (decide (r11 < 0))) = true then
    some (.inr a5)
  else
    (app 24 a5 [(⟨r10, r11, r12⟩ : blocks_Point)]).bind fun l13 =>
    some (.inl l13)
def blocks_Points_K2 (a5 : (List blocks_Point)) : Option ((List blocks_Point) × Int) :=
  blocks_Points_K1 a5
def blocks_Points_K3 (b6 : (List blocks_Point)) : Option ((List blocks_Point) × Int) :=
  some (([] : List blocks_Point), (10 : Int))
def blocks_Points (y0 : List Int) : Option ((List blocks_Point) × Int) :=
  if (decide (((y0.length : Int).tmod 18) > 0)) = true then
    some (([] : List blocks_Point), (12 : Int))
  else
    (chunkF y0 (18 : Int)).bind fun r3 =>
    foldR blocks_Points_L1 blocks_Points_K2 blocks_Points_K3 r3 []
def jetsamlaw11_Bytes_K1 (j1 : Unit) : Option Bool :=
  some true
def jetsamlaw11_Bytes_L1 (y0 : List Int) (y1 : List Int) (a2 : Int) : Option (Int ⊕ Bool) :=
  if (decide (a2 < (y0.length : Int))) = true then
    (idx y0 a2).bind fun p3 =>
    (idx y1 a2).bind fun p4 =>
    if (p3 != p4) = true then
      Option.map .inr <|
      some false
    else
      some (.inl (W (a2 + 1)))
  else
    Option.map .inr <|
    jetsamlaw11_Bytes_K1 ()
def jetsamlaw11_Bytes (y0 : List Int) (y1 : List Int) : Option Bool :=
  if ((y0.length : Int) != (y1.length : Int)) = true then
    some false
  else
    iter (jetsamlaw11_Bytes_L1 y0 y1) 0
def jetsamlaw12_awake_K2 (r1 : blocks_Block × Int) (r2 : (List Int) × Int) (j4 : (List Int)) : Option Bool :=
  (blocks_Points j4).bind fun r5 =>
  if (if (r1.2 == 0) = true then (r2.2 == 0) else false) = true then
    (jetsamlaw11_Bytes r2.1 [(129 : Int), (0 : Int), (0 : Int), (2 : Int), (0 : Int), (0 : Int)]).bind fun r6 =>
    if (if (if r6 = true then (r5.2 == 0) else false) = true then ((r5.1.length : Int) == 1) else false) = true then
      (idx r5.1 0).bind fun p7 =>
      some ((p7.Sample == (-1)) && ((p7.Offset == 0) && (p7.Count == 0)))
    else
      some false
  else
    some false
def jetsamlaw12_awake_L1 (r1 : blocks_Block × Int) (r2 : (List Int) × Int) (a8 : Int × (List Int)) : Option ((Int × (List Int)) ⊕ Bool) :=
  if (decide (a8.1 < 8)) = true then
    need (decide (a8.1 ≥ 0)) <|
    need (decide (a8.1 < (a8.2.length : Int))) <|
    (upd a8.2 a8.1 (255 : Int)).bind fun l9 =>
    some (.inl ((W (a8.1 + 1)), l9))
  else
    Option.map .inr <|
    jetsamlaw12_awake_K2 r1 r2 a8.2
def jetsamlaw12_awake_K1 (r1 : blocks_Block × Int) (r2 : (List Int) × Int) (j3 : (List Int)) : Option Bool :=
  iter (jetsamlaw12_awake_L1 r1 r2) (0, j3)
def jetsamlaw12_awake_L2 (r1 : blocks_Block × Int) (r2 : (List Int) × Int) (a10 : Int × (List Int)) : Option ((Int × (List Int)) ⊕ Bool) :=
  if (decide (a10.1 < 18)) = true then
    (app 1 a10.2 [(0 : Int)]).bind fun l11 =>
    some (.inl ((W (a10.1 + 1)), l11))
  else
    Option.map .inr <|
    jetsamlaw12_awake_K1 r1 r2 a10.2
def jetsamlaw12_awake : Option Bool :=
  (blocks_Zeros (2 : Int)).bind fun r1 =>
  (blocks_Write [r1.1]).bind fun r2 =>
  iter (jetsamlaw12_awake_L2 r1 r2) (0, [])
def jetsamlaw12_Plain_K1 (j1 : (List Int) × (List (List Int))) : Option ((List Int) × (List (List Int))) :=
  some (j1.1, j1.2)
def jetsamlaw12_Plain_L1 (y0 : List blocks_Block) (a2 : Int × (List Int) × (List (List Int))) : Option ((Int × (List Int) × (List (List Int))) ⊕ ((List Int) × (List (List Int)))) :=
  if (decide (a2.1 < (y0.length : Int))) = true then
    (idx y0 a2.1).bind fun p3 =>
    (app 8 a2.2.1 [p3.m_Type]).bind fun l4 =>
    (idx y0 a2.1).bind fun p5 =>
    (app 24 a2.2.2 [p5.Data]).bind fun l6 =>
    some (.inl ((W (a2.1 + 1)), l4, l6))
  else
    Option.map .inr <|
    jetsamlaw12_Plain_K1 (a2.2.1, a2.2.2)
def jetsamlaw12_Plain (y0 : List blocks_Block) : Option ((List Int) × (List (List Int))) :=
  iter (jetsamlaw12_Plain_L1 y0) (0, [], [])
def jetsamref12_Big_K1 (j1 : (List Int)) : Option (List Int) :=
  some j1
def jetsamref12_Big_L1 (y0 : Int) (a2 : Int × (List Int)) : Option ((Int × (List Int)) ⊕ (List Int)) :=
  if (decide (a2.1 ≥ 0)) = true then
    need (decide ((W (8 * a2.1)) ≥ 0)) <|
    (app 1 a2.2 [(IntKind.u8.wrap ((shD .shr .i64 y0 (W (8 * a2.1))).tmod 256))]).bind fun l3 =>
    some (.inl ((W (a2.1 - 1)), l3))
  else
    Option.map .inr <|
    jetsamref12_Big_K1 a2.2
def jetsamref12_Big (y0 : Int) (y1 : Int) : Option (List Int) :=
  iter (jetsamref12_Big_L1 y0) ((W (y1 - 1)), [])
def jetsamref12_Write_K1 (j1 : (List Int)) : Option ((List Int) × Int) :=
  some (j1, (0 : Int))
def jetsamref12_Write_K2 (y1 : List (List Int)) (a2 : Int × (List Int)) (j7 : Int) : Option ((Int × (List Int)) ⊕ ((List Int) × Int)) :=
  (app 1 a2.2 [(IntKind.u8.wrap j7)]).bind fun l8 =>
  (idx y1 a2.1).bind fun p9 =>
  (jetsamref12_Big (p9.length : Int) (3 : Int)).bind fun r10 =>
  (app 1 l8 r10).bind fun l11 =>
  (idx y1 a2.1).bind fun p12 =>
  (app 1 l11 p12).bind fun l13 =>
  some (.inl ((W (a2.1 + 1)), l13))
def jetsamref12_Write_L1 (y0 : List Int) (y1 : List (List Int)) (a2 : Int × (List Int)) : Option ((Int × (List Int)) ⊕ ((List Int) × Int)) :=
  if (decide (a2.1 < (y0.length : Int))) = true then
    (idx y0 a2.1).bind fun p3 =>
    if (decide (p3 < 0)) = true then
      Option.map .inr <|
      some (([] : List Int), (13 : Int))
    else
      (idx y0 a2.1).bind fun p4 =>
      if (decide (p4 > 126)) = true then
        Option.map .inr <|
        some (([] : List Int), (13 : Int))
      else
        (idx y1 a2.1).bind fun p5 =>
        if (decide ((p5.length : Int) > 16777215)) = true then
          Option.map .inr <|
          some (([] : List Int), (21 : Int))
        else
          (idx y0 a2.1).bind fun p6 =>
          if ((W (a2.1 + 1)) == (y0.length : Int)) = true then
            jetsamref12_Write_K2 y1 a2 (W (p6 + 128))
          else
            jetsamref12_Write_K2 y1 a2 p6
  else
    Option.map .inr <|
    jetsamref12_Write_K1 a2.2
def jetsamref12_Write (y0 : List Int) (y1 : List (List Int)) : Option ((List Int) × Int) :=
  if ((y0.length : Int) == 0) = true then
    some (([] : List Int), (20 : Int))
  else
    iter (jetsamref12_Write_L1 y0 y1) (0, [])
def blocks_many_K1 (j1 : Int) : Option Int :=
  some j1
def blocks_many_K2 (a2 : Int × Int) (j3 : Int) : Option ((Int × Int) ⊕ Int) :=
  some (.inl (j3, (W (a2.2 + 1))))
def blocks_many_L1 (y0 : List blocks_Block) (y1 : Int) (a2 : Int × Int) : Option ((Int × Int) ⊕ Int) :=
  if (decide (a2.2 < (y0.length : Int))) = true then
    (idx y0 a2.2).bind fun p4 =>
    if (p4.m_Type == y1) = true then
      blocks_many_K2 a2 (W (a2.1 + 1))
    else
      blocks_many_K2 a2 a2.1
  else
    Option.map .inr <|
    blocks_many_K1 a2.1
def blocks_many (y0 : List blocks_Block) (y1 : Int) : Option Int :=
  iter (blocks_many_L1 y0 y1) (0, 0)
def slices_IndexFunc_sblocks_Block_blocks_Block_K1 (j1 : Unit) : Option Int :=
  some ((-1) : Int)
def slices_IndexFunc_sblocks_Block_blocks_Block_L1 (y0 : List blocks_Block) (g1 : blocks_Block → Option Bool) (a2 : Int) : Option (Int ⊕ Int) :=
  if (decide (a2 < (y0.length : Int))) = true then
    (idx y0 a2).bind fun p3 =>
    (g1 p3).bind fun r4 =>
    if r4 = true then
      Option.map .inr <|
      some a2
    else
      some (.inl (W (a2 + 1)))
  else
    Option.map .inr <|
    slices_IndexFunc_sblocks_Block_blocks_Block_K1 ()
def slices_IndexFunc_sblocks_Block_blocks_Block (y0 : List blocks_Block) (g1 : blocks_Block → Option Bool) : Option Int :=
  iter (slices_IndexFunc_sblocks_Block_blocks_Block_L1 y0 g1) 0
def slices_ContainsFunc_sblocks_Block_blocks_Block (y0 : List blocks_Block) (g1 : blocks_Block → Option Bool) : Option Bool :=
  (slices_IndexFunc_sblocks_Block_blocks_Block y0 g1).bind fun r1 =>
  some (decide (r1 ≥ 0))
def bytes_trimRightByte_K1 (j1 : (List Int)) : Option (List Int) :=
  some j1
def bytes_trimRightByte_L1 (y1 : Int) (a2 : (List Int)) : Option ((List Int) ⊕ (List Int)) :=
  if (decide ((a2.length : Int) > 0)) = true then
    (idx a2 (W ((a2.length : Int) - 1))).bind fun p3 =>
    if (p3 == y1) = true then
      (sub a2 0 (W ((a2.length : Int) - 1))).bind fun l4 =>
      some (.inl l4)
    else
      Option.map .inr <|
      bytes_trimRightByte_K1 a2
  else
    Option.map .inr <|
    bytes_trimRightByte_K1 a2
def bytes_trimRightByte (y0 : List Int) (y1 : Int) : Option (List Int) :=
  iter (bytes_trimRightByte_L1 y1) y0
def bytes_trimLeftByte_K1 (j1 : (List Int)) : Option (List Int) :=
  if ((j1.length : Int) == 0) = true then
    some ([] : List Int)
  else
    some j1
def bytes_trimLeftByte_L1 (y1 : Int) (a2 : (List Int)) : Option ((List Int) ⊕ (List Int)) :=
  if (decide ((a2.length : Int) > 0)) = true then
    (idx a2 0).bind fun p3 =>
    if (p3 == y1) = true then
      (sub a2 1 (a2.length : Int)).bind fun l4 =>
      some (.inl l4)
    else
      Option.map .inr <|
      bytes_trimLeftByte_K1 a2
  else
    Option.map .inr <|
    bytes_trimLeftByte_K1 a2
def bytes_trimLeftByte (y0 : List Int) (y1 : Int) : Option (List Int) :=
  iter (bytes_trimLeftByte_L1 y1) y0
def bytes_Trim (y0 : List Int) (y1 : List UInt8) : Option (List Int) :=
  if ((y0.length : Int) == 0) = true then
    some ([] : List Int)
  else
    if (y1 == []) = true then
      some y0
    else
      if ((y1.length : Int) == 1) = true then
        (idx y1 0).bind fun b1 =>
        if (decide ((b1.toNat : Int) < 128)) = true then
          (idx y1 0).bind fun b2 =>
          (idx y1 0).bind fun b3 =>
          (bytes_trimRightByte y0 (b2.toNat : Int)).bind fun r4 =>
          (bytes_trimLeftByte r4 (b3.toNat : Int)).bind fun r5 =>
          some r5
        else
          none
      else
        none
def blocks_bad (y0 : blocks_Block) : Option Bool :=
  if (y0.m_Type == 1) = true then
    (bytes_Trim y0.Data [0]).bind fun r1 =>
    some (decide ((r1.length : Int) > 0))
  else
    if (y0.m_Type == 2) = true then
      some (decide ((y0.Data.length : Int) < 4))
    else
      if (y0.m_Type == 3) = true then
        some (decide (((y0.Data.length : Int).tmod 18) > 0))
      else
        some false
def blocks_Order (y0 : List blocks_Block) : Option Int :=
  if ((y0.length : Int) == 0) = true then
    some (20 : Int)
  else
    (idx y0 0).bind fun p1 =>
    if (p1.m_Type != 0) = true then
      some (20 : Int)
    else
      (blocks_many y0 (0 : Int)).bind fun r2 =>
      if (decide (r2 > 1)) = true then
        some (19 : Int)
      else
        (blocks_many y0 (3 : Int)).bind fun r3 =>
        if (decide (r3 > 1)) = true then
          some (19 : Int)
        else
          (blocks_many y0 (4 : Int)).bind fun r4 =>
          if (decide (r4 > 1)) = true then
            some (19 : Int)
          else
            (idx y0 0).bind fun p5 =>
            if ((p5.Data.length : Int) != 34) = true then
              some (10 : Int)
            else
              (slices_ContainsFunc_sblocks_Block_blocks_Block y0 blocks_bad).bind fun r6 =>
              if r6 = true then
                some (12 : Int)
              else
                some (0 : Int)
def jetsamref12_Order_K2 (j4 : Unit) : Option Int :=
  some (0 : Int)
def jetsamref12_Order_K3 (a5 : Int) (j6 : Int × Bool × Bool × Bool) : Option (Int ⊕ Int) :=
  some (.inl (W (a5 + 1)))
def jetsamref12_Order_L2 (y0 : List Int) (y1 : List (List Int)) (a5 : Int) (p9 : Int) (p10 : List Int) (a11 : Int) : Option (Int ⊕ (Int ⊕ Int)) :=
  (idx y1 a5).bind fun p12 =>
  if (decide (a11 < (p12.length : Int))) = true then
    (idx y0 a5).bind fun p13 =>
    if (p13 == 1) = true then
      (idx y1 a5).bind fun p14 =>
      (idx p14 a11).bind fun p15 =>
      if (p15 != 0) = true then
        Option.map .inr <|
        Option.map .inr <|
        some (12 : Int)
      else
        some (.inl (W (a11 + 1)))
    else
      Option.map .inr <|
      jetsamref12_Order_K3 a5 (p9, (p9 == 3), true, (((p10.length : Int).tmod 18) != 0))
  else
    Option.map .inr <|
    jetsamref12_Order_K3 a5 (p9, (p9 == 3), true, (((p10.length : Int).tmod 18) != 0))
def jetsamref12_Order_L3 (y0 : List Int) (y1 : List (List Int)) (a5 : Int) (p9 : Int) (a16 : Int) : Option (Int ⊕ (Int ⊕ Int)) :=
  (idx y1 a5).bind fun p17 =>
  if (decide (a16 < (p17.length : Int))) = true then
    (idx y0 a5).bind fun p18 =>
    if (p18 == 1) = true then
      (idx y1 a5).bind fun p19 =>
      (idx p19 a16).bind fun p20 =>
      if (p20 != 0) = true then
        Option.map .inr <|
        Option.map .inr <|
        some (12 : Int)
      else
        some (.inl (W (a16 + 1)))
    else
      Option.map .inr <|
      jetsamref12_Order_K3 a5 (p9, (p9 == 3), false, false)
  else
    Option.map .inr <|
    jetsamref12_Order_K3 a5 (p9, (p9 == 3), false, false)
def jetsamref12_Order_L1 (y0 : List Int) (y1 : List (List Int)) (a5 : Int) : Option (Int ⊕ Int) :=
  if (decide (a5 < (y0.length : Int))) = true then
    (idx y0 a5).bind fun p7 =>
    if (p7 == 2) = true then
      (idx y1 a5).bind fun p8 =>
      if (decide ((p8.length : Int) < 4)) = true then
        Option.map .inr <|
        some (12 : Int)
      else
        (idx y0 a5).bind fun p9 =>
        if (p9 == 3) = true then
          (idx y1 a5).bind fun p10 =>
          if (((p10.length : Int).tmod 18) != 0) = true then
            Option.map .inr <|
            some (12 : Int)
          else
            iter (jetsamref12_Order_L2 y0 y1 a5 p9 p10) 0
        else
          iter (jetsamref12_Order_L3 y0 y1 a5 p9) 0
    else
      (idx y0 a5).bind fun p21 =>
      if (p21 == 3) = true then
        (idx y1 a5).bind fun p22 =>
        if (((p22.length : Int).tmod 18) != 0) = true then
          Option.map .inr <|
          some (12 : Int)
        else
          iter (jetsamref12_Order_L2 y0 y1 a5 p21 p22) 0
      else
        iter (jetsamref12_Order_L3 y0 y1 a5 p21) 0
  else
    Option.map .inr <|
    jetsamref12_Order_K2 ()
def jetsamref12_Order_K1 (y0 : List Int) (y1 : List (List Int)) (j2 : Unit) : Option Int :=
  (idx y1 0).bind fun p3 =>
  if ((p3.length : Int) != 34) = true then
    some (10 : Int)
  else
    iter (jetsamref12_Order_L1 y0 y1) 0
def jetsamref12_Order_K4 (a33 : Int) (j34 : Unit) : Option (Int ⊕ Int) :=
  some (.inl (W (a33 + 1)))
def jetsamref12_Order_L7 (y0 : List Int) (a33 : Int) (a35 : Int) : Option (Int ⊕ (Int ⊕ Int)) :=
  if (decide (a35 < a33)) = true then
    (idx y0 a33).bind fun p36 =>
    (idx y0 a35).bind fun p37 =>
    if (p36 == p37) = true then
      (idx y0 a33).bind fun p38 =>
      if (p38 == 0) = true then
        Option.map .inr <|
        Option.map .inr <|
        some (19 : Int)
      else
        (idx y0 a33).bind fun p39 =>
        if (p39 == 3) = true then
          Option.map .inr <|
          Option.map .inr <|
          some (19 : Int)
        else
          (idx y0 a33).bind fun p40 =>
          if (p40 == 4) = true then
            Option.map .inr <|
            Option.map .inr <|
            some (19 : Int)
          else
            some (.inl (W (a35 + 1)))
    else
      some (.inl (W (a35 + 1)))
  else
    Option.map .inr <|
    jetsamref12_Order_K4 a33 ()
def jetsamref12_Order_L6 (y0 : List Int) (y1 : List (List Int)) (a33 : Int) : Option (Int ⊕ Int) :=
  if (decide (a33 < (y0.length : Int))) = true then
    iter (jetsamref12_Order_L7 y0 a33) 0
  else
    Option.map .inr <|
    jetsamref12_Order_K1 y0 y1 ()
def jetsamref12_Order (y0 : List Int) (y1 : List (List Int)) : Option Int :=
  if ((y0.length : Int) == 0) = true then
    some (20 : Int)
  else
    (idx y0 0).bind fun p1 =>
    if (p1 != 0) = true then
      some (20 : Int)
    else
      iter (jetsamref12_Order_L6 y0 y1) 0
def jetsamlaw12_BlocksWrites (y0 : List blocks_Block) : Option Bool :=
  (jetsamlaw12_Few y0).bind fun r1 =>
  if (!r1) = true then
    (jetsamlaw12_awake).bind fun r2 =>
    some r2
  else
    (jetsamlaw12_Plain y0).bind fun r3 =>
    (blocks_Write y0).bind fun r4 =>
    (jetsamref12_Write r3.1 r3.2).bind fun r5 =>
    (jetsamlaw11_Bytes r4.1 r5.1).bind fun r6 =>
    if (if r6 = true then (r4.2 == r5.2) else false) = true then
      (blocks_Order y0).bind fun r7 =>
      (jetsamref12_Order r3.1 r3.2).bind fun r8 =>
      if (r7 == r8) = true then
        (jetsamlaw12_awake).bind fun r9 =>
        some r9
      else
        some false
    else
      some false
def jetsamlaw12_BlocksTurns_K1 (y0 : List blocks_Block) (j5 : (List blocks_Block)) : Option Bool :=
  (blocks_Order j5).bind fun r6 =>
  (blocks_Order y0).bind fun r7 =>
  if (r6 == r7) = true then
    (jetsamlaw12_awake).bind fun r8 =>
    some r8
  else
    some false
def jetsamlaw12_BlocksTurns_L1 (y0 : List blocks_Block) (y1 : Int) (a9 : Int × (List blocks_Block)) : Option ((Int × (List blocks_Block)) ⊕ Bool) :=
  if (decide (a9.1 < (W ((y0.length : Int) - 1)))) = true then
    need ((W ((y0.length : Int) - 1)) != 0) <|
    need ((W ((y0.length : Int) - 1)) != 0) <|
    need ((W ((y0.length : Int) - 1)) != 0) <|
    (idx y0 (W (1 + ((W (((W ((y1.tmod (W ((y0.length : Int) - 1))) + (W ((y0.length : Int) - 1)))).tmod (W ((y0.length : Int) - 1))) + a9.1)).tmod (W ((y0.length : Int) - 1)))))).bind fun p10 =>
    (app 32 a9.2 [p10]).bind fun l11 =>
    some (.inl ((W (a9.1 + 1)), l11))
  else
    Option.map .inr <|
    jetsamlaw12_BlocksTurns_K1 y0 a9.2
def jetsamlaw12_BlocksTurns (y0 : List blocks_Block) (y1 : Int) : Option Bool :=
  (jetsamlaw12_Few y0).bind fun r1 =>
  if (if (!r1) = true then true else (decide ((y0.length : Int) < 2))) = true then
    (jetsamlaw12_awake).bind fun r2 =>
    some r2
  else
    (idx y0 0).bind fun p3 =>
    iter (jetsamlaw12_BlocksTurns_L1 y0 y1) (0, [p3])
end Go.Vg
