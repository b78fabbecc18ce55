/- What the functions answer, printed by a program. -/
import Derived.Test.YtpoljomhfcmdoaaVhS
set_option maxRecDepth 4000
set_option linter.all false
set_option linter.unusedVariables false
set_option linter.unusedSimpArgs false
namespace Go.Vg
open Go
structure infer_Range where
  From : Int
  To : Int
def e_infer_Range (p : infer_Range) : V := .agg [.int .i64 (.v p.From), .int .i64 (.v p.To)]
structure api_Params where
  Rate : Int
  Channels : Int
  Depth : Int
def e_api_Params (p : api_Params) : V := .agg [.int .i64 (.v p.Rate), .int .i64 (.v p.Channels), .int .i64 (.v p.Depth)]
structure chain_Guess where
  Params : api_Params
  Variable : Bool
  Block : Int
def e_chain_Guess (p : chain_Guess) : V := .agg [.int .i64 (.v p.Params.Rate), .int .i64 (.v p.Params.Channels), .int .i64 (.v p.Params.Depth), .bool (.v p.Variable), .int .i64 (.v p.Block)]
structure chain_Cand where
  Params : api_Params
  Offset : Int
  Size : Int
  Number : Int
  Block : Int
  Variable : Bool
def e_chain_Cand (p : chain_Cand) : V := .agg [.int .i64 (.v p.Params.Rate), .int .i64 (.v p.Params.Channels), .int .i64 (.v p.Params.Depth), .int .i64 (.v p.Offset), .int .i64 (.v p.Size), .int .i64 (.v p.Number), .int .i64 (.v p.Block), .bool (.v p.Variable)]
structure info_Info where
  Params : api_Params
  MinBlock : Int
  MaxBlock : Int
  MinFrame : Int
  MaxFrame : Int
  Total : Int
  Sum : Nat → Int
def e_info_Info (p : info_Info) : V := .agg [.int .i64 (.v p.Params.Rate), .int .i64 (.v p.Params.Channels), .int .i64 (.v p.Params.Depth), .int .i64 (.v p.MinBlock), .int .i64 (.v p.MaxBlock), .int .i64 (.v p.MinFrame), .int .i64 (.v p.MaxFrame), .int .i64 (.v p.Total), .int .u8 (.v (p.Sum 0)), .int .u8 (.v (p.Sum 1)), .int .u8 (.v (p.Sum 2)), .int .u8 (.v (p.Sum 3)), .int .u8 (.v (p.Sum 4)), .int .u8 (.v (p.Sum 5)), .int .u8 (.v (p.Sum 6)), .int .u8 (.v (p.Sum 7)), .int .u8 (.v (p.Sum 8)), .int .u8 (.v (p.Sum 9)), .int .u8 (.v (p.Sum 10)), .int .u8 (.v (p.Sum 11)), .int .u8 (.v (p.Sum 12)), .int .u8 (.v (p.Sum 13)), .int .u8 (.v (p.Sum 14)), .int .u8 (.v (p.Sum 15))]
def slices_Clone_sinfer_Range_infer_Range (y0 : List infer_Range) : Option (List infer_Range) :=
  (app 16 ([] : List infer_Range) y0).bind fun l1 =>
  some l1
def slices_IndexFunc_sinfer_Range_infer_Range_K1 (j1 : Unit) : Option Int :=
  some ((-1) : Int)
def slices_IndexFunc_sinfer_Range_infer_Range_L1 (y0 : List infer_Range) (g1 : infer_Range → Option Bool) (a2 : Int) : Option (Int ⊕ Int) :=
  if (decide (a2 < (y0.length : Int))) = true then
    (idx y0 a2).bind fun p3 =>
    (g1 p3).bind fun r4 =>
    if r4 = true then
      Option.map .inr <|
      some a2
    else
      some (.inl (W (a2 + 1)))
  else
    Option.map .inr <|
    slices_IndexFunc_sinfer_Range_infer_Range_K1 ()
def slices_IndexFunc_sinfer_Range_infer_Range (y0 : List infer_Range) (g1 : infer_Range → Option Bool) : Option Int :=
  iter (slices_IndexFunc_sinfer_Range_infer_Range_L1 y0 g1) 0
def slices_DeleteFunc_sinfer_Range_infer_Range_K1 (j2 : Int × (List infer_Range)) : Option (List infer_Range) :=
  (sub j2.2 j2.1 (j2.2.length : Int)).bind fun l3 =>
  if decide (0 < ((j2.2.length : Int) - j2.1)) = true then
    (clr j2.2 j2.1 ((j2.2.length : Int) - j2.1) (⟨(0 : Int), (0 : Int)⟩ : infer_Range)).bind fun l4 =>
    (sub l4 0 j2.1).bind fun l6 =>
    some l6
  else
    (sub j2.2 0 j2.1).bind fun l5 =>
    some l5
def slices_DeleteFunc_sinfer_Range_infer_Range_K2 (a7 : Int × Int × (List infer_Range)) (j8 : Int × (List infer_Range)) : Option ((Int × Int × (List infer_Range)) ⊕ (List infer_Range)) :=
  some (.inl (j8.1, (W (a7.2.1 + 1)), j8.2))
def slices_DeleteFunc_sinfer_Range_infer_Range_L1 (g1 : infer_Range → Option Bool) (a7 : Int × Int × (List infer_Range)) : Option ((Int × Int × (List infer_Range)) ⊕ (List infer_Range)) :=
  if (decide (a7.2.1 < (a7.2.2.length : Int))) = true then
    need (decide (a7.2.1 ≥ 0)) <|
    need (decide (a7.2.1 < (a7.2.2.length : Int))) <|
    (idx a7.2.2 a7.2.1).bind fun p9 =>
    (g1 p9).bind fun r10 =>
    if (!r10) = true then
      need (decide (a7.1 ≥ 0)) <|
      need (decide (a7.1 < (a7.2.2.length : Int))) <|
      (upd a7.2.2 a7.1 p9).bind fun l11 =>
      slices_DeleteFunc_sinfer_Range_infer_Range_K2 a7 ((W (a7.1 + 1)), l11)
    else
      slices_DeleteFunc_sinfer_Range_infer_Range_K2 a7 (a7.1, a7.2.2)
  else
    Option.map .inr <|
    slices_DeleteFunc_sinfer_Range_infer_Range_K1 (a7.1, a7.2.2)
def slices_DeleteFunc_sinfer_Range_infer_Range (y0 : List infer_Range) (g1 : infer_Range → Option Bool) : Option (List infer_Range) :=
  (slices_IndexFunc_sinfer_Range_infer_Range y0 g1).bind fun r1 =>
  if (r1 == (-1)) = true then
    some y0
  else
    iter (slices_DeleteFunc_sinfer_Range_infer_Range_L1 g1) (r1, (W (r1 + 1)), y0)
def infer_Range_Len (y0 : infer_Range) : Option Int :=
  some (if (W (y0.To - y0.From)) > 0 then (W (y0.To - y0.From)) else 0)
def infer_Join_c1 (y0 : infer_Range) : Option Bool :=
  (infer_Range_Len y0).bind fun r1 =>
  some (r1 == 0)
def cmp_isNaN_int (y0 : Int) : Option Bool :=
  some (y0 != y0)
def cmp_Compare_int (y0 : Int) (y1 : Int) : Option Int :=
  (cmp_isNaN_int y0).bind fun r1 =>
  (cmp_isNaN_int y1).bind fun r2 =>
  if r1 = true then
    if r2 = true then
      some (0 : Int)
    else
      some ((-1) : Int)
  else
    if r2 = true then
      some (1 : Int)
    else
      if (decide (y0 < y1)) = true then
        some ((-1) : Int)
      else
        if (decide (y0 > y1)) = true then
          some (1 : Int)
        else
          some (0 : Int)
def cmp_Or_int_K1 (j1 : Unit) : Option Int :=
  some (0 : Int)
def cmp_Or_int_L1 (y0 : List Int) (a2 : Int) : Option (Int ⊕ Int) :=
  if (decide (a2 < (y0.length : Int))) = true then
    (idx y0 a2).bind fun p3 =>
    if (p3 != 0) = true then
      Option.map .inr <|
      some p3
    else
      some (.inl (W (a2 + 1)))
  else
    Option.map .inr <|
    cmp_Or_int_K1 ()
def cmp_Or_int (y0 : List Int) : Option Int :=
  iter (cmp_Or_int_L1 y0) 0
def infer_Join_c2 (y0 : infer_Range) (y1 : infer_Range) : Option Int :=
  (cmp_Compare_int y0.From y1.From).bind fun r1 =>
  (cmp_Compare_int y0.To y1.To).bind fun r2 =>
  (cmp_Or_int [r1, r2]).bind fun r3 =>
  some r3
def infer_Join_K1 (j4 : (List infer_Range)) : Option (List infer_Range) :=
  some j4
def infer_Join_K2 (a5 : Int × (List infer_Range)) (j6 : (List infer_Range)) : Option ((Int × (List infer_Range)) ⊕ (List infer_Range)) :=
  some (.inl ((W (a5.1 + 1)), j6))
def infer_Join_L1 (r3 : List infer_Range) (a5 : Int × (List infer_Range)) : Option ((Int × (List infer_Range)) ⊕ (List infer_Range)) :=
  if (decide (a5.1 < (r3.length : Int))) = true then
    need (decide (a5.1 ≥ 0)) <|
    need (decide (a5.1 < (r3.length : Int))) <|
    (idx r3 a5.1).bind fun p7 =>
    if (decide ((a5.2.length : Int) > 0)) = true then
      need (decide ((W ((a5.2.length : Int) - 1)) ≥ 0)) <|
      need (decide ((W ((a5.2.length : Int) - 1)) < (a5.2.length : Int))) <|
      (idx a5.2 (W ((a5.2.length : Int) - 1))).bind fun p8 =>
      if (decide (p7.From ≤ p8.To)) = true then
        need (decide ((W ((a5.2.length : Int) - 1)) ≥ 0)) <|
        need (decide ((W ((a5.2.length : Int) - 1)) < (a5.2.length : Int))) <|
        (idx a5.2 (W ((a5.2.length : Int) - 1))).bind fun p9 =>
        need (decide ((W ((a5.2.length : Int) - 1)) ≥ 0)) <|
        need (decide ((W ((a5.2.length : Int) - 1)) < (a5.2.length : Int))) <|
        (updf a5.2 (W ((a5.2.length : Int) - 1)) (fun q11 => (⟨q11.From, (if p7.To > p9.To then p7.To else p9.To)⟩ : infer_Range))).bind fun l10 =>
        infer_Join_K2 a5 l10
      else
        (app 16 a5.2 [p7]).bind fun l15 =>
        infer_Join_K2 a5 l15
    else
      (app 16 a5.2 [p7]).bind fun l16 =>
      infer_Join_K2 a5 l16
  else
    Option.map .inr <|
    infer_Join_K1 a5.2
def infer_Join (y0 : List infer_Range) : Option (List infer_Range) :=
  (slices_Clone_sinfer_Range_infer_Range y0).bind fun r1 =>
  (slices_DeleteFunc_sinfer_Range_infer_Range r1 infer_Join_c1).bind fun r2 =>
  (sortG r2 infer_Join_c2).bind fun r3 =>
  iter (infer_Join_L1 r3) (0, [])
def infer_Missing_K1 (y0 : Int) (j1 : Int × (List infer_Range)) : Option (List infer_Range) :=
  (app 16 j1.2 [(⟨j1.1, y0⟩ : infer_Range)]).bind fun l2 =>
  (infer_Join l2).bind fun r3 =>
  some r3
def infer_Missing_L1 (y0 : Int) (r4 : List infer_Range) (a5 : Int × Int × (List infer_Range)) : Option ((Int × Int × (List infer_Range)) ⊕ (List infer_Range)) :=
  if (decide (a5.2.1 < (r4.length : Int))) = true then
    (idx r4 a5.2.1).bind fun p6 =>
    (app 16 a5.2.2 [(⟨a5.1, (if y0 < p6.From then y0 else p6.From)⟩ : infer_Range)]).bind fun l7 =>
    some (.inl ((if p6.To > a5.1 then p6.To else a5.1), (W (a5.2.1 + 1)), l7))
  else
    Option.map .inr <|
    infer_Missing_K1 y0 (a5.1, a5.2.2)
def infer_Missing (y0 : Int) (y1 : List infer_Range) : Option (List infer_Range) :=
  (infer_Join y1).bind fun r4 =>
  iter (infer_Missing_L1 y0 r4) (0, 0, [])
def jetsamlaw17_Ranges_K1 (j1 : Unit) : Option Bool :=
  some true
def jetsamlaw17_Ranges_L1 (y0 : List infer_Range) (y1 : List infer_Range) (a2 : Int) : Option (Int ⊕ Bool) :=
  if (decide (a2 < (y0.length : Int))) = true then
    (idx y0 a2).bind fun p3 =>
    (idx y1 a2).bind fun p4 =>
    if (!((p3.From == p4.From) && (p3.To == p4.To))) = true then
      Option.map .inr <|
      some false
    else
      some (.inl (W (a2 + 1)))
  else
    Option.map .inr <|
    jetsamlaw17_Ranges_K1 ()
def jetsamlaw17_Ranges (y0 : List infer_Range) (y1 : List infer_Range) : Option Bool :=
  if ((y0.length : Int) != (y1.length : Int)) = true then
    some false
  else
    iter (jetsamlaw17_Ranges_L1 y0 y1) 0
def jetsamlaw17_awake : Option Bool :=
  (infer_Join [(⟨(5 : Int), (9 : Int)⟩ : infer_Range), (⟨(0 : Int), (3 : Int)⟩ : infer_Range), (⟨(3 : Int), (5 : Int)⟩ : infer_Range), (⟨(12 : Int), (12 : Int)⟩ : infer_Range)]).bind fun r1 =>
  (infer_Missing (12 : Int) [(⟨(0 : Int), (3 : Int)⟩ : infer_Range), (⟨(5 : Int), (9 : Int)⟩ : infer_Range)]).bind fun r2 =>
  (jetsamlaw17_Ranges r1 [(⟨(0 : Int), (9 : Int)⟩ : infer_Range)]).bind fun r3 =>
  if r3 = true then
    (jetsamlaw17_Ranges r2 [(⟨(3 : Int), (5 : Int)⟩ : infer_Range), (⟨(9 : Int), (12 : Int)⟩ : infer_Range)]).bind fun r4 =>
    some r4
  else
    some false
def jetsamlaw17_rises_K1 (j1 : Unit) : Option Bool :=
  some true
def jetsamlaw17_rises_L1 (y0 : List infer_Range) (a2 : Int) : Option (Int ⊕ Bool) :=
  if (decide (a2 < (y0.length : Int))) = true then
    (idx y0 a2).bind fun p3 =>
    (infer_Range_Len p3).bind fun r4 =>
    if (r4 == 0) = true then
      Option.map .inr <|
      some false
    else
      if (decide (a2 > 0)) = true then
        (idx y0 a2).bind fun p5 =>
        (idx y0 (W (a2 - 1))).bind fun p6 =>
        if (decide (p5.From ≤ p6.To)) = true then
          Option.map .inr <|
          some false
        else
          some (.inl (W (a2 + 1)))
      else
        some (.inl (W (a2 + 1)))
  else
    Option.map .inr <|
    jetsamlaw17_rises_K1 ()
def jetsamlaw17_rises (y0 : List infer_Range) : Option Bool :=
  iter (jetsamlaw17_rises_L1 y0) 0
def jetsamlaw17_InferParts_K3 (y1 : Int) (r3 : List infer_Range) (j12 : Int) : Option Bool :=
  if (j12 == y1) = true then
    (infer_Join r3).bind fun r13 =>
    (jetsamlaw17_Ranges r13 r3).bind fun r14 =>
    if r14 = true then
      (jetsamlaw17_awake).bind fun r15 =>
      some r15
    else
      some false
  else
    some false
def jetsamlaw17_InferParts_L1 (y1 : Int) (r3 : List infer_Range) (a16 : Int × Int) : Option ((Int × Int) ⊕ Bool) :=
  if (decide (a16.2 < (r3.length : Int))) = true then
    (idx r3 a16.2).bind fun p17 =>
    (idx r3 a16.2).bind fun p18 =>
    some (.inl ((W (a16.1 + (if (W ((if y1 < p17.To then y1 else p17.To) - (if y1 < p18.From then y1 else p18.From))) > 0 then (W ((if y1 < p17.To then y1 else p17.To) - (if y1 < p18.From then y1 else p18.From))) else 0))), (W (a16.2 + 1))))
  else
    Option.map .inr <|
    jetsamlaw17_InferParts_K3 y1 r3 a16.1
def jetsamlaw17_InferParts_K2 (y1 : Int) (r3 : List infer_Range) (j11 : Int) : Option Bool :=
  iter (jetsamlaw17_InferParts_L1 y1 r3) (j11, 0)
def jetsamlaw17_InferParts_K4 (a19 : Int × Int) (j20 : Int × Int × Bool) : Option ((Int × Int) ⊕ Bool) :=
  some (.inl (j20.1, (W (a19.2 + 1))))
def jetsamlaw17_InferParts_L3 (y1 : Int) (r3 : List infer_Range) (r4 : List infer_Range) (a19 : Int × Int) (r22 : Int) (p24 : infer_Range) (a25 : Int) : Option (Int ⊕ ((Int × Int) ⊕ Bool)) :=
  if (decide (a25 < (r3.length : Int))) = true then
    (idx r4 a19.2).bind fun p26 =>
    (idx r3 a25).bind fun p27 =>
    if (decide (p26.From < p27.To)) = true then
      (idx r3 a25).bind fun p28 =>
      (idx r4 a19.2).bind fun p29 =>
      if (decide (p28.From < p29.To)) = true then
        Option.map .inr <|
        Option.map .inr <|
        some false
      else
        some (.inl (W (a25 + 1)))
    else
      some (.inl (W (a25 + 1)))
  else
    Option.map .inr <|
    jetsamlaw17_InferParts_K4 a19 ((W (a19.1 + r22)), p24.To, (decide (p24.To > y1)))
def jetsamlaw17_InferParts_L2 (y1 : Int) (r3 : List infer_Range) (r4 : List infer_Range) (a19 : Int × Int) : Option ((Int × Int) ⊕ Bool) :=
  if (decide (a19.2 < (r4.length : Int))) = true then
    (idx r4 a19.2).bind fun p21 =>
    (infer_Range_Len p21).bind fun r22 =>
    (idx r4 a19.2).bind fun p23 =>
    if (decide (p23.From < 0)) = true then
      Option.map .inr <|
      some false
    else
      (idx r4 a19.2).bind fun p24 =>
      if (decide (p24.To > y1)) = true then
        Option.map .inr <|
        some false
      else
        iter (jetsamlaw17_InferParts_L3 y1 r3 r4 a19 r22 p24) 0
  else
    Option.map .inr <|
    jetsamlaw17_InferParts_K2 y1 r3 a19.1
def jetsamlaw17_InferParts_K1 (y0 : List infer_Range) (y1 : Int) (j2 : (List infer_Range)) : Option Bool :=
  (infer_Join y0).bind fun r3 =>
  (infer_Missing y1 y0).bind fun r4 =>
  (infer_Join j2).bind fun r5 =>
  (jetsamlaw17_Ranges r5 r3).bind fun r6 =>
  if (!r6) = true then
    some false
  else
    (infer_Missing y1 j2).bind fun r7 =>
    (jetsamlaw17_Ranges r7 r4).bind fun r8 =>
    if (!r8) = true then
      some false
    else
      (jetsamlaw17_rises r3).bind fun r9 =>
      if (!r9) = true then
        some false
      else
        (jetsamlaw17_rises r4).bind fun r10 =>
        if (!r10) = true then
          some false
        else
          iter (jetsamlaw17_InferParts_L2 y1 r3 r4) (0, 0)
def jetsamlaw17_InferParts_L4 (y0 : List infer_Range) (y1 : Int) (y2 : Int) (a30 : Int × (List infer_Range)) : Option ((Int × (List infer_Range)) ⊕ Bool) :=
  if (decide (a30.1 < (y0.length : Int))) = true then
    (idx y0 a30.1).bind fun p31 =>
    if (decide (p31.From < 0)) = true then
      (jetsamlaw17_awake).bind fun r32 =>
      Option.map .inr <|
      some r32
    else
      (idx y0 a30.1).bind fun p33 =>
      if (decide (p33.From > 1099511627776)) = true then
        (jetsamlaw17_awake).bind fun r34 =>
        Option.map .inr <|
        some r34
      else
        (idx y0 a30.1).bind fun p35 =>
        if (decide (p35.To < 0)) = true then
          (jetsamlaw17_awake).bind fun r36 =>
          Option.map .inr <|
          some r36
        else
          (idx y0 a30.1).bind fun p37 =>
          if (decide (p37.To > 1099511627776)) = true then
            (jetsamlaw17_awake).bind fun r38 =>
            Option.map .inr <|
            some r38
          else
            need ((y0.length : Int) != 0) <|
            need ((y0.length : Int) != 0) <|
            need ((y0.length : Int) != 0) <|
            (idx y0 ((W (((W ((y2.tmod (y0.length : Int)) + (y0.length : Int))).tmod (y0.length : Int)) + a30.1)).tmod (y0.length : Int))).bind fun p39 =>
            (app 16 a30.2 [p39]).bind fun l40 =>
            some (.inl ((W (a30.1 + 1)), l40))
  else
    Option.map .inr <|
    jetsamlaw17_InferParts_K1 y0 y1 a30.2
def jetsamlaw17_InferParts (y0 : List infer_Range) (y1 : Int) (y2 : Int) : Option Bool :=
  if (if (if (if (decide ((y0.length : Int) > 30)) = true then true else ((y0.length : Int) == 0)) = true then true else (decide (y1 < 0))) = true then true else (decide (y1 > 1099511627776))) = true then
    (jetsamlaw17_awake).bind fun r1 =>
    some r1
  else
    iter (jetsamlaw17_InferParts_L4 y0 y1 y2) (0, [])
def jetsamlaw17_InferTwice_K1 (y0 : List infer_Range) (y1 : Int) (j2 : (List infer_Range)) : Option Bool :=
  (infer_Missing y1 y0).bind fun r3 =>
  (infer_Missing y1 r3).bind fun r4 =>
  (infer_Join j2).bind fun r5 =>
  (jetsamlaw17_Ranges r4 r5).bind fun r6 =>
  if r6 = true then
    (jetsamlaw17_awake).bind fun r7 =>
    some r7
  else
    some false
def jetsamlaw17_InferTwice_L1 (y0 : List infer_Range) (y1 : Int) (a8 : Int × (List infer_Range)) : Option ((Int × (List infer_Range)) ⊕ Bool) :=
  if (decide (a8.1 < (y0.length : Int))) = true then
    (idx y0 a8.1).bind fun p9 =>
    if (decide (p9.From < 0)) = true then
      (jetsamlaw17_awake).bind fun r10 =>
      Option.map .inr <|
      some r10
    else
      (idx y0 a8.1).bind fun p11 =>
      if (decide (p11.From > 1099511627776)) = true then
        (jetsamlaw17_awake).bind fun r12 =>
        Option.map .inr <|
        some r12
      else
        (idx y0 a8.1).bind fun p13 =>
        if (decide (p13.To < 0)) = true then
          (jetsamlaw17_awake).bind fun r14 =>
          Option.map .inr <|
          some r14
        else
          (idx y0 a8.1).bind fun p15 =>
          if (decide (p15.To > 1099511627776)) = true then
            (jetsamlaw17_awake).bind fun r16 =>
            Option.map .inr <|
            some r16
          else
            (idx y0 a8.1).bind fun p17 =>
            (idx y0 a8.1).bind fun p18 =>
            (app 16 a8.2 [(⟨p17.From, (if y1 < p18.To then y1 else p18.To)⟩ : infer_Range)]).bind fun l19 =>
            some (.inl ((W (a8.1 + 1)), l19))
  else
    Option.map .inr <|
    jetsamlaw17_InferTwice_K1 y0 y1 a8.2
def jetsamlaw17_InferTwice (y0 : List infer_Range) (y1 : Int) : Option Bool :=
  if (if (if (decide ((y0.length : Int) > 30)) = true then true else (decide (y1 < 0))) = true then true else (decide (y1 > 1099511627776))) = true then
    (jetsamlaw17_awake).bind fun r1 =>
    some r1
  else
    iter (jetsamlaw17_InferTwice_L1 y0 y1) (0, [])
def jetsamlaw17_few_K1 (y0 : List chain_Cand) (j1 : Unit) : Option Bool :=
  some (decide ((y0.length : Int) ≤ 40))
def jetsamlaw17_few_L1 (y0 : List chain_Cand) (a2 : Int) : Option (Int ⊕ Bool) :=
  if (decide (a2 < (y0.length : Int))) = true then
    (idx y0 a2).bind fun p3 =>
    if (decide (p3.Number < 0)) = true then
      Option.map .inr <|
      some false
    else
      (idx y0 a2).bind fun p4 =>
      if (decide (p4.Number > 1048576)) = true then
        Option.map .inr <|
        some false
      else
        (idx y0 a2).bind fun p5 =>
        if (decide (p5.Block < 0)) = true then
          Option.map .inr <|
          some false
        else
          (idx y0 a2).bind fun p6 =>
          if (decide (p6.Block > 1048576)) = true then
            Option.map .inr <|
            some false
          else
            (idx y0 a2).bind fun p7 =>
            if (decide (p7.Size < 0)) = true then
              Option.map .inr <|
              some false
            else
              (idx y0 a2).bind fun p8 =>
              if (decide (p8.Size > 1048576)) = true then
                Option.map .inr <|
                some false
              else
                some (.inl (W (a2 + 1)))
  else
    Option.map .inr <|
    jetsamlaw17_few_K1 y0 ()
def jetsamlaw17_few (y0 : List chain_Cand) : Option Bool :=
  iter (jetsamlaw17_few_L1 y0) 0
def infer_Where_K1 (y1 : chain_Cand) (j1 : Int) : Option infer_Range :=
  some (⟨j1, (W (j1 + y1.Block))⟩ : infer_Range)
def infer_Where (y0 : chain_Guess) (y1 : chain_Cand) : Option infer_Range :=
  if (!y0.Variable) = true then
    infer_Where_K1 y1 (W (y1.Number * y0.Block))
  else
    infer_Where_K1 y1 y1.Number
def infer_Covered_K1 (j1 : (List infer_Range)) : Option (List infer_Range) :=
  (infer_Join j1).bind fun r2 =>
  some r2
def infer_Covered_L1 (y0 : chain_Guess) (y1 : List chain_Cand) (a3 : Int × (List infer_Range)) : Option ((Int × (List infer_Range)) ⊕ (List infer_Range)) :=
  if (decide (a3.1 < (y1.length : Int))) = true then
    (idx y1 a3.1).bind fun p4 =>
    (infer_Where y0 p4).bind fun r5 =>
    (app 16 a3.2 [r5]).bind fun l6 =>
    some (.inl ((W (a3.1 + 1)), l6))
  else
    Option.map .inr <|
    infer_Covered_K1 a3.2
def infer_Covered (y0 : chain_Guess) (y1 : List chain_Cand) : Option (List infer_Range) :=
  iter (infer_Covered_L1 y0 y1) (0, [])
def jetsamlaw17_InferWhere_K1 (y0 : chain_Guess) (y1 : List chain_Cand) (j3 : (List infer_Range)) : Option Bool :=
  (infer_Covered y0 y1).bind fun r4 =>
  (infer_Join j3).bind fun r5 =>
  (jetsamlaw17_Ranges r4 r5).bind fun r6 =>
  if r6 = true then
    (jetsamlaw17_awake).bind fun r7 =>
    some r7
  else
    some false
def jetsamlaw17_InferWhere_K2 (y1 : List chain_Cand) (a8 : Int × (List infer_Range)) (r10 : infer_Range) (j12 : Int) : Option ((Int × (List infer_Range)) ⊕ Bool) :=
  (idx y1 a8.1).bind fun p13 =>
  if (!((r10.From == j12) && (r10.To == (W (j12 + p13.Block))))) = true then
    Option.map .inr <|
    some false
  else
    (app 16 a8.2 [r10]).bind fun l14 =>
    some (.inl ((W (a8.1 + 1)), l14))
def jetsamlaw17_InferWhere_L1 (y0 : chain_Guess) (y1 : List chain_Cand) (a8 : Int × (List infer_Range)) : Option ((Int × (List infer_Range)) ⊕ Bool) :=
  if (decide (a8.1 < (y1.length : Int))) = true then
    (idx y1 a8.1).bind fun p9 =>
    (infer_Where y0 p9).bind fun r10 =>
    (idx y1 a8.1).bind fun p11 =>
    if (!y0.Variable) = true then
      jetsamlaw17_InferWhere_K2 y1 a8 r10 (W (p11.Number * y0.Block))
    else
      jetsamlaw17_InferWhere_K2 y1 a8 r10 p11.Number
  else
    Option.map .inr <|
    jetsamlaw17_InferWhere_K1 y0 y1 a8.2
def jetsamlaw17_InferWhere (y0 : chain_Guess) (y1 : List chain_Cand) : Option Bool :=
  (jetsamlaw17_few y1).bind fun r1 =>
  if (if (if (!r1) = true then true else (decide (y0.Block < 0))) = true then true else (decide (y0.Block > 1048576))) = true then
    (jetsamlaw17_awake).bind fun r2 =>
    some r2
  else
    iter (jetsamlaw17_InferWhere_L1 y0 y1) (0, [])
def info_within (y0 : Int) (y1 : Int) (y2 : Int) : Option Bool :=
  some (if (decide (y0 ≥ y1)) = true then (decide (y0 ≤ y2)) else false)
def info_Check_K3 (y0 : info_Info) (j1 : Bool) (j2 : Bool) (j3 : Bool) : Option Int :=
  if (if (if (!j1) = true then true else (!j2)) = true then true else (!(if j3 = true then (if (if (y0.MinFrame == 0) = true then true else (y0.MaxFrame == 0)) = true then true else (decide (y0.MinFrame ≤ y0.MaxFrame))) else false))) = true then
    some (10 : Int)
  else
    (info_within y0.Total (0 : Int) (68719476735 : Int)).bind fun r4 =>
    if (!r4) = true then
      some (10 : Int)
    else
      some (0 : Int)
def info_Check_K2 (y0 : info_Info) (j1 : Bool) (j2 : Bool) : Option Int :=
  (info_within y0.MinFrame (0 : Int) (16777215 : Int)).bind fun r5 =>
  if r5 = true then
    (info_within y0.MaxFrame (0 : Int) (16777215 : Int)).bind fun r6 =>
    info_Check_K3 y0 j1 j2 r6
  else
    info_Check_K3 y0 j1 j2 false
def info_Check_K1 (y0 : info_Info) (j1 : Bool) : Option Int :=
  (info_within y0.MinBlock (16 : Int) (65535 : Int)).bind fun r7 =>
  if r7 = true then
    (info_within y0.MaxBlock y0.MinBlock (65535 : Int)).bind fun r8 =>
    info_Check_K2 y0 j1 r8
  else
    info_Check_K2 y0 j1 false
def info_Check (y0 : info_Info) : Option Int :=
  (info_within y0.Params.Rate (1 : Int) (1048575 : Int)).bind fun r9 =>
  if r9 = true then
    (info_within y0.Params.Channels (1 : Int) (8 : Int)).bind fun r10 =>
    if r10 = true then
      (info_within y0.Params.Depth (4 : Int) (32 : Int)).bind fun r11 =>
      info_Check_K1 y0 r11
    else
      info_Check_K1 y0 false
  else
    info_Check_K1 y0 false
def infer_Trust_K1 (j2 : Unit) : Option Int :=
  some (0 : Int)
def infer_Trust_K2 (y0 : info_Info) (y2 : List chain_Cand) (a3 : Int) (p4 : chain_Cand) (j5 : Bool) : Option (Int ⊕ Int) :=
  if (if (if (if (decide (a3 < (W ((y2.length : Int) - 1)))) = true then (decide (p4.Block < y0.MinBlock)) else false) = true then true else (if (decide (y0.MinFrame > 0)) = true then (decide (p4.Size < y0.MinFrame)) else false)) = true then true else j5) = true then
    Option.map .inr <|
    some (22 : Int)
  else
    some (.inl (W (a3 + 1)))
def infer_Trust_L1 (y0 : info_Info) (y1 : chain_Guess) (y2 : List chain_Cand) (a3 : Int) : Option (Int ⊕ Int) :=
  if (decide (a3 < (y2.length : Int))) = true then
    (idx y2 a3).bind fun p4 =>
    if (if (decide (p4.Block > y0.MaxBlock)) = true then true else (if (decide (y0.MaxFrame > 0)) = true then (decide (p4.Size > y0.MaxFrame)) else false)) = true then
      infer_Trust_K2 y0 y2 a3 p4 true
    else
      if (decide (y0.Total > 0)) = true then
        (infer_Where y1 p4).bind fun r6 =>
        infer_Trust_K2 y0 y2 a3 p4 (decide (r6.To > y0.Total))
      else
        infer_Trust_K2 y0 y2 a3 p4 false
  else
    Option.map .inr <|
    infer_Trust_K1 ()
def infer_Trust (y0 : info_Info) (y1 : chain_Guess) (y2 : List chain_Cand) : Option Int :=
  if ((y2.length : Int) == 0) = true then
    some (20 : Int)
  else
    (info_Check y0).bind fun r1 =>
    if (r1 != 0) = true then
      some r1
    else
      if (!((y0.Params.Rate == y1.Params.Rate) && ((y0.Params.Channels == y1.Params.Channels) && (y0.Params.Depth == y1.Params.Depth)))) = true then
        some (22 : Int)
      else
        iter (infer_Trust_L1 y0 y1 y2) 0
def infer_Total_K1 (j2 : Int) : Option Int :=
  some j2
def infer_Total_L1 (y1 : chain_Guess) (y2 : List chain_Cand) (a3 : Int × Int) : Option ((Int × Int) ⊕ Int) :=
  if (decide (a3.2 < (y2.length : Int))) = true then
    (idx y2 a3.2).bind fun p4 =>
    (infer_Where y1 p4).bind fun r5 =>
    some (.inl ((if r5.To > a3.1 then r5.To else a3.1), (W (a3.2 + 1))))
  else
    Option.map .inr <|
    infer_Total_K1 a3.1
def infer_Total (y0 : info_Info) (y1 : chain_Guess) (y2 : List chain_Cand) : Option Int :=
  (infer_Trust y0 y1 y2).bind fun r1 =>
  if (if (r1 == 0) = true then (decide (y0.Total > 0)) else false) = true then
    some y0.Total
  else
    iter (infer_Total_L1 y1 y2) (0, 0)
def jetsamlaw17_InferTrusts_K5 (y0 : info_Info) (y1 : chain_Guess) (y2 : List chain_Cand) (j6 : Int) (j7 : Int) : Option Bool :=
  (infer_Trust y0 y1 y2).bind fun r8 =>
  if (r8 == j6) = true then
    (infer_Total y0 y1 y2).bind fun r9 =>
    if (r9 == j7) = true then
      (jetsamlaw17_awake).bind fun r10 =>
      some r10
    else
      some false
  else
    some false
def jetsamlaw17_InferTrusts_K4 (y0 : info_Info) (y1 : chain_Guess) (y2 : List chain_Cand) (j3 : Int × Int) (j6 : Int) : Option Bool :=
  if (if (j6 == 0) = true then (decide (y0.Total > 0)) else false) = true then
    jetsamlaw17_InferTrusts_K5 y0 y1 y2 j6 y0.Total
  else
    jetsamlaw17_InferTrusts_K5 y0 y1 y2 j6 j3.2
def jetsamlaw17_InferTrusts_K3 (y0 : info_Info) (y1 : chain_Guess) (y2 : List chain_Cand) (j3 : Int × Int) (j5 : Int) : Option Bool :=
  if ((y2.length : Int) == 0) = true then
    jetsamlaw17_InferTrusts_K4 y0 y1 y2 j3 20
  else
    jetsamlaw17_InferTrusts_K4 y0 y1 y2 j3 j5
def jetsamlaw17_InferTrusts_K2 (y0 : info_Info) (y1 : chain_Guess) (y2 : List chain_Cand) (j3 : Int × Int) (j4 : Int) : Option Bool :=
  (info_Check y0).bind fun r11 =>
  if (r11 != 0) = true then
    jetsamlaw17_InferTrusts_K3 y0 y1 y2 j3 10
  else
    jetsamlaw17_InferTrusts_K3 y0 y1 y2 j3 j4
def jetsamlaw17_InferTrusts_K1 (y0 : info_Info) (y1 : chain_Guess) (y2 : List chain_Cand) (j3 : Int × Int) : Option Bool :=
  if (!((y0.Params.Rate == y1.Params.Rate) && ((y0.Params.Channels == y1.Params.Channels) && (y0.Params.Depth == y1.Params.Depth)))) = true then
    jetsamlaw17_InferTrusts_K2 y0 y1 y2 j3 22
  else
    jetsamlaw17_InferTrusts_K2 y0 y1 y2 j3 j3.1
def jetsamlaw17_InferTrusts_K6 (a12 : Int × Int × Int) (j13 : Int × Int) : Option ((Int × Int × Int) ⊕ Bool) :=
  some (.inl (j13.1, j13.2, (W (a12.2.2 + 1))))
def jetsamlaw17_InferTrusts_L1 (y0 : info_Info) (y1 : chain_Guess) (y2 : List chain_Cand) (a12 : Int × Int × Int) : Option ((Int × Int × Int) ⊕ Bool) :=
  if (decide (a12.2.2 < (y2.length : Int))) = true then
    (idx y2 a12.2.2).bind fun p14 =>
    (infer_Where y1 p14).bind fun r15 =>
    if (if (if (if (if (decide (p14.Block > y0.MaxBlock)) = true then true else (if (decide ((W (a12.2.2 + 1)) < (y2.length : Int))) = true then (decide (p14.Block < y0.MinBlock)) else false)) = true then true else (if (y0.MinFrame != 0) = true then (decide (p14.Size < y0.MinFrame)) else false)) = true then true else (if (y0.MaxFrame != 0) = true then (decide (p14.Size > y0.MaxFrame)) else false)) = true then true else (if (y0.Total != 0) = true then (decide (r15.To > y0.Total)) else false)) = true then
      jetsamlaw17_InferTrusts_K6 a12 (22, (if r15.To > a12.2.1 then r15.To else a12.2.1))
    else
      jetsamlaw17_InferTrusts_K6 a12 (a12.1, (if r15.To > a12.2.1 then r15.To else a12.2.1))
  else
    Option.map .inr <|
    jetsamlaw17_InferTrusts_K1 y0 y1 y2 (a12.1, a12.2.1)
def jetsamlaw17_InferTrusts (y0 : info_Info) (y1 : chain_Guess) (y2 : List chain_Cand) : Option Bool :=
  (jetsamlaw17_few y2).bind fun r1 =>
  if (if (if (!r1) = true then true else (decide (y1.Block < 0))) = true then true else (decide (y1.Block > 1048576))) = true then
    (jetsamlaw17_awake).bind fun r2 =>
    some r2
  else
    iter (jetsamlaw17_InferTrusts_L1 y0 y1 y2) (0, 0, 0)
def jetsamlaw17_InferChain_K2 (y0 : Int) (y1 : Int) (j5 : (List chain_Cand) × (List chain_Cand)) (r6 : Int) (j7 : (List infer_Range)) : Option Bool :=
  if (r6 == (W (y1 * y0))) = true then
    (infer_Covered (⟨(⟨(0 : Int), (0 : Int), (0 : Int)⟩ : api_Params), false, y0⟩ : chain_Guess) j5.1).bind fun r8 =>
    (infer_Missing r6 r8).bind fun r9 =>
    if ((r9.length : Int) == 0) = true then
      (infer_Covered (⟨(⟨(0 : Int), (0 : Int), (0 : Int)⟩ : api_Params), false, y0⟩ : chain_Guess) j5.2).bind fun r10 =>
      (infer_Missing r6 r10).bind fun r11 =>
      (jetsamlaw17_Ranges r11 j7).bind fun r12 =>
      if r12 = true then
        (jetsamlaw17_awake).bind fun r13 =>
        some r13
      else
        some false
    else
      some false
  else
    some false
def jetsamlaw17_InferChain_K1 (y0 : Int) (y1 : Int) (y2 : Arr2 Int) (j5 : (List chain_Cand) × (List chain_Cand)) : Option Bool :=
  (infer_Total (⟨(⟨(0 : Int), (0 : Int), (0 : Int)⟩ : api_Params), (0 : Int), (0 : Int), (0 : Int), (0 : Int), (0 : Int), (arrn [(0 : Int), (0 : Int), (0 : Int), (0 : Int), (0 : Int), (0 : Int), (0 : Int), (0 : Int), (0 : Int), (0 : Int), (0 : Int), (0 : Int), (0 : Int), (0 : Int), (0 : Int), (0 : Int)])⟩ : info_Info) (⟨(⟨(0 : Int), (0 : Int), (0 : Int)⟩ : api_Params), false, y0⟩ : chain_Guess) j5.1).bind fun r6 =>
  if (decide (y2.a0 < y2.a1)) = true then
    (app 16 [] [(⟨(W (y0 * y2.a0)), (W (y0 * y2.a1))⟩ : infer_Range)]).bind fun l14 =>
    jetsamlaw17_InferChain_K2 y0 y1 j5 r6 l14
  else
    jetsamlaw17_InferChain_K2 y0 y1 j5 r6 []
def jetsamlaw17_InferChain_K3 (a15 : Int × (List chain_Cand) × (List chain_Cand)) (j16 : (List chain_Cand) × (List chain_Cand)) : Option ((Int × (List chain_Cand) × (List chain_Cand)) ⊕ Bool) :=
  some (.inl ((W (a15.1 + 1)), j16.1, j16.2))
def jetsamlaw17_InferChain_L1 (y0 : Int) (y1 : Int) (y2 : Arr2 Int) (a15 : Int × (List chain_Cand) × (List chain_Cand)) : Option ((Int × (List chain_Cand) × (List chain_Cand)) ⊕ Bool) :=
  if (decide (a15.1 < y1)) = true then
    (app 64 a15.2.1 [(⟨(⟨(0 : Int), (0 : Int), (0 : Int)⟩ : api_Params), (W (10 * a15.1)), (10 : Int), a15.1, y0, false⟩ : chain_Cand)]).bind fun l17 =>
    if (decide (a15.1 < y2.a0)) = true then
      (app 64 a15.2.2 [(⟨(⟨(0 : Int), (0 : Int), (0 : Int)⟩ : api_Params), (W (10 * a15.1)), (10 : Int), a15.1, y0, false⟩ : chain_Cand)]).bind fun l18 =>
      jetsamlaw17_InferChain_K3 a15 (l17, l18)
    else
      if (decide (a15.1 ≥ y2.a1)) = true then
        (app 64 a15.2.2 [(⟨(⟨(0 : Int), (0 : Int), (0 : Int)⟩ : api_Params), (W (10 * a15.1)), (10 : Int), a15.1, y0, false⟩ : chain_Cand)]).bind fun l19 =>
        jetsamlaw17_InferChain_K3 a15 (l17, l19)
      else
        jetsamlaw17_InferChain_K3 a15 (l17, a15.2.2)
  else
    Option.map .inr <|
    jetsamlaw17_InferChain_K1 y0 y1 y2 (a15.2.1, a15.2.2)
def jetsamlaw17_InferChain (y0 : Int) (y1 : Int) (y2 : Arr2 Int) : Option Bool :=
  if (if (if (if (decide (y0 < 16)) = true then true else (decide (y0 > 200))) = true then true else (decide (y1 < 1))) = true then true else (decide (y1 > 20))) = true then
    (jetsamlaw17_awake).bind fun r1 =>
    some r1
  else
    if (decide (y2.a0 < 0)) = true then
      (jetsamlaw17_awake).bind fun r2 =>
      some r2
    else
      if (decide (y2.a1 < y2.a0)) = true then
        (jetsamlaw17_awake).bind fun r3 =>
        some r3
      else
        if (decide (y2.a1 > y1)) = true then
          (jetsamlaw17_awake).bind fun r4 =>
          some r4
        else
          iter (jetsamlaw17_InferChain_L1 y0 y1 y2) (0, [], [])
end Go.Vg
