/- What the functions answer, printed by a program. -/
import Derived.Test.YthnbhhifehkggaaAS
import Derived.Test.YthnbhhifehkggaaA8
set_option maxRecDepth 4000
set_option linter.all false
set_option linter.unusedVariables false
set_option linter.unusedSimpArgs false
namespace Go.Vg
open Go
structure api_Params where
  Rate : Int
  Channels : Int
  Depth : Int
def e_api_Params (p : api_Params) : V := .agg [.int .i64 (.v p.Rate), .int .i64 (.v p.Channels), .int .i64 (.v p.Depth)]
structure chain_Guess where
  Params : api_Params
  Variable : Bool
  Block : Int
def e_chain_Guess (p : chain_Guess) : V := .agg [.int .i64 (.v p.Params.Rate), .int .i64 (.v p.Params.Channels), .int .i64 (.v p.Params.Depth), .bool (.v p.Variable), .int .i64 (.v p.Block)]
structure chain_Cand where
  Params : api_Params
  Offset : Int
  Size : Int
  Number : Int
  Block : Int
  Variable : Bool
def e_chain_Cand (p : chain_Cand) : V := .agg [.int .i64 (.v p.Params.Rate), .int .i64 (.v p.Params.Channels), .int .i64 (.v p.Params.Depth), .int .i64 (.v p.Offset), .int .i64 (.v p.Size), .int .i64 (.v p.Number), .int .i64 (.v p.Block), .bool (.v p.Variable)]
structure chain_step where
  m_weight : Int
  m_next : Int
def e_chain_step (p : chain_step) : V := .agg [.int .i64 (.v p.m_weight), .int .i64 (.v p.m_next)]
def slices_Clone_schain_Cand_chain_Cand (y0 : List chain_Cand) : Option (List chain_Cand) :=
  (app 64 ([] : List chain_Cand) y0).bind fun l1 =>
  some l1
def chain_may_c1 (y0 : Int) (y1 : Int) : Option Bool :=
  some (if (decide (y0 ≥ y1)) = true then (decide (y0 ≤ 1099511627776)) else false)
def chain_may (y0 : chain_Cand) : Option Bool :=
  (chain_may_c1 y0.Offset (0 : Int)).bind fun r1 =>
  if r1 = true then
    (chain_may_c1 y0.Size (1 : Int)).bind fun r2 =>
    if r2 = true then
      (chain_may_c1 y0.Number (0 : Int)).bind fun r3 =>
      if r3 = true then
        (chain_may_c1 y0.Block (0 : Int)).bind fun r4 =>
        some r4
      else
        some false
    else
      some false
  else
    some false
def chain_sorted_c1 (y0 : chain_Cand) : Option Bool :=
  (chain_may y0).bind fun r1 =>
  some (!r1)
def slices_IndexFunc_schain_Cand_chain_Cand_K1 (j1 : Unit) : Option Int :=
  some (-1)
def slices_IndexFunc_schain_Cand_chain_Cand_L1 (y0 : List chain_Cand) (a2 : Int) : Option (Int ⊕ Int) :=
  if (decide (a2 < (y0.length : Int))) = true then
    (idx y0 a2).bind fun p3 =>
    (chain_sorted_c1 p3).bind fun r4 =>
    if r4 = true then
      Option.map .inr <|
      some a2
    else
      some (.inl (W (a2 + 1)))
  else
    Option.map .inr <|
    slices_IndexFunc_schain_Cand_chain_Cand_K1 ()
def slices_IndexFunc_schain_Cand_chain_Cand (y0 : List chain_Cand) : Option Int :=
  iter (slices_IndexFunc_schain_Cand_chain_Cand_L1 y0) 0
def slices_DeleteFunc_schain_Cand_chain_Cand_K1 (j2 : Int × (List chain_Cand)) : Option (List chain_Cand) :=
  (sub j2.2 j2.1 (j2.2.length : Int)).bind fun l3 =>
  if decide (0 < ((j2.2.length : Int) - j2.1)) = true then
    (clr j2.2 j2.1 ((j2.2.length : Int) - j2.1) (⟨(⟨(0 : Int), (0 : Int), (0 : Int)⟩ : api_Params), (0 : Int), (0 : Int), (0 : Int), (0 : Int), false⟩ : chain_Cand)).bind fun l4 =>
    (sub l4 0 j2.1).bind fun l6 =>
    some l6
  else
    (sub j2.2 0 j2.1).bind fun l5 =>
    some l5
def slices_DeleteFunc_schain_Cand_chain_Cand_K2 (a7 : Int × Int × (List chain_Cand)) (j8 : Int × (List chain_Cand)) : Option ((Int × Int × (List chain_Cand)) ⊕ (List chain_Cand)) :=
  some (.inl (j8.1, (W (a7.2.1 + 1)), j8.2))
def slices_DeleteFunc_schain_Cand_chain_Cand_L1 (a7 : Int × Int × (List chain_Cand)) : Option ((Int × Int × (List chain_Cand)) ⊕ (List chain_Cand)) :=
  if (decide (a7.2.1 < (a7.2.2.length : Int))) = true then
    need (decide (a7.2.1 ≥ 0)) <|
    need (decide (a7.2.1 < (a7.2.2.length : Int))) <|
    (idx a7.2.2 a7.2.1).bind fun p9 =>
    (chain_sorted_c1 p9).bind fun r10 =>
    if (!r10) = true then
      need (decide (a7.1 ≥ 0)) <|
      need (decide (a7.1 < (a7.2.2.length : Int))) <|
      (upd a7.2.2 a7.1 p9).bind fun l11 =>
      slices_DeleteFunc_schain_Cand_chain_Cand_K2 a7 ((W (a7.1 + 1)), l11)
    else
      slices_DeleteFunc_schain_Cand_chain_Cand_K2 a7 (a7.1, a7.2.2)
  else
    Option.map .inr <|
    slices_DeleteFunc_schain_Cand_chain_Cand_K1 (a7.1, a7.2.2)
def slices_DeleteFunc_schain_Cand_chain_Cand (y0 : List chain_Cand) : Option (List chain_Cand) :=
  (slices_IndexFunc_schain_Cand_chain_Cand y0).bind fun r1 =>
  if (r1 == (-1)) = true then
    some y0
  else
    iter slices_DeleteFunc_schain_Cand_chain_Cand_L1 (r1, (W (r1 + 1)), y0)
def cmp_isNaN_int (y0 : Int) : Option Bool :=
  some (y0 != y0)
def cmp_Compare_int (y0 : Int) (y1 : Int) : Option Int :=
  (cmp_isNaN_int y0).bind fun r1 =>
  (cmp_isNaN_int y1).bind fun r2 =>
  if r1 = true then
    if r2 = true then
      some (0 : Int)
    else
      some ((-1) : Int)
  else
    if r2 = true then
      some (1 : Int)
    else
      if (decide (y0 < y1)) = true then
        some ((-1) : Int)
      else
        if (decide (y0 > y1)) = true then
          some (1 : Int)
        else
          some (0 : Int)
def chain_flag (y0 : Bool) : Option Int :=
  if y0 = true then
    some (1 : Int)
  else
    some (0 : Int)
def cmp_Or_int_K1 (j1 : Unit) : Option Int :=
  some (0 : Int)
def cmp_Or_int_L1 (y0 : List Int) (a2 : Int) : Option (Int ⊕ Int) :=
  if (decide (a2 < (y0.length : Int))) = true then
    (idx y0 a2).bind fun p3 =>
    if (p3 != 0) = true then
      Option.map .inr <|
      some p3
    else
      some (.inl (W (a2 + 1)))
  else
    Option.map .inr <|
    cmp_Or_int_K1 ()
def cmp_Or_int (y0 : List Int) : Option Int :=
  iter (cmp_Or_int_L1 y0) 0
def chain_params (y0 : api_Params) (y1 : api_Params) : Option Int :=
  (cmp_Compare_int y0.Rate y1.Rate).bind fun r1 =>
  (cmp_Compare_int y0.Channels y1.Channels).bind fun r2 =>
  (cmp_Compare_int y0.Depth y1.Depth).bind fun r3 =>
  (cmp_Or_int [r1, r2, r3]).bind fun r4 =>
  some r4
def chain_Compare (y0 : chain_Cand) (y1 : chain_Cand) : Option Int :=
  (cmp_Compare_int y0.Offset y1.Offset).bind fun r1 =>
  (cmp_Compare_int y0.Size y1.Size).bind fun r2 =>
  (cmp_Compare_int y0.Number y1.Number).bind fun r3 =>
  (cmp_Compare_int y0.Block y1.Block).bind fun r4 =>
  (chain_flag y0.Variable).bind fun r5 =>
  (chain_flag y1.Variable).bind fun r6 =>
  (cmp_Compare_int r5 r6).bind fun r7 =>
  (chain_params y0.Params y1.Params).bind fun r8 =>
  (cmp_Or_int [r1, r2, r3, r4, r7, r8]).bind fun r9 =>
  some r9
def slices_Compact_schain_Cand_chain_Cand_K1 (y0 : List chain_Cand) (j1 : Unit) : Option (List chain_Cand) :=
  some y0
def slices_Compact_schain_Cand_chain_Cand_K2 (a2 : Int) (j3 : Unit) : Option (Int ⊕ (List chain_Cand)) :=
  some (.inl (W (a2 + 1)))
def slices_Compact_schain_Cand_chain_Cand_K3 (j8 : Int × (List chain_Cand)) : Option (Int ⊕ (List chain_Cand)) :=
  (sub j8.2 j8.1 (j8.2.length : Int)).bind fun l9 =>
  if decide (0 < ((j8.2.length : Int) - j8.1)) = true then
    (clr j8.2 j8.1 ((j8.2.length : Int) - j8.1) (⟨(⟨(0 : Int), (0 : Int), (0 : Int)⟩ : api_Params), (0 : Int), (0 : Int), (0 : Int), (0 : Int), false⟩ : chain_Cand)).bind fun l10 =>
    (sub l10 0 j8.1).bind fun l12 =>
    Option.map .inr <|
    some l12
  else
    (sub j8.2 0 j8.1).bind fun l11 =>
    Option.map .inr <|
    some l11
def slices_Compact_schain_Cand_chain_Cand_K4 (a13 : Int × Int × (List chain_Cand)) (j14 : Int × (List chain_Cand)) : Option ((Int × Int × (List chain_Cand)) ⊕ (Int ⊕ (List chain_Cand))) :=
  some (.inl (j14.1, (W (a13.2.1 + 1)), j14.2))
def slices_Compact_schain_Cand_chain_Cand_L2 (v7 : (List chain_Cand) × Int × Int) (a13 : Int × Int × (List chain_Cand)) : Option ((Int × Int × (List chain_Cand)) ⊕ (Int ⊕ (List chain_Cand))) :=
  if (decide (a13.2.1 < v7.2.2)) = true then
    need (decide (a13.2.1 ≥ 0)) <|
    need (decide (a13.2.1 < v7.2.2)) <|
    (idx a13.2.2 (W (v7.2.1 + a13.2.1))).bind fun p15 =>
    need (decide ((W (a13.2.1 - 1)) ≥ 0)) <|
    need (decide ((W (a13.2.1 - 1)) < v7.2.2)) <|
    (idx a13.2.2 (W (v7.2.1 + (W (a13.2.1 - 1))))).bind fun p16 =>
    if (!((p15.Params.Rate == p16.Params.Rate) && ((p15.Params.Channels == p16.Params.Channels) && ((p15.Params.Depth == p16.Params.Depth) && ((p15.Offset == p16.Offset) && ((p15.Size == p16.Size) && ((p15.Number == p16.Number) && ((p15.Block == p16.Block) && (p15.Variable == p16.Variable))))))))) = true then
      need (decide (a13.2.1 ≥ 0)) <|
      need (decide (a13.2.1 < v7.2.2)) <|
      (idx a13.2.2 (W (v7.2.1 + a13.2.1))).bind fun p17 =>
      need (decide (a13.1 ≥ 0)) <|
      need (decide (a13.1 < (a13.2.2.length : Int))) <|
      (upd a13.2.2 a13.1 p17).bind fun l18 =>
      slices_Compact_schain_Cand_chain_Cand_K4 a13 ((W (a13.1 + 1)), l18)
    else
      slices_Compact_schain_Cand_chain_Cand_K4 a13 (a13.1, a13.2.2)
  else
    Option.map .inr <|
    slices_Compact_schain_Cand_chain_Cand_K3 (a13.1, a13.2.2)
def slices_Compact_schain_Cand_chain_Cand_L1 (y0 : List chain_Cand) (a2 : Int) : Option (Int ⊕ (List chain_Cand)) :=
  if (decide (a2 < (y0.length : Int))) = true then
    need (decide (a2 ≥ 0)) <|
    need (decide (a2 < (y0.length : Int))) <|
    (idx y0 a2).bind fun p4 =>
    need (decide ((W (a2 - 1)) ≥ 0)) <|
    need (decide ((W (a2 - 1)) < (y0.length : Int))) <|
    (idx y0 (W (a2 - 1))).bind fun p5 =>
    if ((p4.Params.Rate == p5.Params.Rate) && ((p4.Params.Channels == p5.Params.Channels) && ((p4.Params.Depth == p5.Params.Depth) && ((p4.Offset == p5.Offset) && ((p4.Size == p5.Size) && ((p4.Number == p5.Number) && ((p4.Block == p5.Block) && (p4.Variable == p5.Variable)))))))) = true then
      (subv y0 a2 (y0.length : Int)).bind fun v7 =>
      iter (slices_Compact_schain_Cand_chain_Cand_L2 v7) (a2, 1, y0)
    else
      slices_Compact_schain_Cand_chain_Cand_K2 a2 ()
  else
    Option.map .inr <|
    slices_Compact_schain_Cand_chain_Cand_K1 y0 ()
def slices_Compact_schain_Cand_chain_Cand (y0 : List chain_Cand) : Option (List chain_Cand) :=
  if (decide ((y0.length : Int) < 2)) = true then
    some y0
  else
    iter (slices_Compact_schain_Cand_chain_Cand_L1 y0) 1
def chain_sorted (y0 : List chain_Cand) : Option (List chain_Cand) :=
  (slices_Clone_schain_Cand_chain_Cand y0).bind fun r1 =>
  (slices_DeleteFunc_schain_Cand_chain_Cand r1).bind fun r2 =>
  (sortG r2 chain_Compare).bind fun r3 =>
  (slices_Compact_schain_Cand_chain_Cand r3).bind fun r4 =>
  some r4
def chain_guess_K1 (y0 : chain_Cand) (j1 : Int) : Option chain_Guess :=
  some (⟨y0.Params, y0.Variable, j1⟩ : chain_Guess)
def chain_guess (y0 : chain_Cand) : Option chain_Guess :=
  if y0.Variable = true then
    chain_guess_K1 y0 0
  else
    chain_guess_K1 y0 y0.Block
def chain_compare (y0 : chain_Guess) (y1 : chain_Guess) : Option Int :=
  (chain_flag y0.Variable).bind fun r1 =>
  (chain_flag y1.Variable).bind fun r2 =>
  (cmp_Compare_int r1 r2).bind fun r3 =>
  (chain_params y0.Params y1.Params).bind fun r4 =>
  (cmp_Compare_int y0.Block y1.Block).bind fun r5 =>
  (cmp_Or_int [r3, r4, r5]).bind fun r6 =>
  some r6
def slices_Compact_schain_Guess_chain_Guess_K1 (y0 : List chain_Guess) (j1 : Unit) : Option (List chain_Guess) :=
  some y0
def slices_Compact_schain_Guess_chain_Guess_K2 (a2 : Int) (j3 : Unit) : Option (Int ⊕ (List chain_Guess)) :=
  some (.inl (W (a2 + 1)))
def slices_Compact_schain_Guess_chain_Guess_K3 (j8 : Int × (List chain_Guess)) : Option (Int ⊕ (List chain_Guess)) :=
  (sub j8.2 j8.1 (j8.2.length : Int)).bind fun l9 =>
  if decide (0 < ((j8.2.length : Int) - j8.1)) = true then
    (clr j8.2 j8.1 ((j8.2.length : Int) - j8.1) (⟨(⟨(0 : Int), (0 : Int), (0 : Int)⟩ : api_Params), false, (0 : Int)⟩ : chain_Guess)).bind fun l10 =>
    (sub l10 0 j8.1).bind fun l12 =>
    Option.map .inr <|
    some l12
  else
    (sub j8.2 0 j8.1).bind fun l11 =>
    Option.map .inr <|
    some l11
def slices_Compact_schain_Guess_chain_Guess_K4 (a13 : Int × Int × (List chain_Guess)) (j14 : Int × (List chain_Guess)) : Option ((Int × Int × (List chain_Guess)) ⊕ (Int ⊕ (List chain_Guess))) :=
  some (.inl (j14.1, (W (a13.2.1 + 1)), j14.2))
def slices_Compact_schain_Guess_chain_Guess_L2 (v7 : (List chain_Guess) × Int × Int) (a13 : Int × Int × (List chain_Guess)) : Option ((Int × Int × (List chain_Guess)) ⊕ (Int ⊕ (List chain_Guess))) :=
  if (decide (a13.2.1 < v7.2.2)) = true then
    need (decide (a13.2.1 ≥ 0)) <|
    need (decide (a13.2.1 < v7.2.2)) <|
    (idx a13.2.2 (W (v7.2.1 + a13.2.1))).bind fun p15 =>
    need (decide ((W (a13.2.1 - 1)) ≥ 0)) <|
    need (decide ((W (a13.2.1 - 1)) < v7.2.2)) <|
    (idx a13.2.2 (W (v7.2.1 + (W (a13.2.1 - 1))))).bind fun p16 =>
    if (!((p15.Params.Rate == p16.Params.Rate) && ((p15.Params.Channels == p16.Params.Channels) && ((p15.Params.Depth == p16.Params.Depth) && ((p15.Variable == p16.Variable) && (p15.Block == p16.Block)))))) = true then
      need (decide (a13.2.1 ≥ 0)) <|
      need (decide (a13.2.1 < v7.2.2)) <|
      (idx a13.2.2 (W (v7.2.1 + a13.2.1))).bind fun p17 =>
      need (decide (a13.1 ≥ 0)) <|
      need (decide (a13.1 < (a13.2.2.length : Int))) <|
      (upd a13.2.2 a13.1 p17).bind fun l18 =>
      slices_Compact_schain_Guess_chain_Guess_K4 a13 ((W (a13.1 + 1)), l18)
    else
      slices_Compact_schain_Guess_chain_Guess_K4 a13 (a13.1, a13.2.2)
  else
    Option.map .inr <|
    slices_Compact_schain_Guess_chain_Guess_K3 (a13.1, a13.2.2)
def slices_Compact_schain_Guess_chain_Guess_L1 (y0 : List chain_Guess) (a2 : Int) : Option (Int ⊕ (List chain_Guess)) :=
  if (decide (a2 < (y0.length : Int))) = true then
    need (decide (a2 ≥ 0)) <|
    need (decide (a2 < (y0.length : Int))) <|
    (idx y0 a2).bind fun p4 =>
    need (decide ((W (a2 - 1)) ≥ 0)) <|
    need (decide ((W (a2 - 1)) < (y0.length : Int))) <|
    (idx y0 (W (a2 - 1))).bind fun p5 =>
    if ((p4.Params.Rate == p5.Params.Rate) && ((p4.Params.Channels == p5.Params.Channels) && ((p4.Params.Depth == p5.Params.Depth) && ((p4.Variable == p5.Variable) && (p4.Block == p5.Block))))) = true then
      (subv y0 a2 (y0.length : Int)).bind fun v7 =>
      iter (slices_Compact_schain_Guess_chain_Guess_L2 v7) (a2, 1, y0)
    else
      slices_Compact_schain_Guess_chain_Guess_K2 a2 ()
  else
    Option.map .inr <|
    slices_Compact_schain_Guess_chain_Guess_K1 y0 ()
def slices_Compact_schain_Guess_chain_Guess (y0 : List chain_Guess) : Option (List chain_Guess) :=
  if (decide ((y0.length : Int) < 2)) = true then
    some y0
  else
    iter (slices_Compact_schain_Guess_chain_Guess_L1 y0) 1
def chain_Guesses_K1 (j1 : (List chain_Guess)) : Option (List chain_Guess) :=
  (sortG j1 chain_compare).bind fun r2 =>
  (slices_Compact_schain_Guess_chain_Guess r2).bind fun r3 =>
  some r3
def chain_Guesses_L1 (r4 : List chain_Cand) (a5 : Int × (List chain_Guess)) : Option ((Int × (List chain_Guess)) ⊕ (List chain_Guess)) :=
  if (decide (a5.1 < (r4.length : Int))) = true then
    (idx r4 a5.1).bind fun p6 =>
    (chain_guess p6).bind fun r7 =>
    (app 40 a5.2 [r7]).bind fun l8 =>
    some (.inl ((W (a5.1 + 1)), l8))
  else
    Option.map .inr <|
    chain_Guesses_K1 a5.2
def chain_Guesses (y0 : List chain_Cand) : Option (List chain_Guess) :=
  (chain_sorted y0).bind fun r4 =>
  iter (chain_Guesses_L1 r4) (0, [])
def chain_sorted_x2 (y0 : List chain_Cand) : Option (List chain_Cand) :=
  (slices_Clone_schain_Cand_chain_Cand y0).bind fun r1 =>
  (slices_DeleteFunc_schain_Cand_chain_Cand r1).bind fun r2 =>
  (sortG r2 chain_Compare).bind fun r3 =>
  (slices_Compact_schain_Cand_chain_Cand r3).bind fun r4 =>
  some r4
def chain_Guess_Fits (y0 : chain_Guess) (y1 : chain_Cand) (y2 : Bool) : Option Bool :=
  if (if (!((y1.Params.Rate == y0.Params.Rate) && ((y1.Params.Channels == y0.Params.Channels) && (y1.Params.Depth == y0.Params.Depth)))) = true then true else (!(y1.Variable == y0.Variable))) = true then
    some false
  else
    if (if y0.Variable = true then true else (y1.Block == y0.Block)) = true then
      some true
    else
      some (if y2 = true then (decide (y1.Block < y0.Block)) else false)
def chain_Heaviest_c1 (y0 : chain_Cand) (y1 : Int) (y2 : Int) (y3 : Int) (y4 : Bool) (y5 : Int) : Option Bool :=
  (chain_Guess_Fits (⟨(⟨y1, y2, y3⟩ : api_Params), y4, y5⟩ : chain_Guess) y0 true).bind fun r1 =>
  some (!r1)
def slices_IndexFunc_schain_Cand_chain_Cand_x2_K1 (j1 : Unit) : Option Int :=
  some (-1)
def slices_IndexFunc_schain_Cand_chain_Cand_x2_L1 (y0 : List chain_Cand) (y1 : Int) (y2 : Int) (y3 : Int) (y4 : Bool) (y5 : Int) (a2 : Int) : Option (Int ⊕ Int) :=
  if (decide (a2 < (y0.length : Int))) = true then
    (idx y0 a2).bind fun p3 =>
    (chain_Heaviest_c1 p3 y1 y2 y3 y4 y5).bind fun r4 =>
    if r4 = true then
      Option.map .inr <|
      some a2
    else
      some (.inl (W (a2 + 1)))
  else
    Option.map .inr <|
    slices_IndexFunc_schain_Cand_chain_Cand_x2_K1 ()
def slices_IndexFunc_schain_Cand_chain_Cand_x2 (y0 : List chain_Cand) (y1 : Int) (y2 : Int) (y3 : Int) (y4 : Bool) (y5 : Int) : Option Int :=
  iter (slices_IndexFunc_schain_Cand_chain_Cand_x2_L1 y0 y1 y2 y3 y4 y5) 0
def slices_DeleteFunc_schain_Cand_chain_Cand_x2_K1 (j2 : Int × (List chain_Cand)) : Option (List chain_Cand) :=
  (sub j2.2 j2.1 (j2.2.length : Int)).bind fun l3 =>
  if decide (0 < ((j2.2.length : Int) - j2.1)) = true then
    (clr j2.2 j2.1 ((j2.2.length : Int) - j2.1) (⟨(⟨(0 : Int), (0 : Int), (0 : Int)⟩ : api_Params), (0 : Int), (0 : Int), (0 : Int), (0 : Int), false⟩ : chain_Cand)).bind fun l4 =>
    (sub l4 0 j2.1).bind fun l6 =>
    some l6
  else
    (sub j2.2 0 j2.1).bind fun l5 =>
    some l5
def slices_DeleteFunc_schain_Cand_chain_Cand_x2_K2 (a7 : Int × Int × (List chain_Cand)) (j8 : Int × (List chain_Cand)) : Option ((Int × Int × (List chain_Cand)) ⊕ (List chain_Cand)) :=
  some (.inl (j8.1, (W (a7.2.1 + 1)), j8.2))
def slices_DeleteFunc_schain_Cand_chain_Cand_x2_L1 (y0 : Int) (y1 : Int) (y2 : Int) (y3 : Bool) (y4 : Int) (a7 : Int × Int × (List chain_Cand)) : Option ((Int × Int × (List chain_Cand)) ⊕ (List chain_Cand)) :=
  if (decide (a7.2.1 < (a7.2.2.length : Int))) = true then
    need (decide (a7.2.1 ≥ 0)) <|
    need (decide (a7.2.1 < (a7.2.2.length : Int))) <|
    (idx a7.2.2 a7.2.1).bind fun p9 =>
    (chain_Heaviest_c1 p9 y0 y1 y2 y3 y4).bind fun r10 =>
    if (!r10) = true then
      need (decide (a7.1 ≥ 0)) <|
      need (decide (a7.1 < (a7.2.2.length : Int))) <|
      (upd a7.2.2 a7.1 p9).bind fun l11 =>
      slices_DeleteFunc_schain_Cand_chain_Cand_x2_K2 a7 ((W (a7.1 + 1)), l11)
    else
      slices_DeleteFunc_schain_Cand_chain_Cand_x2_K2 a7 (a7.1, a7.2.2)
  else
    Option.map .inr <|
    slices_DeleteFunc_schain_Cand_chain_Cand_x2_K1 (a7.1, a7.2.2)
def slices_DeleteFunc_schain_Cand_chain_Cand_x2 (y0 : Int) (y1 : Int) (y2 : Int) (y3 : Bool) (y4 : Int) (y5 : List chain_Cand) : Option (List chain_Cand) :=
  (slices_IndexFunc_schain_Cand_chain_Cand_x2 y5 y0 y1 y2 y3 y4).bind fun r1 =>
  if (r1 == (-1)) = true then
    some y5
  else
    iter (slices_DeleteFunc_schain_Cand_chain_Cand_x2_L1 y0 y1 y2 y3 y4) (r1, (W (r1 + 1)), y5)
def chain_Heaviest_c2 (y0 : Int) (y1 : chain_step) (y2 : List (Int × chain_step)) (y3 : List chain_Cand) : Option Unit :=
  some ()
def chain_Follows_K1 (y0 : chain_Cand) (y1 : chain_Cand) (j1 : Int) : Option Bool :=
  some (if (decide (y1.Offset ≥ (W (y0.Offset + y0.Size)))) = true then (decide (y1.Number ≥ j1)) else false)
def chain_Follows (y0 : chain_Cand) (y1 : chain_Cand) : Option Bool :=
  if y1.Variable = true then
    chain_Follows_K1 y0 y1 (W (y0.Number + y0.Block))
  else
    chain_Follows_K1 y0 y1 (W (y0.Number + 1))
def chain_Heaviest_c2_c1_K1 (j1 : Int × Int) : Option (Int × Int × Int × Int) :=
  some (j1.1, j1.2, j1.1, j1.2)
def chain_Heaviest_c2_c1_K2 (y0 : Int) (y1 : Int) (y2 : chain_step) (y4 : List chain_Cand) (p2 : chain_step) (j3 : Bool) : Option (Int × Int × Int × Int) :=
  if j3 = true then
    need (decide (y1 ≥ 0)) <|
    need (decide (y1 < (y4.length : Int))) <|
    (idx y4 y1).bind fun p4 =>
    chain_Heaviest_c2_c1_K1 ((W (p4.Size + p2.m_weight)), y0)
  else
    chain_Heaviest_c2_c1_K1 (y2.m_weight, y2.m_next)
def chain_Heaviest_c2_c1 (y0 : Int) (y1 : Int) (y2 : chain_step) (y3 : List (Int × chain_step)) (y4 : List chain_Cand) : Option (Int × Int × Int × Int) :=
  (look1 y3 y0 (⟨(0 : Int), (0 : Int)⟩ : chain_step)).bind fun p2 =>
  need (decide (y1 ≥ 0)) <|
  need (decide (y1 < (y4.length : Int))) <|
  (idx y4 y1).bind fun p5 =>
  need (decide (y0 ≥ 0)) <|
  need (decide (y0 < (y4.length : Int))) <|
  (idx y4 y0).bind fun p6 =>
  (chain_Follows p5 p6).bind fun r7 =>
  if r7 = true then
    need (decide (y1 ≥ 0)) <|
    need (decide (y1 < (y4.length : Int))) <|
    (idx y4 y1).bind fun p8 =>
    chain_Heaviest_c2_c1_K2 y0 y1 y2 y4 p2 (decide ((W (p8.Size + p2.m_weight)) > y2.m_weight))
  else
    chain_Heaviest_c2_c1_K2 y0 y1 y2 y4 p2 false
def chain_Heaviest_K2 (j3 : Int × Int × (List (Int × chain_step))) (j4 : (List chain_Cand)) : Option ((List chain_Cand) × Int) :=
  some (j4, j3.1)
def chain_Heaviest_L1 (r2 : (List chain_Cand)) (j3 : Int × Int × (List (Int × chain_step))) (a5 : Int × (List chain_Cand)) : Option ((Int × (List chain_Cand)) ⊕ ((List chain_Cand) × Int)) :=
  if (decide (a5.1 ≥ 0)) = true then
    need (decide (a5.1 ≥ 0)) <|
    need (decide (a5.1 < (r2.length : Int))) <|
    (idx r2 a5.1).bind fun p6 =>
    (app 64 a5.2 [p6]).bind fun l7 =>
    (look1 j3.2.2 a5.1 (⟨(0 : Int), (0 : Int)⟩ : chain_step)).bind fun p8 =>
    some (.inl (p8.m_next, l7))
  else
    Option.map .inr <|
    chain_Heaviest_K2 j3 a5.2
def chain_Heaviest_K1 (r2 : (List chain_Cand)) (j3 : Int × Int × (List (Int × chain_step))) : Option ((List chain_Cand) × Int) :=
  iter (chain_Heaviest_L1 r2 j3) (j3.2.1, [])
def chain_Heaviest_K3 (a9 : Int × Int × Int × (List (Int × chain_step))) (j10 : Int × Int × (List (Int × chain_step))) : Option ((Int × Int × Int × (List (Int × chain_step))) ⊕ ((List chain_Cand) × Int)) :=
  some (.inl ((W (a9.1 - 1)), j10.1, j10.2.1, j10.2.2))
def chain_Heaviest_K4 (a9 : Int × Int × Int × (List (Int × chain_step))) (j12 : Int × Int) : Option ((Int × Int × Int × (List (Int × chain_step))) ⊕ ((List chain_Cand) × Int)) :=
  (mputq a9.2.2.2 a9.1 (⟨j12.1, j12.2⟩ : chain_step)).bind fun l13 =>
  if (decide (j12.1 ≥ a9.2.1)) = true then
    chain_Heaviest_K3 a9 (j12.1, a9.1, l13)
  else
    chain_Heaviest_K3 a9 (a9.2.1, a9.2.2.1, l13)
def chain_Heaviest_L3 (r2 : (List chain_Cand)) (a9 : Int × Int × Int × (List (Int × chain_step))) (a17 : Int × Int × Int × Int × Int) : Option ((Int × Int × Int × Int × Int) ⊕ ((Int × Int × Int × (List (Int × chain_step))) ⊕ ((List chain_Cand) × Int))) :=
  if (decide (a17.1 < (r2.length : Int))) = true then
    (chain_Heaviest_c2_c1 a17.1 a9.1 (⟨a17.2.2.2.1, a17.2.2.2.2⟩ : chain_step) a9.2.2.2 r2).bind fun r18 =>
    some (.inl ((W (a17.1 + 1)), r18.1, r18.2.1, r18.2.2.1, r18.2.2.2))
  else
    Option.map .inr <|
    chain_Heaviest_K4 a9 (a17.2.1, a17.2.2.1)
def chain_Heaviest_L2 (y0 : chain_Guess) (r2 : (List chain_Cand)) (a9 : Int × Int × Int × (List (Int × chain_step))) : Option ((Int × Int × Int × (List (Int × chain_step))) ⊕ ((List chain_Cand) × Int)) :=
  if (decide (a9.1 ≥ 0)) = true then
    need (decide (a9.1 ≥ 0)) <|
    need (decide (a9.1 < (r2.length : Int))) <|
    (idx r2 a9.1).bind fun p11 =>
    need (decide (a9.1 ≥ 0)) <|
    need (decide (a9.1 < (r2.length : Int))) <|
    (idx r2 a9.1).bind fun p14 =>
    (chain_Guess_Fits y0 p14 false).bind fun r15 =>
    if r15 = true then
      (chain_Heaviest_c2 a9.1 (⟨p11.Size, ((-1) : Int)⟩ : chain_step) a9.2.2.2 r2).bind fun r16 =>
      iter (chain_Heaviest_L3 r2 a9) ((W (a9.1 + 1)), p11.Size, (-1), p11.Size, ((-1) : Int))
    else
      chain_Heaviest_K4 a9 (p11.Size, (-1))
  else
    Option.map .inr <|
    chain_Heaviest_K1 r2 (a9.2.1, a9.2.2.1, a9.2.2.2)
def chain_Heaviest (y0 : chain_Guess) (y1 : List chain_Cand) : Option ((List chain_Cand) × Int) :=
  (chain_sorted_x2 y1).bind fun r1 =>
  (slices_DeleteFunc_schain_Cand_chain_Cand_x2 y0.Params.Rate y0.Params.Channels y0.Params.Depth y0.Variable y0.Block r1).bind fun r2 =>
  iter (chain_Heaviest_L2 y0 r2) ((W ((r2.length : Int) - 1)), 0, (-1), ([] : List (Int × chain_step)))
def chain_Best_K1 (j1 : (List chain_Cand) × Int × Int × Int × Int × Bool × Int) : Option (chain_Guess × (List chain_Cand) × Int) :=
  some ((⟨(⟨j1.2.2.1, j1.2.2.2.1, j1.2.2.2.2.1⟩ : api_Params), j1.2.2.2.2.2.1, j1.2.2.2.2.2.2⟩ : chain_Guess), j1.1, j1.2.1)
def chain_Best_K2 (a3 : (List chain_Cand) × Int × Int × Int × Int × Int × Bool × Int) (j4 : (List chain_Cand) × Int × Int × Int × Int × Bool × Int) : Option (((List chain_Cand) × Int × Int × Int × Int × Int × Bool × Int) ⊕ (chain_Guess × (List chain_Cand) × Int)) :=
  some (.inl (j4.1, j4.2.1, (W (a3.2.2.1 + 1)), j4.2.2.1, j4.2.2.2.1, j4.2.2.2.2.1, j4.2.2.2.2.2.1, j4.2.2.2.2.2.2))
def chain_Best_L1 (y0 : List chain_Cand) (r2 : List chain_Guess) (a3 : (List chain_Cand) × Int × Int × Int × Int × Int × Bool × Int) : Option (((List chain_Cand) × Int × Int × Int × Int × Int × Bool × Int) ⊕ (chain_Guess × (List chain_Cand) × Int)) :=
  if (decide (a3.2.2.1 < (r2.length : Int))) = true then
    (idx r2 a3.2.2.1).bind fun p5 =>
    (chain_Heaviest p5 y0).bind fun r6 =>
    if (decide (r6.2 > a3.2.1)) = true then
      chain_Best_K2 a3 (r6.1, r6.2, p5.Params.Rate, p5.Params.Channels, p5.Params.Depth, p5.Variable, p5.Block)
    else
      chain_Best_K2 a3 (a3.1, a3.2.1, a3.2.2.2.1, a3.2.2.2.2.1, a3.2.2.2.2.2.1, a3.2.2.2.2.2.2.1, a3.2.2.2.2.2.2.2)
  else
    Option.map .inr <|
    chain_Best_K1 (a3.1, a3.2.1, a3.2.2.2.1, a3.2.2.2.2.1, a3.2.2.2.2.2.1, a3.2.2.2.2.2.2.1, a3.2.2.2.2.2.2.2)
def chain_Best (y0 : List chain_Cand) : Option (chain_Guess × (List chain_Cand) × Int) :=
  (chain_Guesses y0).bind fun r2 =>
  iter (chain_Best_L1 y0 r2) ([], 0, 0, 0, 0, 0, false, 0)
def jetsamlaw15_same_K1 (j1 : Unit) : Option Bool :=
  some true
def jetsamlaw15_same_L1 (y0 : List chain_Cand) (y1 : List chain_Cand) (a2 : Int) : Option (Int ⊕ Bool) :=
  if (decide (a2 < (y0.length : Int))) = true then
    (idx y0 a2).bind fun p3 =>
    (idx y1 a2).bind fun p4 =>
    if (!((p3.Params.Rate == p4.Params.Rate) && ((p3.Params.Channels == p4.Params.Channels) && ((p3.Params.Depth == p4.Params.Depth) && ((p3.Offset == p4.Offset) && ((p3.Size == p4.Size) && ((p3.Number == p4.Number) && ((p3.Block == p4.Block) && (p3.Variable == p4.Variable))))))))) = true then
      Option.map .inr <|
      some false
    else
      some (.inl (W (a2 + 1)))
  else
    Option.map .inr <|
    jetsamlaw15_same_K1 ()
def jetsamlaw15_same (y0 : List chain_Cand) (y1 : List chain_Cand) : Option Bool :=
  if ((y0.length : Int) != (y1.length : Int)) = true then
    some false
  else
    iter (jetsamlaw15_same_L1 y0 y1) 0
def jetsamlaw15_awake_K1 (j2 : Bool) : Option Bool :=
  some j2
def jetsamlaw15_awake : Option Bool :=
  (chain_Best [(⟨(⟨(0 : Int), (0 : Int), (0 : Int)⟩ : api_Params), (10 : Int), (10 : Int), (1 : Int), (0 : Int), false⟩ : chain_Cand), (⟨(⟨(0 : Int), (0 : Int), (0 : Int)⟩ : api_Params), (5 : Int), (15 : Int), (1 : Int), (0 : Int), false⟩ : chain_Cand), (⟨(⟨(0 : Int), (0 : Int), (0 : Int)⟩ : api_Params), (0 : Int), (10 : Int), (0 : Int), (0 : Int), false⟩ : chain_Cand)]).bind fun r1 =>
  if (if ((r1.1.Params.Rate == 0) && ((r1.1.Params.Channels == 0) && ((r1.1.Params.Depth == 0) && ((r1.1.Variable == false) && (r1.1.Block == 0))))) = true then (r1.2.2 == 20) else false) = true then
    (jetsamlaw15_same r1.2.1 [(⟨(⟨(0 : Int), (0 : Int), (0 : Int)⟩ : api_Params), (0 : Int), (10 : Int), (0 : Int), (0 : Int), false⟩ : chain_Cand), (⟨(⟨(0 : Int), (0 : Int), (0 : Int)⟩ : api_Params), (10 : Int), (10 : Int), (1 : Int), (0 : Int), false⟩ : chain_Cand)]).bind fun r3 =>
    jetsamlaw15_awake_K1 r3
  else
    jetsamlaw15_awake_K1 false
def jetsamlaw15_one (y0 : Bool) : Option Int :=
  if y0 = true then
    some (1 : Int)
  else
    some (0 : Int)
def jetsamlaw15_guess (y0 : chain_Guess) : Option (Nat → Int) :=
  (jetsamlaw15_one y0.Variable).bind fun r1 =>
  some (arrn [r1, y0.Params.Rate, y0.Params.Channels, y0.Params.Depth, y0.Block])
def jetsamlaw15_cand (y0 : chain_Cand) : Option (Nat → Int) :=
  (jetsamlaw15_one y0.Variable).bind fun r1 =>
  some (arrn [y0.Offset, y0.Size, y0.Number, y0.Block, r1, y0.Params.Rate, y0.Params.Channels, y0.Params.Depth])
def jetsamlaw15_cands_K1 (j1 : (List (Nat → Int))) : Option (List (Nat → Int)) :=
  some j1
def jetsamlaw15_cands_L1 (y0 : List chain_Cand) (a2 : Int × (List (Nat → Int))) : Option ((Int × (List (Nat → Int))) ⊕ (List (Nat → Int))) :=
  if (decide (a2.1 < (y0.length : Int))) = true then
    (idx y0 a2.1).bind fun p3 =>
    (jetsamlaw15_cand p3).bind fun r4 =>
    (app 64 a2.2 [r4]).bind fun l5 =>
    some (.inl ((W (a2.1 + 1)), l5))
  else
    Option.map .inr <|
    jetsamlaw15_cands_K1 a2.2
def jetsamlaw15_cands (y0 : List chain_Cand) : Option (List (Nat → Int)) :=
  iter (jetsamlaw15_cands_L1 y0) (0, [])
def jetsamref15_Ahead_K1 (j1 : Unit) : Option Bool :=
  some false
def jetsamref15_Ahead_L1 (y0 : Nat → Int) (y1 : Nat → Int) (a2 : Int) : Option (Int ⊕ Bool) :=
  if (decide (a2 < 8)) = true then
    (idx [(y0 0), (y0 1), (y0 2), (y0 3), (y0 4), (y0 5), (y0 6), (y0 7)] a2).bind fun p3 =>
    (idx [(y1 0), (y1 1), (y1 2), (y1 3), (y1 4), (y1 5), (y1 6), (y1 7)] a2).bind fun p4 =>
    if (p3 != p4) = true then
      (idx [(y0 0), (y0 1), (y0 2), (y0 3), (y0 4), (y0 5), (y0 6), (y0 7)] a2).bind fun p5 =>
      (idx [(y1 0), (y1 1), (y1 2), (y1 3), (y1 4), (y1 5), (y1 6), (y1 7)] a2).bind fun p6 =>
      Option.map .inr <|
      some (decide (p5 < p6))
    else
      some (.inl (W (a2 + 1)))
  else
    Option.map .inr <|
    jetsamref15_Ahead_K1 ()
def jetsamref15_Ahead (y0 : Nat → Int) (y1 : Nat → Int) : Option Bool :=
  iter (jetsamref15_Ahead_L1 y0 y1) 0
def jetsamref15_May_K1 (j1 : Unit) : Option Bool :=
  some true
def jetsamref15_May_L1 (y0 : Nat → Int) (a2 : Int) : Option (Int ⊕ Bool) :=
  if (decide (a2 < 4)) = true then
    (idx [(y0 0), (y0 1), (y0 2), (y0 3), (y0 4), (y0 5), (y0 6), (y0 7)] a2).bind fun p3 =>
    if (decide (p3 < 0)) = true then
      Option.map .inr <|
      some false
    else
      (idx [(y0 0), (y0 1), (y0 2), (y0 3), (y0 4), (y0 5), (y0 6), (y0 7)] a2).bind fun p4 =>
      if (decide (p4 > 1099511627776)) = true then
        Option.map .inr <|
        some false
      else
        if (a2 == 1) = true then
          (idx [(y0 0), (y0 1), (y0 2), (y0 3), (y0 4), (y0 5), (y0 6), (y0 7)] a2).bind fun p5 =>
          if (decide (p5 < 1)) = true then
            Option.map .inr <|
            some false
          else
            some (.inl (W (a2 + 1)))
        else
          some (.inl (W (a2 + 1)))
  else
    Option.map .inr <|
    jetsamref15_May_K1 ()
def jetsamref15_May (y0 : Nat → Int) : Option Bool :=
  iter (jetsamref15_May_L1 y0) 0
def jetsamref15_Fits (y0 : Nat → Int) (y1 : Nat → Int) (y2 : Bool) : Option Bool :=
  if ((y1 4) != (y0 0)) = true then
    some false
  else
    if ((y1 5) != (y0 1)) = true then
      some false
    else
      if ((y1 6) != (y0 2)) = true then
        some false
      else
        if ((y1 7) != (y0 3)) = true then
          some false
        else
          if ((y0 0) == 1) = true then
            some true
          else
            if ((y1 3) == (y0 4)) = true then
              some true
            else
              if y2 = true then
                some (decide ((y1 3) < (y0 4)))
              else
                some false
def jetsamref15_Follows (y0 : Nat → Int) (y1 : Nat → Int) : Option Bool :=
  if (decide ((y1 0) < (W ((y0 0) + (y0 1))))) = true then
    some false
  else
    if ((y1 4) == 1) = true then
      some (decide ((y1 2) ≥ (W ((y0 2) + (y0 3)))))
    else
      some (decide ((y1 2) > (y0 2)))
def jetsamref15_Right_K1 (y1 : List (Nat → Int)) (j1 : Unit) : Option Bool :=
  some (decide ((y1.length : Int) > 0))
def jetsamref15_Right_K2 (a2 : Int) (j3 : Bool) : Option (Int ⊕ Bool) :=
  if j3 = true then
    Option.map .inr <|
    some false
  else
    some (.inl (W (a2 + 1)))
def jetsamref15_Right_L1 (y0 : Nat → Int) (y1 : List (Nat → Int)) (a2 : Int) : Option (Int ⊕ Bool) :=
  if (decide (a2 < (y1.length : Int))) = true then
    (idx y1 a2).bind fun p4 =>
    (jetsamref15_May p4).bind fun r5 =>
    if (!r5) = true then
      jetsamref15_Right_K2 a2 true
    else
      (idx y1 a2).bind fun p6 =>
      (jetsamref15_Fits y0 p6 ((W (a2 + 1)) == (y1.length : Int))).bind fun r7 =>
      if (!r7) = true then
        jetsamref15_Right_K2 a2 true
      else
        if (decide (a2 > 0)) = true then
          (idx y1 (W (a2 - 1))).bind fun p8 =>
          (idx y1 a2).bind fun p9 =>
          (jetsamref15_Follows p8 p9).bind fun r10 =>
          jetsamref15_Right_K2 a2 (!r10)
        else
          jetsamref15_Right_K2 a2 false
  else
    Option.map .inr <|
    jetsamref15_Right_K1 y1 ()
def jetsamref15_Right (y0 : Nat → Int) (y1 : List (Nat → Int)) : Option Bool :=
  iter (jetsamref15_Right_L1 y0 y1) 0
def jetsamref15_Weight_K1 (j1 : Int) : Option Int :=
  some j1
def jetsamref15_Weight_L1 (y0 : List (Nat → Int)) (a2 : Int × Int) : Option ((Int × Int) ⊕ Int) :=
  if (decide (a2.2 < (y0.length : Int))) = true then
    (idx y0 a2.2).bind fun p3 =>
    some (.inl ((W (a2.1 + (p3 1))), (W (a2.2 + 1))))
  else
    Option.map .inr <|
    jetsamref15_Weight_K1 a2.1
def jetsamref15_Weight (y0 : List (Nat → Int)) : Option Int :=
  iter (jetsamref15_Weight_L1 y0) (0, 0)
def jetsamref15_less_K1 (j5 : Unit) : Option Bool :=
  some false
def jetsamref15_less_L1 (y0 : List (Nat → Int)) (y1 : List (Nat → Int)) (a6 : Int) : Option (Int ⊕ Bool) :=
  if (if (decide (a6 < (y0.length : Int))) = true then (decide (a6 < (y1.length : Int))) else false) = true then
    (idx y0 a6).bind fun p7 =>
    (idx y1 a6).bind fun p8 =>
    if (!(((p7 0) == (p8 0)) && (((p7 1) == (p8 1)) && (((p7 2) == (p8 2)) && (((p7 3) == (p8 3)) && (((p7 4) == (p8 4)) && (((p7 5) == (p8 5)) && (((p7 6) == (p8 6)) && ((p7 7) == (p8 7)))))))))) = true then
      (idx y0 a6).bind fun p9 =>
      (idx y1 a6).bind fun p10 =>
      (jetsamref15_Ahead p9 p10).bind fun r11 =>
      Option.map .inr <|
      some r11
    else
      some (.inl (W (a6 + 1)))
  else
    Option.map .inr <|
    jetsamref15_less_K1 ()
def jetsamref15_less (y0 : List (Nat → Int)) (y1 : List (Nat → Int)) : Option Bool :=
  (jetsamref15_Weight y0).bind fun r1 =>
  (jetsamref15_Weight y1).bind fun r2 =>
  if (r1 != r2) = true then
    (jetsamref15_Weight y0).bind fun r3 =>
    (jetsamref15_Weight y1).bind fun r4 =>
    some (decide (r3 > r4))
  else
    iter (jetsamref15_less_L1 y0 y1) 0
def jetsamref15_Heaviest_K2 (j2 : (List (Nat → Int))) : Option (List (Nat → Int)) :=
  some j2
def jetsamref15_Heaviest_K3 (a3 : (List (Nat → Int)) × Int) (j4 : (List (Nat → Int))) : Option (((List (Nat → Int)) × Int) ⊕ (List (Nat → Int))) :=
  some (.inl (j4, (W (a3.2 + 1))))
def jetsamref15_Heaviest_K4 (y0 : Nat → Int) (a3 : (List (Nat → Int)) × Int) (j5 : (List (Nat → Int))) : Option (((List (Nat → Int)) × Int) ⊕ (List (Nat → Int))) :=
  (jetsamref15_Right y0 j5).bind fun r6 =>
  if r6 = true then
    if ((a3.1.length : Int) == 0) = true then
      jetsamref15_Heaviest_K3 a3 j5
    else
      (jetsamref15_less j5 a3.1).bind fun r7 =>
      if r7 = true then
        jetsamref15_Heaviest_K3 a3 j5
      else
        jetsamref15_Heaviest_K3 a3 a3.1
  else
    jetsamref15_Heaviest_K3 a3 a3.1
def jetsamref15_Heaviest_K5 (a8 : Int × (List (Nat → Int))) (j9 : (List (Nat → Int))) : Option ((Int × (List (Nat → Int))) ⊕ (((List (Nat → Int)) × Int) ⊕ (List (Nat → Int)))) :=
  some (.inl ((W (a8.1 + 1)), j9))
def jetsamref15_Heaviest_L2 (y0 : Nat → Int) (j1 : (List (Nat → Int))) (a3 : (List (Nat → Int)) × Int) (a8 : Int × (List (Nat → Int))) : Option ((Int × (List (Nat → Int))) ⊕ (((List (Nat → Int)) × Int) ⊕ (List (Nat → Int)))) :=
  if (decide (a8.1 < (j1.length : Int))) = true then
    need (decide (a8.1 ≥ 0)) <|
    if (((shD .shr .i64 a3.2 a8.1).tmod 2) == 1) = true then
      need (decide (a8.1 ≥ 0)) <|
      need (decide (a8.1 < (j1.length : Int))) <|
      (idx j1 a8.1).bind fun p10 =>
      (app 64 a8.2 [p10]).bind fun l11 =>
      jetsamref15_Heaviest_K5 a8 l11
    else
      jetsamref15_Heaviest_K5 a8 a8.2
  else
    Option.map .inr <|
    jetsamref15_Heaviest_K4 y0 a3 a8.2
def jetsamref15_Heaviest_L1 (y0 : Nat → Int) (j1 : (List (Nat → Int))) (a3 : (List (Nat → Int)) × Int) : Option (((List (Nat → Int)) × Int) ⊕ (List (Nat → Int))) :=
  if (decide (a3.2 < (shD .shl .i64 1 (j1.length : Int)))) = true then
    iter (jetsamref15_Heaviest_L2 y0 j1 a3) (0, [])
  else
    Option.map .inr <|
    jetsamref15_Heaviest_K2 a3.1
def jetsamref15_Heaviest_K1 (y0 : Nat → Int) (j1 : (List (Nat → Int))) : Option (List (Nat → Int)) :=
  iter (jetsamref15_Heaviest_L1 y0 j1) ([], 1)
def jetsamref15_Heaviest_K6 (a12 : Int × (List (Nat → Int))) (j13 : (List (Nat → Int))) : Option ((Int × (List (Nat → Int))) ⊕ (List (Nat → Int))) :=
  some (.inl ((W (a12.1 + 1)), j13))
def jetsamref15_Heaviest_K8 (y1 : List (Nat → Int)) (a12 : Int × (List (Nat → Int))) (j14 : Int) (j15 : Bool) : Option ((Int × (List (Nat → Int))) ⊕ (List (Nat → Int))) :=
  if j15 = true then
    jetsamref15_Heaviest_K6 a12 a12.2
  else
    (sub a12.2 0 j14).bind fun l16 =>
    (app 64 [] l16).bind fun l17 =>
    (idx y1 a12.1).bind fun p18 =>
    (app 64 l17 [p18]).bind fun l19 =>
    (sub a12.2 j14 (a12.2.length : Int)).bind fun l20 =>
    (app 64 l19 l20).bind fun l21 =>
    jetsamref15_Heaviest_K6 a12 l21
def jetsamref15_Heaviest_K7 (y1 : List (Nat → Int)) (a12 : Int × (List (Nat → Int))) (j14 : Int) : Option ((Int × (List (Nat → Int))) ⊕ (List (Nat → Int))) :=
  if (decide (j14 < (a12.2.length : Int))) = true then
    need (decide (j14 ≥ 0)) <|
    need (decide (j14 < (a12.2.length : Int))) <|
    (idx a12.2 j14).bind fun p22 =>
    (idx y1 a12.1).bind fun p23 =>
    jetsamref15_Heaviest_K8 y1 a12 j14 (((p22 0) == (p23 0)) && (((p22 1) == (p23 1)) && (((p22 2) == (p23 2)) && (((p22 3) == (p23 3)) && (((p22 4) == (p23 4)) && (((p22 5) == (p23 5)) && (((p22 6) == (p23 6)) && ((p22 7) == (p23 7)))))))))
  else
    jetsamref15_Heaviest_K8 y1 a12 j14 false
def jetsamref15_Heaviest_K9 (y1 : List (Nat → Int)) (a12 : Int × (List (Nat → Int))) (a24 : Int) (j25 : Bool) : Option (Int ⊕ ((Int × (List (Nat → Int))) ⊕ (List (Nat → Int)))) :=
  if j25 = true then
    some (.inl (W (a24 + 1)))
  else
    Option.map .inr <|
    jetsamref15_Heaviest_K7 y1 a12 a24
def jetsamref15_Heaviest_L4 (y1 : List (Nat → Int)) (a12 : Int × (List (Nat → Int))) (a24 : Int) : Option (Int ⊕ ((Int × (List (Nat → Int))) ⊕ (List (Nat → Int)))) :=
  if (decide (a24 < (a12.2.length : Int))) = true then
    need (decide (a24 ≥ 0)) <|
    need (decide (a24 < (a12.2.length : Int))) <|
    (idx a12.2 a24).bind fun p26 =>
    (idx y1 a12.1).bind fun p27 =>
    (jetsamref15_Ahead p26 p27).bind fun r28 =>
    jetsamref15_Heaviest_K9 y1 a12 a24 r28
  else
    jetsamref15_Heaviest_K9 y1 a12 a24 false
def jetsamref15_Heaviest_L3 (y0 : Nat → Int) (y1 : List (Nat → Int)) (a12 : Int × (List (Nat → Int))) : Option ((Int × (List (Nat → Int))) ⊕ (List (Nat → Int))) :=
  if (decide (a12.1 < (y1.length : Int))) = true then
    iter (jetsamref15_Heaviest_L4 y1 a12) 0
  else
    Option.map .inr <|
    jetsamref15_Heaviest_K1 y0 a12.2
def jetsamref15_Heaviest (y0 : Nat → Int) (y1 : List (Nat → Int)) : Option (List (Nat → Int)) :=
  iter (jetsamref15_Heaviest_L3 y0 y1) (0, [])
def jetsamlaw15_alike_K1 (j1 : Unit) : Option Bool :=
  some true
def jetsamlaw15_alike_L1 (y0 : List (Nat → Int)) (y1 : List (Nat → Int)) (a2 : Int) : Option (Int ⊕ Bool) :=
  if (decide (a2 < (y0.length : Int))) = true then
    (idx y0 a2).bind fun p3 =>
    (idx y1 a2).bind fun p4 =>
    if (!(((p3 0) == (p4 0)) && (((p3 1) == (p4 1)) && (((p3 2) == (p4 2)) && (((p3 3) == (p4 3)) && (((p3 4) == (p4 4)) && (((p3 5) == (p4 5)) && (((p3 6) == (p4 6)) && ((p3 7) == (p4 7)))))))))) = true then
      Option.map .inr <|
      some false
    else
      some (.inl (W (a2 + 1)))
  else
    Option.map .inr <|
    jetsamlaw15_alike_K1 ()
def jetsamlaw15_alike (y0 : List (Nat → Int)) (y1 : List (Nat → Int)) : Option Bool :=
  if ((y0.length : Int) != (y1.length : Int)) = true then
    some false
  else
    iter (jetsamlaw15_alike_L1 y0 y1) 0
def jetsamlaw15_ChainHeaviest (y0 : chain_Guess) (y1 : List chain_Cand) : Option Bool :=
  if (decide ((y1.length : Int) > 9)) = true then
    (jetsamlaw15_awake).bind fun r1 =>
    some r1
  else
    (chain_Heaviest y0 y1).bind fun r2 =>
    (jetsamlaw15_guess y0).bind fun r3 =>
    (jetsamlaw15_cands y1).bind fun r4 =>
    (jetsamref15_Heaviest r3 r4).bind fun r5 =>
    (jetsamlaw15_cands r2.1).bind fun r6 =>
    (jetsamlaw15_alike r6 r5).bind fun r7 =>
    if r7 = true then
      (jetsamref15_Weight r5).bind fun r8 =>
      if (r2.2 == r8) = true then
        (jetsamlaw15_awake).bind fun r9 =>
        some r9
      else
        some false
    else
      some false
def jetsamref15_Of_K1 (y0 : Nat → Int) (j1 : Int) : Option (Nat → Int) :=
  some (arrn [(y0 4), (y0 5), (y0 6), (y0 7), j1])
def jetsamref15_Of (y0 : Nat → Int) : Option (Nat → Int) :=
  if ((y0 4) == 1) = true then
    jetsamref15_Of_K1 y0 0
  else
    jetsamref15_Of_K1 y0 (y0 3)
def jetsamref15_before_K1 (j1 : Unit) : Option Bool :=
  some false
def jetsamref15_before_L1 (y0 : Nat → Int) (y1 : Nat → Int) (a2 : Int) : Option (Int ⊕ Bool) :=
  if (decide (a2 < 5)) = true then
    (idx [(y0 0), (y0 1), (y0 2), (y0 3), (y0 4)] a2).bind fun p3 =>
    (idx [(y1 0), (y1 1), (y1 2), (y1 3), (y1 4)] a2).bind fun p4 =>
    if (p3 != p4) = true then
      (idx [(y0 0), (y0 1), (y0 2), (y0 3), (y0 4)] a2).bind fun p5 =>
      (idx [(y1 0), (y1 1), (y1 2), (y1 3), (y1 4)] a2).bind fun p6 =>
      Option.map .inr <|
      some (decide (p5 < p6))
    else
      some (.inl (W (a2 + 1)))
  else
    Option.map .inr <|
    jetsamref15_before_K1 ()
def jetsamref15_before (y0 : Nat → Int) (y1 : Nat → Int) : Option Bool :=
  iter (jetsamref15_before_L1 y0 y1) 0
def jetsamref15_Guesses_K1 (j1 : (List (Nat → Int))) : Option (List (Nat → Int)) :=
  some j1
def jetsamref15_Guesses_K2 (a2 : Int × (List (Nat → Int))) (j3 : (List (Nat → Int))) : Option ((Int × (List (Nat → Int))) ⊕ (List (Nat → Int))) :=
  some (.inl ((W (a2.1 + 1)), j3))
def jetsamref15_Guesses_K4 (a2 : Int × (List (Nat → Int))) (r7 : Nat → Int) (j8 : Int) (j9 : Bool) : Option ((Int × (List (Nat → Int))) ⊕ (List (Nat → Int))) :=
  if j9 = true then
    jetsamref15_Guesses_K2 a2 a2.2
  else
    (sub a2.2 0 j8).bind fun l10 =>
    (app 40 [] l10).bind fun l11 =>
    (app 40 l11 [r7]).bind fun l12 =>
    (sub a2.2 j8 (a2.2.length : Int)).bind fun l13 =>
    (app 40 l12 l13).bind fun l14 =>
    jetsamref15_Guesses_K2 a2 l14
def jetsamref15_Guesses_K3 (a2 : Int × (List (Nat → Int))) (r7 : Nat → Int) (j8 : Int) : Option ((Int × (List (Nat → Int))) ⊕ (List (Nat → Int))) :=
  if (decide (j8 < (a2.2.length : Int))) = true then
    need (decide (j8 ≥ 0)) <|
    need (decide (j8 < (a2.2.length : Int))) <|
    (idx a2.2 j8).bind fun p15 =>
    jetsamref15_Guesses_K4 a2 r7 j8 (((p15 0) == (r7 0)) && (((p15 1) == (r7 1)) && (((p15 2) == (r7 2)) && (((p15 3) == (r7 3)) && ((p15 4) == (r7 4))))))
  else
    jetsamref15_Guesses_K4 a2 r7 j8 false
def jetsamref15_Guesses_K5 (a2 : Int × (List (Nat → Int))) (r7 : Nat → Int) (a16 : Int) (j17 : Bool) : Option (Int ⊕ ((Int × (List (Nat → Int))) ⊕ (List (Nat → Int)))) :=
  if j17 = true then
    some (.inl (W (a16 + 1)))
  else
    Option.map .inr <|
    jetsamref15_Guesses_K3 a2 r7 a16
def jetsamref15_Guesses_L2 (a2 : Int × (List (Nat → Int))) (r7 : Nat → Int) (a16 : Int) : Option (Int ⊕ ((Int × (List (Nat → Int))) ⊕ (List (Nat → Int)))) :=
  if (decide (a16 < (a2.2.length : Int))) = true then
    need (decide (a16 ≥ 0)) <|
    need (decide (a16 < (a2.2.length : Int))) <|
    (idx a2.2 a16).bind fun p18 =>
    (jetsamref15_before p18 r7).bind fun r19 =>
    jetsamref15_Guesses_K5 a2 r7 a16 r19
  else
    jetsamref15_Guesses_K5 a2 r7 a16 false
def jetsamref15_Guesses_L1 (y0 : List (Nat → Int)) (a2 : Int × (List (Nat → Int))) : Option ((Int × (List (Nat → Int))) ⊕ (List (Nat → Int))) :=
  if (decide (a2.1 < (y0.length : Int))) = true then
    (idx y0 a2.1).bind fun p4 =>
    (jetsamref15_May p4).bind fun r5 =>
    if (!r5) = true then
      jetsamref15_Guesses_K2 a2 a2.2
    else
      (idx y0 a2.1).bind fun p6 =>
      (jetsamref15_Of p6).bind fun r7 =>
      iter (jetsamref15_Guesses_L2 a2 r7) 0
  else
    Option.map .inr <|
    jetsamref15_Guesses_K1 a2.2
def jetsamref15_Guesses (y0 : List (Nat → Int)) : Option (List (Nat → Int)) :=
  iter (jetsamref15_Guesses_L1 y0) (0, [])
def jetsamlaw15_ChainBest_K2 (j6 : Bool) : Option Bool :=
  some j6
def jetsamlaw15_ChainBest_K1 (r2 : chain_Guess × (List chain_Cand) × Int) (j5 : (List (Nat → Int)) × Int × Int × Int × Int × Int) : Option Bool :=
  (jetsamlaw15_guess r2.1).bind fun r7 =>
  if (((r7 0) == j5.2.1) && (((r7 1) == j5.2.2.1) && (((r7 2) == j5.2.2.2.1) && (((r7 3) == j5.2.2.2.2.1) && ((r7 4) == j5.2.2.2.2.2))))) = true then
    (jetsamlaw15_cands r2.2.1).bind fun r8 =>
    (jetsamlaw15_alike r8 j5.1).bind fun r9 =>
    if r9 = true then
      (jetsamref15_Weight j5.1).bind fun r10 =>
      if (r2.2.2 == r10) = true then
        (jetsamlaw15_awake).bind fun r11 =>
        jetsamlaw15_ChainBest_K2 r11
      else
        jetsamlaw15_ChainBest_K2 false
    else
      jetsamlaw15_ChainBest_K2 false
  else
    jetsamlaw15_ChainBest_K2 false
def jetsamlaw15_ChainBest_K3 (a12 : (List (Nat → Int)) × Int × Int × Int × Int × Int × Int) (j13 : (List (Nat → Int)) × Int × Int × Int × Int × Int) : Option (((List (Nat → Int)) × Int × Int × Int × Int × Int × Int) ⊕ Bool) :=
  some (.inl (j13.1, (W (a12.2.1 + 1)), j13.2.1, j13.2.2.1, j13.2.2.2.1, j13.2.2.2.2.1, j13.2.2.2.2.2))
def jetsamlaw15_ChainBest_L1 (r2 : chain_Guess × (List chain_Cand) × Int) (r3 : List (Nat → Int)) (r4 : List (Nat → Int)) (a12 : (List (Nat → Int)) × Int × Int × Int × Int × Int × Int) : Option (((List (Nat → Int)) × Int × Int × Int × Int × Int × Int) ⊕ Bool) :=
  if (decide (a12.2.1 < (r4.length : Int))) = true then
    (idx r4 a12.2.1).bind fun p14 =>
    (jetsamref15_Heaviest p14 r3).bind fun r15 =>
    (jetsamref15_Weight r15).bind fun r16 =>
    (jetsamref15_Weight a12.1).bind fun r17 =>
    if (decide (r16 > r17)) = true then
      (idx r4 a12.2.1).bind fun p18 =>
      jetsamlaw15_ChainBest_K3 a12 (r15, (p18 0), (p18 1), (p18 2), (p18 3), (p18 4))
    else
      jetsamlaw15_ChainBest_K3 a12 (a12.1, a12.2.2.1, a12.2.2.2.1, a12.2.2.2.2.1, a12.2.2.2.2.2.1, a12.2.2.2.2.2.2)
  else
    Option.map .inr <|
    jetsamlaw15_ChainBest_K1 r2 (a12.1, a12.2.2.1, a12.2.2.2.1, a12.2.2.2.2.1, a12.2.2.2.2.2.1, a12.2.2.2.2.2.2)
def jetsamlaw15_ChainBest (y0 : List chain_Cand) : Option Bool :=
  if (decide ((y0.length : Int) > 9)) = true then
    (jetsamlaw15_awake).bind fun r1 =>
    some r1
  else
    (chain_Best y0).bind fun r2 =>
    (jetsamlaw15_cands y0).bind fun r3 =>
    (jetsamref15_Guesses r3).bind fun r4 =>
    iter (jetsamlaw15_ChainBest_L1 r2 r3 r4) ([], 0, 0, 0, 0, 0, 0)
def jetsamlaw15_ChainTurns_K1 (y0 : List chain_Cand) (j2 : (List chain_Cand)) : Option Bool :=
  (chain_Best y0).bind fun r3 =>
  (chain_Best j2).bind fun r4 =>
  if ((r3.1.Params.Rate == r4.1.Params.Rate) && ((r3.1.Params.Channels == r4.1.Params.Channels) && ((r3.1.Params.Depth == r4.1.Params.Depth) && ((r3.1.Variable == r4.1.Variable) && (r3.1.Block == r4.1.Block))))) = true then
    (jetsamlaw15_same r3.2.1 r4.2.1).bind fun r5 =>
    if (if r5 = true then (r3.2.2 == r4.2.2) else false) = true then
      (jetsamlaw15_awake).bind fun r6 =>
      some r6
    else
      some false
  else
    some false
def jetsamlaw15_ChainTurns_L1 (y0 : List chain_Cand) (y1 : Int) (a7 : Int × (List chain_Cand)) : Option ((Int × (List chain_Cand)) ⊕ Bool) :=
  if (decide (a7.1 ≤ (y0.length : Int))) = true then
    need ((y0.length : Int) != 0) <|
    need ((y0.length : Int) != 0) <|
    need ((y0.length : Int) != 0) <|
    (idx y0 ((W (((W ((y1.tmod (y0.length : Int)) + (y0.length : Int))).tmod (y0.length : Int)) + a7.1)).tmod (y0.length : Int))).bind fun p8 =>
    (app 64 a7.2 [p8]).bind fun l9 =>
    some (.inl ((W (a7.1 + 1)), l9))
  else
    Option.map .inr <|
    jetsamlaw15_ChainTurns_K1 y0 a7.2
def jetsamlaw15_ChainTurns (y0 : List chain_Cand) (y1 : Int) : Option Bool :=
  if (if (decide ((y0.length : Int) > 100)) = true then true else ((y0.length : Int) == 0)) = true then
    (jetsamlaw15_awake).bind fun r1 =>
    some r1
  else
    iter (jetsamlaw15_ChainTurns_L1 y0 y1) (0, [])
def jetsamlaw15_ChainMore (y0 : List chain_Cand) (y1 : List chain_Cand) : Option Bool :=
  if (if (decide ((y0.length : Int) > 60)) = true then true else (decide ((y1.length : Int) > 60))) = true then
    (jetsamlaw15_awake).bind fun r1 =>
    some r1
  else
    (chain_Best y0).bind fun r2 =>
    (app 64 [] y0).bind fun l3 =>
    (app 64 l3 y1).bind fun l4 =>
    (chain_Best l4).bind fun r5 =>
    (chain_Best r2.2.1).bind fun r6 =>
    if (if (decide (r5.2.2 ≥ r2.2.2)) = true then (r6.2.2 == r2.2.2) else false) = true then
      (jetsamlaw15_same r6.2.1 r2.2.1).bind fun r7 =>
      if r7 = true then
        (jetsamlaw15_awake).bind fun r8 =>
        some r8
      else
        some false
    else
      some false
def chain_Right_K1 (y1 : List chain_Cand) (j1 : Unit) : Option Bool :=
  some (decide ((y1.length : Int) > 0))
def chain_Right_K2 (a2 : Int) (j4 : Bool) : Option (Int ⊕ Bool) :=
  if j4 = true then
    Option.map .inr <|
    some false
  else
    some (.inl (W (a2 + 1)))
def chain_Right_L1 (y0 : chain_Guess) (y1 : List chain_Cand) (a2 : Int) : Option (Int ⊕ Bool) :=
  if (decide (a2 < (y1.length : Int))) = true then
    (idx y1 a2).bind fun p3 =>
    (chain_may p3).bind fun r5 =>
    if (!r5) = true then
      chain_Right_K2 a2 true
    else
      (chain_Guess_Fits y0 p3 (a2 == (W ((y1.length : Int) - 1)))).bind fun r6 =>
      if (!r6) = true then
        chain_Right_K2 a2 true
      else
        if (decide (a2 > 0)) = true then
          (idx y1 (W (a2 - 1))).bind fun p7 =>
          (chain_Follows p7 p3).bind fun r8 =>
          chain_Right_K2 a2 (!r8)
        else
          chain_Right_K2 a2 false
  else
    Option.map .inr <|
    chain_Right_K1 y1 ()
def chain_Right (y0 : chain_Guess) (y1 : List chain_Cand) : Option Bool :=
  iter (chain_Right_L1 y0 y1) 0
def jetsamlaw15_told_K1 (j1 : Unit) : Option Bool :=
  some false
def jetsamlaw15_told_K2 (a2 : Int) (j3 : Bool) : Option (Int ⊕ Bool) :=
  if j3 = true then
    Option.map .inr <|
    some true
  else
    some (.inl (W (a2 + 1)))
def jetsamlaw15_told_L1 (y0 : chain_Guess) (y1 : List chain_Cand) (a2 : Int) : Option (Int ⊕ Bool) :=
  if (decide (a2 < (y1.length : Int))) = true then
    (idx y1 a2).bind fun p4 =>
    if ((p4.Params.Rate == y0.Params.Rate) && ((p4.Params.Channels == y0.Params.Channels) && (p4.Params.Depth == y0.Params.Depth))) = true then
      (idx y1 a2).bind fun p5 =>
      if (p5.Variable == y0.Variable) = true then
        if (if y0.Variable = true then (y0.Block == 0) else false) = true then
          jetsamlaw15_told_K2 a2 true
        else
          if (!y0.Variable) = true then
            (idx y1 a2).bind fun p6 =>
            jetsamlaw15_told_K2 a2 (p6.Block == y0.Block)
          else
            jetsamlaw15_told_K2 a2 false
      else
        jetsamlaw15_told_K2 a2 false
    else
      jetsamlaw15_told_K2 a2 false
  else
    Option.map .inr <|
    jetsamlaw15_told_K1 ()
def jetsamlaw15_told (y0 : chain_Guess) (y1 : List chain_Cand) : Option Bool :=
  iter (jetsamlaw15_told_L1 y0 y1) 0
def jetsamlaw15_ChainBound_K2 (r4 : chain_Guess × (List chain_Cand) × Int) (r11 : (List chain_Cand) × Int) (j12 : Int) : Option Bool :=
  if (if (decide (j12 ≤ r11.2)) = true then (decide (r11.2 ≤ r4.2.2)) else false) = true then
    (jetsamlaw15_awake).bind fun r13 =>
    some r13
  else
    some false
def jetsamlaw15_ChainBound_L1 (y2 : List chain_Cand) (r4 : chain_Guess × (List chain_Cand) × Int) (r11 : (List chain_Cand) × Int) (a14 : Int × Int) : Option ((Int × Int) ⊕ Bool) :=
  if (decide (a14.2 < (y2.length : Int))) = true then
    (idx y2 a14.2).bind fun p15 =>
    some (.inl ((W (a14.1 + p15.Size)), (W (a14.2 + 1))))
  else
    Option.map .inr <|
    jetsamlaw15_ChainBound_K2 r4 r11 a14.1
def jetsamlaw15_ChainBound_K1 (y1 : chain_Guess) (y2 : List chain_Cand) (l3 : List chain_Cand) (r4 : chain_Guess × (List chain_Cand) × Int) (j5 : Int) : Option Bool :=
  if (j5 != r4.2.2) = true then
    some false
  else
    (chain_Right r4.1 r4.2.1).bind fun r6 =>
    if (!(r6 == (decide ((r4.2.1.length : Int) > 0)))) = true then
      some false
    else
      (chain_Right y1 y2).bind fun r7 =>
      if (!r7) = true then
        (jetsamlaw15_awake).bind fun r8 =>
        some r8
      else
        (jetsamlaw15_told y1 y2).bind fun r9 =>
        if (!r9) = true then
          (jetsamlaw15_awake).bind fun r10 =>
          some r10
        else
          (chain_Heaviest y1 l3).bind fun r11 =>
          iter (jetsamlaw15_ChainBound_L1 y2 r4 r11) (0, 0)
def jetsamlaw15_ChainBound_K3 (a16 : Int × Int) (j17 : Int) : Option ((Int × Int) ⊕ Bool) :=
  some (.inl (j17, (W (a16.2 + 1))))
def jetsamlaw15_ChainBound_K4 (a16 : Int × Int) (p18 : chain_Cand) (j19 : Bool) : Option ((Int × Int) ⊕ Bool) :=
  if (!j19) = true then
    Option.map .inr <|
    some false
  else
    jetsamlaw15_ChainBound_K3 a16 (W (a16.1 + p18.Size))
def jetsamlaw15_ChainBound_L3 (l3 : List chain_Cand) (r4 : chain_Guess × (List chain_Cand) × Int) (a16 : Int × Int) (p18 : chain_Cand) (a20 : Bool × Int) : Option ((Bool × Int) ⊕ ((Int × Int) ⊕ Bool)) :=
  if (decide (a20.2 < (l3.length : Int))) = true then
    if a20.1 = true then
      some (.inl (true, (W (a20.2 + 1))))
    else
      (idx l3 a20.2).bind fun p21 =>
      (idx r4.2.1 a16.2).bind fun p22 =>
      some (.inl (((p21.Params.Rate == p22.Params.Rate) && ((p21.Params.Channels == p22.Params.Channels) && ((p21.Params.Depth == p22.Params.Depth) && ((p21.Offset == p22.Offset) && ((p21.Size == p22.Size) && ((p21.Number == p22.Number) && ((p21.Block == p22.Block) && (p21.Variable == p22.Variable)))))))), (W (a20.2 + 1))))
  else
    Option.map .inr <|
    jetsamlaw15_ChainBound_K4 a16 p18 a20.1
def jetsamlaw15_ChainBound_L2 (y1 : chain_Guess) (y2 : List chain_Cand) (l3 : List chain_Cand) (r4 : chain_Guess × (List chain_Cand) × Int) (a16 : Int × Int) : Option ((Int × Int) ⊕ Bool) :=
  if (decide (a16.2 < (r4.2.1.length : Int))) = true then
    (idx r4.2.1 a16.2).bind fun p18 =>
    iter (jetsamlaw15_ChainBound_L3 l3 r4 a16 p18) (false, 0)
  else
    Option.map .inr <|
    jetsamlaw15_ChainBound_K1 y1 y2 l3 r4 a16.1
def jetsamlaw15_ChainBound (y0 : List chain_Cand) (y1 : chain_Guess) (y2 : List chain_Cand) : Option Bool :=
  if (if (decide ((y0.length : Int) > 100)) = true then true else (decide ((y2.length : Int) > 100))) = true then
    (jetsamlaw15_awake).bind fun r1 =>
    some r1
  else
    (app 64 [] y0).bind fun l2 =>
    (app 64 l2 y2).bind fun l3 =>
    (chain_Best l3).bind fun r4 =>
    iter (jetsamlaw15_ChainBound_L2 y1 y2 l3 r4) (0, 0)
end Go.Vg
