/- What the functions answer, printed by a program. -/
import Derived.Test.YtnapnedfhimikaaVhA
set_option maxRecDepth 4000
set_option linter.all false
set_option linter.unusedVariables false
set_option linter.unusedSimpArgs false
namespace Go.Vg
open Go
def math_bits_Mul64 (y0 : Int) (y1 : Int) : Option (Int × Int) :=
  some ((IntKind.u64.wrap ((IntKind.u64.wrap ((IntKind.u64.wrap ((shD .shr .u64 y0 32) * (shD .shr .u64 y1 32))) + (shD .shr .u64 (IntKind.u64.wrap ((IntKind.u64.wrap ((shD .shr .u64 y0 32) * (arD .and .u64 y1 4294967295))) + (shD .shr .u64 (IntKind.u64.wrap ((arD .and .u64 y0 4294967295) * (arD .and .u64 y1 4294967295))) 32))) 32))) + (shD .shr .u64 (IntKind.u64.wrap ((arD .and .u64 (IntKind.u64.wrap ((IntKind.u64.wrap ((shD .shr .u64 y0 32) * (arD .and .u64 y1 4294967295))) + (shD .shr .u64 (IntKind.u64.wrap ((arD .and .u64 y0 4294967295) * (arD .and .u64 y1 4294967295))) 32))) 4294967295) + (IntKind.u64.wrap ((arD .and .u64 y0 4294967295) * (shD .shr .u64 y1 32))))) 32))), (IntKind.u64.wrap (y0 * y1)))
def math_bits_Mul (y0 : Int) (y1 : Int) : Option (Int × Int) :=
  (math_bits_Mul64 y0 y1).bind fun r1 =>
  some (r1.1, r1.2)
def slices_Repeat_sint_int_K1 (j4 : (List Int)) : Option (List Int) :=
  some j4
def slices_Repeat_sint_int_L1 (a5 : Int × (List Int)) : Option ((Int × (List Int)) ⊕ (List Int)) :=
  if (decide (a5.1 < (a5.2.length : Int))) = true then
    (sub a5.2 a5.1 (a5.2.length : Int)).bind fun l6 =>
    (sub a5.2 0 a5.1).bind fun l7 =>
    (cpq a5.2 a5.1 ((a5.2.length : Int) - a5.1) ((a5.2.drop (0 : Int).toNat).take (a5.1 - 0 : Int).toNat)).bind fun c8 =>
    if decide (0 < c8.2) = true then
      some (.inl ((W (a5.1 + (c8.2 : Int))), c8.1))
    else
      some (.inl ((W (a5.1 + 0)), a5.2))
  else
    Option.map .inr <|
    slices_Repeat_sint_int_K1 a5.2
def slices_Repeat_sint_int_K2 (j9 : (List Int)) : Option (List Int) :=
  some j9
def slices_Repeat_sint_int_L2 (a10 : Int × (List Int)) : Option ((Int × (List Int)) ⊕ (List Int)) :=
  if (decide (a10.1 < (a10.2.length : Int))) = true then
    (sub a10.2 a10.1 (a10.2.length : Int)).bind fun l11 =>
    (sub a10.2 0 a10.1).bind fun l12 =>
    (cpq a10.2 a10.1 ((a10.2.length : Int) - a10.1) ((a10.2.drop (0 : Int).toNat).take (a10.1 - 0 : Int).toNat)).bind fun c13 =>
    if decide (0 < c13.2) = true then
      some (.inl ((W (a10.1 + (c13.2 : Int))), c13.1))
    else
      some (.inl ((W (a10.1 + 0)), a10.2))
  else
    Option.map .inr <|
    slices_Repeat_sint_int_K2 a10.2
def slices_Repeat_sint_int (y0 : List Int) (y1 : Int) : Option (List Int) :=
  if (decide (y1 < 0)) = true then
    none
  else
    (math_bits_Mul (IntKind.u64.wrap (y0.length : Int)) (IntKind.u64.wrap y1)).bind fun r1 =>
    if (if (decide (r1.1 > 0)) = true then true else (decide (r1.2 > 9223372036854775807))) = true then
      none
    else
      (mks 8 (W r1.2) (0 : Int)).bind fun l2 =>
      (cpq l2 0 (l2.length : Int) y0).bind fun c3 =>
      if decide (0 < c3.2) = true then
        iter slices_Repeat_sint_int_L2 ((c3.2 : Int), c3.1)
      else
        iter slices_Repeat_sint_int_L1 (0, l2)
def rebuild_Parts_K1 (j2 : (List Int)) : Option (List Int) :=
  some j2
def rebuild_Parts_L1 (y0 : Int) (a3 : Int × (List Int)) : Option ((Int × (List Int)) ⊕ (List Int)) :=
  if (decide (a3.1 < (y0.tmod (W ((W ((W (y0 + 4096)) - 1)).tdiv 4096))))) = true then
    need (decide (a3.1 ≥ 0)) <|
    need (decide (a3.1 < (a3.2.length : Int))) <|
    (idx a3.2 a3.1).bind fun p4 =>
    need (decide (a3.1 ≥ 0)) <|
    need (decide (a3.1 < (a3.2.length : Int))) <|
    (upd a3.2 a3.1 (W (p4 + 1))).bind fun l5 =>
    some (.inl ((W (a3.1 + 1)), l5))
  else
    Option.map .inr <|
    rebuild_Parts_K1 a3.2
def rebuild_Parts (y0 : Int) : Option (List Int) :=
  if (decide (y0 ≤ 0)) = true then
    some ([] : List Int)
  else
    need ((W ((W ((W (y0 + 4096)) - 1)).tdiv 4096)) != 0) <|
    (slices_Repeat_sint_int [(W (y0.tdiv (W ((W ((W (y0 + 4096)) - 1)).tdiv 4096))))] (W ((W ((W (y0 + 4096)) - 1)).tdiv 4096))).bind fun r1 =>
    need ((W ((W ((W (y0 + 4096)) - 1)).tdiv 4096)) != 0) <|
    iter (rebuild_Parts_L1 y0) (0, r1)
def jetsamlaw19_ints_K1 (j1 : Unit) : Option Bool :=
  some true
def jetsamlaw19_ints_L1 (y0 : List Int) (y1 : List Int) (a2 : Int) : Option (Int ⊕ Bool) :=
  if (decide (a2 < (y0.length : Int))) = true then
    (idx y0 a2).bind fun p3 =>
    (idx y1 a2).bind fun p4 =>
    if (p3 != p4) = true then
      Option.map .inr <|
      some false
    else
      some (.inl (W (a2 + 1)))
  else
    Option.map .inr <|
    jetsamlaw19_ints_K1 ()
def jetsamlaw19_ints (y0 : List Int) (y1 : List Int) : Option Bool :=
  if ((y0.length : Int) != (y1.length : Int)) = true then
    some false
  else
    iter (jetsamlaw19_ints_L1 y0 y1) 0
def jetsamlaw19_awake : Option Bool :=
  (rebuild_Parts (5000 : Int)).bind fun r1 =>
  (jetsamlaw19_ints r1 [(2500 : Int), (2500 : Int)]).bind fun r2 =>
  if r2 = true then
    (rebuild_Parts (4097 : Int)).bind fun r3 =>
    (jetsamlaw19_ints r3 [(2049 : Int), (2048 : Int)]).bind fun r4 =>
    if r4 = true then
      (rebuild_Parts (7 : Int)).bind fun r5 =>
      (jetsamlaw19_ints r5 [(7 : Int)]).bind fun r6 =>
      some r6
    else
      some false
  else
    some false
def jetsamref19_Parts_K2 (j2 : (List Int)) : Option (List Int) :=
  some j2
def jetsamref19_Parts_K3 (a3 : Int × Int × (List Int)) (j4 : Int × (List Int)) : Option ((Int × Int × (List Int)) ⊕ (List Int)) :=
  some (.inl (j4.1, (W (a3.2.1 - 1)), j4.2))
def jetsamref19_Parts_K4 (a3 : Int × Int × (List Int)) (j5 : Int) : Option ((Int × Int × (List Int)) ⊕ (List Int)) :=
  (app 8 a3.2.2 [j5]).bind fun l6 =>
  jetsamref19_Parts_K3 a3 ((W (a3.1 - j5)), l6)
def jetsamref19_Parts_L2 (a3 : Int × Int × (List Int)) (a7 : Int) : Option (Int ⊕ ((Int × Int × (List Int)) ⊕ (List Int))) :=
  if (decide ((W (a7 * a3.2.1)) < a3.1)) = true then
    some (.inl (W (a7 + 1)))
  else
    Option.map .inr <|
    jetsamref19_Parts_K4 a3 a7
def jetsamref19_Parts_L1 (a3 : Int × Int × (List Int)) : Option ((Int × Int × (List Int)) ⊕ (List Int)) :=
  if (decide (a3.2.1 > 0)) = true then
    iter (jetsamref19_Parts_L2 a3) 0
  else
    Option.map .inr <|
    jetsamref19_Parts_K2 a3.2.2
def jetsamref19_Parts_K1 (y0 : Int) (j1 : Int) : Option (List Int) :=
  iter jetsamref19_Parts_L1 (y0, j1, [])
def jetsamref19_Parts_L3 (y0 : Int) (a8 : Int) : Option (Int ⊕ (List Int)) :=
  if (decide ((W (4096 * a8)) < y0)) = true then
    some (.inl (W (a8 + 1)))
  else
    Option.map .inr <|
    jetsamref19_Parts_K1 y0 a8
def jetsamref19_Parts (y0 : Int) : Option (List Int) :=
  iter (jetsamref19_Parts_L3 y0) 0
def jetsamlaw19_RebuildParts (y0 : Int) : Option Bool :=
  if (decide (y0 > 50000)) = true then
    (jetsamlaw19_awake).bind fun r1 =>
    some r1
  else
    (rebuild_Parts y0).bind fun r2 =>
    (jetsamref19_Parts y0).bind fun r3 =>
    (jetsamlaw19_ints r2 r3).bind fun r4 =>
    if r4 = true then
      (jetsamlaw19_awake).bind fun r5 =>
      some r5
    else
      some false
end Go.Vg
