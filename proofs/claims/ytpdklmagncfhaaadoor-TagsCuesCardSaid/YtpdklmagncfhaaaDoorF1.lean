/- What the functions answer, printed by a program. -/
import Derived.Test.YtpdklmagncfhaaaDoorA8
set_option maxRecDepth 4000
set_option linter.all false
set_option linter.unusedVariables false
set_option linter.unusedSimpArgs false
namespace Go.Vg
open Go
structure tags_Index where
  Offset : Int
  Number : Int
def e_tags_Index (p : tags_Index) : V := .agg [.int .i64 (.v p.Offset), .int .i64 (.v p.Number)]
structure tags_Track where
  Offset : Int
  Number : Int
  Code : List UInt8
  Data : Bool
  Pre : Bool
  L : List tags_Index
def e_tags_Track (p : tags_Track) : V := .agg [.int .i64 (.v p.Offset), .int .i64 (.v p.Number), .str (.v p.Code), .bool (.v p.Data), .bool (.v p.Pre), .sl 2 e_tags_Index p.L]
structure tags_Cue where
  Catalog : List UInt8
  Lead : Int
  Disc : Bool
  L : List tags_Track
def e_tags_Cue (p : tags_Cue) : V := .agg [.str (.v p.Catalog), .int .i64 (.v p.Lead), .bool (.v p.Disc), .sl 6 e_tags_Track p.L]
structure tags_Comments where
  Vendor : List UInt8
  L : List (List UInt8)
def e_tags_Comments (p : tags_Comments) : V := .agg [.str (.v p.Vendor), .sl 1 e_str p.L]
structure unicode_utf8_acceptRange where
  m_lo : Int
  m_hi : Int
def e_unicode_utf8_acceptRange (p : unicode_utf8_acceptRange) : V := .agg [.int .u8 (.v p.m_lo), .int .u8 (.v p.m_hi)]
structure jetsamref13_Track where
  Offset : Int
  Number : Int
  Flags : Int
  Code : List UInt8
  L : List (Arr2 Int)
def e_jetsamref13_Track (p : jetsamref13_Track) : V := .agg [.int .i64 (.v p.Offset), .int .i64 (.v p.Number), .int .i64 (.v p.Flags), .str (.v p.Code), .sl 2 (e_arr2 e_i64) p.L]
structure tags_reader where
  m_b : List Int
  m_end : Bool
  m_bad : Bool
def e_tags_reader (p : tags_reader) : V := .agg [.sl 1 e_u8 p.m_b, .bool (.v p.m_end), .bool (.v p.m_bad)]
def tab0 : List Int := [(240 : Int), (240 : Int), (240 : Int), (240 : Int), (240 : Int), (240 : Int), (240 : Int), (240 : Int), (240 : Int), (240 : Int), (240 : Int), (240 : Int), (240 : Int), (240 : Int), (240 : Int), (240 : Int), (240 : Int), (240 : Int), (240 : Int), (240 : Int), (240 : Int), (240 : Int), (240 : Int), (240 : Int), (240 : Int), (240 : Int), (240 : Int), (240 : Int), (240 : Int), (240 : Int), (240 : Int), (240 : Int), (240 : Int), (240 : Int), (240 : Int), (240 : Int), (240 : Int), (240 : Int), (240 : Int), (240 : Int), (240 : Int), (240 : Int), (240 : Int), (240 : Int), (240 : Int), (240 : Int), (240 : Int), (240 : Int), (240 : Int), (240 : Int), (240 : Int), (240 : Int), (240 : Int), (240 : Int), (240 : Int), (240 : Int), (240 : Int), (240 : Int), (240 : Int), (240 : Int), (240 : Int), (240 : Int), (240 : Int), (240 : Int), (240 : Int), (240 : Int), (240 : Int), (240 : Int), (240 : Int), (240 : Int), (240 : Int), (240 : Int), (240 : Int), (240 : Int), (240 : Int), (240 : Int), (240 : Int), (240 : Int), (240 : Int), (240 : Int), (240 : Int), (240 : Int), (240 : Int), (240 : Int), (240 : Int), (240 : Int), (240 : Int), (240 : Int), (240 : Int), (240 : Int), (240 : Int), (240 : Int), (240 : Int), (240 : Int), (240 : Int), (240 : Int), (240 : Int), (240 : Int), (240 : Int), (240 : Int), (240 : Int), (240 : Int), (240 : Int), (240 : Int), (240 : Int), (240 : Int), (240 : Int), (240 : Int), (240 : Int), (240 : Int), (240 : Int), (240 : Int), (240 : Int), (240 : Int), (240 : Int), (240 : Int), (240 : Int), (240 : Int), (240 : Int), (240 : Int), (240 : Int), (240 : Int), (240 : Int), (240 : Int), (240 : Int), (240 : Int), (240 : Int), (240 : Int), (241 : Int), (241 : Int), (241 : Int), (241 : Int), (241 : Int), (241 : Int), (241 : Int), (241 : Int), (241 : Int), (241 : Int), (241 : Int), (241 : Int), (241 : Int), (241 : Int), (241 : Int), (241 : Int), (241 : Int), (241 : Int), (241 : Int), (241 : Int), (241 : Int), (241 : Int), (241 : Int), (241 : Int), (241 : Int), (241 : Int), (241 : Int), (241 : Int), (241 : Int), (241 : Int), (241 : Int), (241 : Int), (241 : Int), (241 : Int), (241 : Int), (241 : Int), (241 : Int), (241 : Int), (241 : Int), (241 : Int), (241 : Int), (241 : Int), (241 : Int), (241 : Int), (241 : Int), (241 : Int), (241 : Int), (241 : Int), (241 : Int), (241 : Int), (241 : Int), (241 : Int), (241 : Int), (241 : Int), (241 : Int), (241 : Int), (241 : Int), (241 : Int), (241 : Int), (241 : Int), (241 : Int), (241 : Int), (241 : Int), (241 : Int), (241 : Int), (241 : Int), (2 : Int), (2 : Int), (2 : Int), (2 : Int), (2 : Int), (2 : Int), (2 : Int), (2 : Int), (2 : Int), (2 : Int), (2 : Int), (2 : Int), (2 : Int), (2 : Int), (2 : Int), (2 : Int), (2 : Int), (2 : Int), (2 : Int), (2 : Int), (2 : Int), (2 : Int), (2 : Int), (2 : Int), (2 : Int), (2 : Int), (2 : Int), (2 : Int), (2 : Int), (2 : Int), (19 : Int), (3 : Int), (3 : Int), (3 : Int), (3 : Int), (3 : Int), (3 : Int), (3 : Int), (3 : Int), (3 : Int), (3 : Int), (3 : Int), (3 : Int), (35 : Int), (3 : Int), (3 : Int), (52 : Int), (4 : Int), (4 : Int), (4 : Int), (68 : Int), (241 : Int), (241 : Int), (241 : Int), (241 : Int), (241 : Int), (241 : Int), (241 : Int), (241 : Int), (241 : Int), (241 : Int), (241 : Int)]
def tab1 : List unicode_utf8_acceptRange := [(⟨(128 : Int), (191 : Int)⟩ : unicode_utf8_acceptRange), (⟨(160 : Int), (191 : Int)⟩ : unicode_utf8_acceptRange), (⟨(128 : Int), (159 : Int)⟩ : unicode_utf8_acceptRange), (⟨(144 : Int), (191 : Int)⟩ : unicode_utf8_acceptRange), (⟨(128 : Int), (143 : Int)⟩ : unicode_utf8_acceptRange), (⟨(0 : Int), (0 : Int)⟩ : unicode_utf8_acceptRange), (⟨(0 : Int), (0 : Int)⟩ : unicode_utf8_acceptRange), (⟨(0 : Int), (0 : Int)⟩ : unicode_utf8_acceptRange), (⟨(0 : Int), (0 : Int)⟩ : unicode_utf8_acceptRange), (⟨(0 : Int), (0 : Int)⟩ : unicode_utf8_acceptRange), (⟨(0 : Int), (0 : Int)⟩ : unicode_utf8_acceptRange), (⟨(0 : Int), (0 : Int)⟩ : unicode_utf8_acceptRange), (⟨(0 : Int), (0 : Int)⟩ : unicode_utf8_acceptRange), (⟨(0 : Int), (0 : Int)⟩ : unicode_utf8_acceptRange), (⟨(0 : Int), (0 : Int)⟩ : unicode_utf8_acceptRange), (⟨(0 : Int), (0 : Int)⟩ : unicode_utf8_acceptRange)]
def Gl : Glb := [(0, [.int .u8 (.lit 240), .int .u8 (.lit 240), .int .u8 (.lit 240), .int .u8 (.lit 240), .int .u8 (.lit 240), .int .u8 (.lit 240), .int .u8 (.lit 240), .int .u8 (.lit 240), .int .u8 (.lit 240), .int .u8 (.lit 240), .int .u8 (.lit 240), .int .u8 (.lit 240), .int .u8 (.lit 240), .int .u8 (.lit 240), .int .u8 (.lit 240), .int .u8 (.lit 240), .int .u8 (.lit 240), .int .u8 (.lit 240), .int .u8 (.lit 240), .int .u8 (.lit 240), .int .u8 (.lit 240), .int .u8 (.lit 240), .int .u8 (.lit 240), .int .u8 (.lit 240), .int .u8 (.lit 240), .int .u8 (.lit 240), .int .u8 (.lit 240), .int .u8 (.lit 240), .int .u8 (.lit 240), .int .u8 (.lit 240), .int .u8 (.lit 240), .int .u8 (.lit 240), .int .u8 (.lit 240), .int .u8 (.lit 240), .int .u8 (.lit 240), .int .u8 (.lit 240), .int .u8 (.lit 240), .int .u8 (.lit 240), .int .u8 (.lit 240), .int .u8 (.lit 240), .int .u8 (.lit 240), .int .u8 (.lit 240), .int .u8 (.lit 240), .int .u8 (.lit 240), .int .u8 (.lit 240), .int .u8 (.lit 240), .int .u8 (.lit 240), .int .u8 (.lit 240), .int .u8 (.lit 240), .int .u8 (.lit 240), .int .u8 (.lit 240), .int .u8 (.lit 240), .int .u8 (.lit 240), .int .u8 (.lit 240), .int .u8 (.lit 240), .int .u8 (.lit 240), .int .u8 (.lit 240), .int .u8 (.lit 240), .int .u8 (.lit 240), .int .u8 (.lit 240), .int .u8 (.lit 240), .int .u8 (.lit 240), .int .u8 (.lit 240), .int .u8 (.lit 240), .int .u8 (.lit 240), .int .u8 (.lit 240), .int .u8 (.lit 240), .int .u8 (.lit 240), .int .u8 (.lit 240), .int .u8 (.lit 240), .int .u8 (.lit 240), .int .u8 (.lit 240), .int .u8 (.lit 240), .int .u8 (.lit 240), .int .u8 (.lit 240), .int .u8 (.lit 240), .int .u8 (.lit 240), .int .u8 (.lit 240), .int .u8 (.lit 240), .int .u8 (.lit 240), .int .u8 (.lit 240), .int .u8 (.lit 240), .int .u8 (.lit 240), .int .u8 (.lit 240), .int .u8 (.lit 240), .int .u8 (.lit 240), .int .u8 (.lit 240), .int .u8 (.lit 240), .int .u8 (.lit 240), .int .u8 (.lit 240), .int .u8 (.lit 240), .int .u8 (.lit 240), .int .u8 (.lit 240), .int .u8 (.lit 240), .int .u8 (.lit 240), .int .u8 (.lit 240), .int .u8 (.lit 240), .int .u8 (.lit 240), .int .u8 (.lit 240), .int .u8 (.lit 240), .int .u8 (.lit 240), .int .u8 (.lit 240), .int .u8 (.lit 240), .int .u8 (.lit 240), .int .u8 (.lit 240), .int .u8 (.lit 240), .int .u8 (.lit 240), .int .u8 (.lit 240), .int .u8 (.lit 240), .int .u8 (.lit 240), .int .u8 (.lit 240), .int .u8 (.lit 240), .int .u8 (.lit 240), .int .u8 (.lit 240), .int .u8 (.lit 240), .int .u8 (.lit 240), .int .u8 (.lit 240), .int .u8 (.lit 240), .int .u8 (.lit 240), .int .u8 (.lit 240), .int .u8 (.lit 240), .int .u8 (.lit 240), .int .u8 (.lit 240), .int .u8 (.lit 240), .int .u8 (.lit 240), .int .u8 (.lit 240), .int .u8 (.lit 240), .int .u8 (.lit 240), .int .u8 (.lit 241), .int .u8 (.lit 241), .int .u8 (.lit 241), .int .u8 (.lit 241), .int .u8 (.lit 241), .int .u8 (.lit 241), .int .u8 (.lit 241), .int .u8 (.lit 241), .int .u8 (.lit 241), .int .u8 (.lit 241), .int .u8 (.lit 241), .int .u8 (.lit 241), .int .u8 (.lit 241), .int .u8 (.lit 241), .int .u8 (.lit 241), .int .u8 (.lit 241), .int .u8 (.lit 241), .int .u8 (.lit 241), .int .u8 (.lit 241), .int .u8 (.lit 241), .int .u8 (.lit 241), .int .u8 (.lit 241), .int .u8 (.lit 241), .int .u8 (.lit 241), .int .u8 (.lit 241), .int .u8 (.lit 241), .int .u8 (.lit 241), .int .u8 (.lit 241), .int .u8 (.lit 241), .int .u8 (.lit 241), .int .u8 (.lit 241), .int .u8 (.lit 241), .int .u8 (.lit 241), .int .u8 (.lit 241), .int .u8 (.lit 241), .int .u8 (.lit 241), .int .u8 (.lit 241), .int .u8 (.lit 241), .int .u8 (.lit 241), .int .u8 (.lit 241), .int .u8 (.lit 241), .int .u8 (.lit 241), .int .u8 (.lit 241), .int .u8 (.lit 241), .int .u8 (.lit 241), .int .u8 (.lit 241), .int .u8 (.lit 241), .int .u8 (.lit 241), .int .u8 (.lit 241), .int .u8 (.lit 241), .int .u8 (.lit 241), .int .u8 (.lit 241), .int .u8 (.lit 241), .int .u8 (.lit 241), .int .u8 (.lit 241), .int .u8 (.lit 241), .int .u8 (.lit 241), .int .u8 (.lit 241), .int .u8 (.lit 241), .int .u8 (.lit 241), .int .u8 (.lit 241), .int .u8 (.lit 241), .int .u8 (.lit 241), .int .u8 (.lit 241), .int .u8 (.lit 241), .int .u8 (.lit 241), .int .u8 (.lit 2), .int .u8 (.lit 2), .int .u8 (.lit 2), .int .u8 (.lit 2), .int .u8 (.lit 2), .int .u8 (.lit 2), .int .u8 (.lit 2), .int .u8 (.lit 2), .int .u8 (.lit 2), .int .u8 (.lit 2), .int .u8 (.lit 2), .int .u8 (.lit 2), .int .u8 (.lit 2), .int .u8 (.lit 2), .int .u8 (.lit 2), .int .u8 (.lit 2), .int .u8 (.lit 2), .int .u8 (.lit 2), .int .u8 (.lit 2), .int .u8 (.lit 2), .int .u8 (.lit 2), .int .u8 (.lit 2), .int .u8 (.lit 2), .int .u8 (.lit 2), .int .u8 (.lit 2), .int .u8 (.lit 2), .int .u8 (.lit 2), .int .u8 (.lit 2), .int .u8 (.lit 2), .int .u8 (.lit 2), .int .u8 (.lit 19), .int .u8 (.lit 3), .int .u8 (.lit 3), .int .u8 (.lit 3), .int .u8 (.lit 3), .int .u8 (.lit 3), .int .u8 (.lit 3), .int .u8 (.lit 3), .int .u8 (.lit 3), .int .u8 (.lit 3), .int .u8 (.lit 3), .int .u8 (.lit 3), .int .u8 (.lit 3), .int .u8 (.lit 35), .int .u8 (.lit 3), .int .u8 (.lit 3), .int .u8 (.lit 52), .int .u8 (.lit 4), .int .u8 (.lit 4), .int .u8 (.lit 4), .int .u8 (.lit 68), .int .u8 (.lit 241), .int .u8 (.lit 241), .int .u8 (.lit 241), .int .u8 (.lit 241), .int .u8 (.lit 241), .int .u8 (.lit 241), .int .u8 (.lit 241), .int .u8 (.lit 241), .int .u8 (.lit 241), .int .u8 (.lit 241), .int .u8 (.lit 241)]), (1, [.int .u8 (.lit 128), .int .u8 (.lit 191), .int .u8 (.lit 160), .int .u8 (.lit 191), .int .u8 (.lit 128), .int .u8 (.lit 159), .int .u8 (.lit 144), .int .u8 (.lit 191), .int .u8 (.lit 128), .int .u8 (.lit 143), .int .u8 (.lit 0), .int .u8 (.lit 0), .int .u8 (.lit 0), .int .u8 (.lit 0), .int .u8 (.lit 0), .int .u8 (.lit 0), .int .u8 (.lit 0), .int .u8 (.lit 0), .int .u8 (.lit 0), .int .u8 (.lit 0), .int .u8 (.lit 0), .int .u8 (.lit 0), .int .u8 (.lit 0), .int .u8 (.lit 0), .int .u8 (.lit 0), .int .u8 (.lit 0), .int .u8 (.lit 0), .int .u8 (.lit 0), .int .u8 (.lit 0), .int .u8 (.lit 0), .int .u8 (.lit 0), .int .u8 (.lit 0)])]
def jetsamlaw13_short_K1 (y0 : tags_Cue) (j1 : Int) : Option Bool :=
  some (if (if (decide ((y0.L.length : Int) ≤ 110)) = true then (decide (j1 ≤ 400)) else false) = true then (decide ((y0.Catalog.length : Int) ≤ 200)) else false)
def jetsamlaw13_short_L1 (y0 : tags_Cue) (a2 : Int × Int) : Option ((Int × Int) ⊕ Bool) :=
  if (decide (a2.2 < (y0.L.length : Int))) = true then
    (idx y0.L a2.2).bind fun p3 =>
    some (.inl ((W (a2.1 + (p3.L.length : Int))), (W (a2.2 + 1))))
  else
    Option.map .inr <|
    jetsamlaw13_short_K1 y0 a2.1
def jetsamlaw13_short (y0 : tags_Cue) : Option Bool :=
  iter (jetsamlaw13_short_L1 y0) (0, 0)
def unicode_utf8_word_string (y0 : List UInt8) : Option Int :=
  (idx y0 0).bind fun b1 =>
  (idx y0 1).bind fun b2 =>
  (idx y0 2).bind fun b3 =>
  (idx y0 3).bind fun b4 =>
  (idx y0 4).bind fun b5 =>
  (idx y0 5).bind fun b6 =>
  (idx y0 6).bind fun b7 =>
  (idx y0 7).bind fun b8 =>
  some (arD .or .u64 (arD .or .u64 (arD .or .u64 (arD .or .u64 (arD .or .u64 (arD .or .u64 (arD .or .u64 (b1.toNat : Int) (shD .shl .u64 (b2.toNat : Int) 8)) (shD .shl .u64 (b3.toNat : Int) 16)) (shD .shl .u64 (b4.toNat : Int) 24)) (shD .shl .u64 (b5.toNat : Int) 32)) (shD .shl .u64 (b6.toNat : Int) 40)) (shD .shl .u64 (b7.toNat : Int) 48)) (shD .shl .u64 (b8.toNat : Int) 56))
def unicode_utf8_ValidString_K1 (j1 : Unit) : Option Bool :=
  some true
def unicode_utf8_ValidString_K2 (j5 : (List UInt8)) : Option ((List UInt8) ⊕ Bool) :=
  some (.inl j5)
def unicode_utf8_ValidString_K4 (a10 : (List UInt8)) (j11 : Bool) : Option ((List UInt8) ⊕ ((List UInt8) ⊕ Bool)) :=
  if j11 = true then
    (sub a10 32 (a10.length : Int)).bind fun t12 =>
    some (.inl t12)
  else
    Option.map .inr <|
    unicode_utf8_ValidString_K2 a10
def unicode_utf8_ValidString_L2 (a10 : (List UInt8)) : Option ((List UInt8) ⊕ ((List UInt8) ⊕ Bool)) :=
  if (decide ((a10.length : Int) > 32)) = true then
    (sub a10 8 (a10.length : Int)).bind fun t13 =>
    (sub a10 16 (a10.length : Int)).bind fun t14 =>
    (sub a10 24 (a10.length : Int)).bind fun t15 =>
    (unicode_utf8_word_string a10).bind fun r16 =>
    (unicode_utf8_word_string t13).bind fun r17 =>
    (unicode_utf8_word_string t14).bind fun r18 =>
    (unicode_utf8_word_string t15).bind fun r19 =>
    unicode_utf8_ValidString_K4 a10 ((arD .and .u64 (arD .or .u64 (arD .or .u64 r16 r17) (arD .or .u64 r18 r19)) 9259542123273814144) == 0)
  else
    unicode_utf8_ValidString_K4 a10 false
def unicode_utf8_ValidString_K3 (t7 : List UInt8) (j8 : Bool) : Option ((List UInt8) ⊕ Bool) :=
  if j8 = true then
    (sub t7 16 (t7.length : Int)).bind fun t9 =>
    iter unicode_utf8_ValidString_L2 t9
  else
    unicode_utf8_ValidString_K2 t7
def unicode_utf8_ValidString_K5 (a2 : (List UInt8)) (j25 : Bool) : Option ((List UInt8) ⊕ Bool) :=
  if j25 = true then
    Option.map .inr <|
    some false
  else
    (sub a2 2 (a2.length : Int)).bind fun t26 =>
    some (.inl t26)
def unicode_utf8_ValidString_K6 (a2 : (List UInt8)) (j29 : Bool) : Option ((List UInt8) ⊕ Bool) :=
  if j29 = true then
    Option.map .inr <|
    some false
  else
    (sub a2 3 (a2.length : Int)).bind fun t30 =>
    some (.inl t30)
def unicode_utf8_ValidString_K7 (a2 : (List UInt8)) (j35 : Bool) : Option ((List UInt8) ⊕ Bool) :=
  if j35 = true then
    Option.map .inr <|
    some false
  else
    (sub a2 4 (a2.length : Int)).bind fun t36 =>
    some (.inl t36)
def unicode_utf8_ValidString_L1 (a2 : (List UInt8)) : Option ((List UInt8) ⊕ Bool) :=
  if (decide ((a2.length : Int) > 0)) = true then
    (idx a2 0).bind fun b3 =>
    if (decide ((b3.toNat : Int) < 128)) = true then
      (sub a2 1 (a2.length : Int)).bind fun t4 =>
      if (decide ((t4.length : Int) > 8)) = true then
        (unicode_utf8_word_string t4).bind fun r6 =>
        if ((arD .and .u64 r6 9259542123273814144) == 0) = true then
          (sub t4 8 (t4.length : Int)).bind fun t7 =>
          if (decide ((t7.length : Int) > 16)) = true then
            (sub t7 8 (t7.length : Int)).bind fun t20 =>
            (unicode_utf8_word_string t7).bind fun r21 =>
            (unicode_utf8_word_string t20).bind fun r22 =>
            unicode_utf8_ValidString_K3 t7 ((arD .and .u64 (arD .or .u64 r21 r22) 9259542123273814144) == 0)
          else
            unicode_utf8_ValidString_K3 t7 false
        else
          unicode_utf8_ValidString_K2 t4
      else
        unicode_utf8_ValidString_K2 t4
    else
      (idx tab0 (b3.toNat : Int)).bind fun p23 =>
      (idx tab1 (shD .shr .u8 p23 4)).bind fun p24 =>
      if ((arD .and .u8 p23 7) == 2) = true then
        if (decide ((a2.length : Int) < 2)) = true then
          unicode_utf8_ValidString_K5 a2 true
        else
          (idx a2 1).bind fun b27 =>
          if (decide ((b27.toNat : Int) < p24.m_lo)) = true then
            unicode_utf8_ValidString_K5 a2 true
          else
            (idx a2 1).bind fun b28 =>
            unicode_utf8_ValidString_K5 a2 (decide (p24.m_hi < (b28.toNat : Int)))
      else
        if ((arD .and .u8 p23 7) == 3) = true then
          if (decide ((a2.length : Int) < 3)) = true then
            unicode_utf8_ValidString_K6 a2 true
          else
            (idx a2 1).bind fun b31 =>
            if (decide ((b31.toNat : Int) < p24.m_lo)) = true then
              unicode_utf8_ValidString_K6 a2 true
            else
              (idx a2 1).bind fun b32 =>
              if (decide (p24.m_hi < (b32.toNat : Int))) = true then
                unicode_utf8_ValidString_K6 a2 true
              else
                (idx a2 2).bind fun b33 =>
                if (decide ((b33.toNat : Int) < 128)) = true then
                  unicode_utf8_ValidString_K6 a2 true
                else
                  (idx a2 2).bind fun b34 =>
                  unicode_utf8_ValidString_K6 a2 (decide ((191 : Int) < (b34.toNat : Int)))
        else
          if ((arD .and .u8 p23 7) == 4) = true then
            if (decide ((a2.length : Int) < 4)) = true then
              unicode_utf8_ValidString_K7 a2 true
            else
              (idx a2 1).bind fun b37 =>
              if (decide ((b37.toNat : Int) < p24.m_lo)) = true then
                unicode_utf8_ValidString_K7 a2 true
              else
                (idx a2 1).bind fun b38 =>
                if (decide (p24.m_hi < (b38.toNat : Int))) = true then
                  unicode_utf8_ValidString_K7 a2 true
                else
                  (idx a2 2).bind fun b39 =>
                  if (decide ((b39.toNat : Int) < 128)) = true then
                    unicode_utf8_ValidString_K7 a2 true
                  else
                    (idx a2 2).bind fun b40 =>
                    if (decide ((191 : Int) < (b40.toNat : Int))) = true then
                      unicode_utf8_ValidString_K7 a2 true
                    else
                      (idx a2 3).bind fun b41 =>
                      if (decide ((b41.toNat : Int) < 128)) = true then
                        unicode_utf8_ValidString_K7 a2 true
                      else
                        (idx a2 3).bind fun b42 =>
                        unicode_utf8_ValidString_K7 a2 (decide ((191 : Int) < (b42.toNat : Int)))
          else
            Option.map .inr <|
            some false
  else
    Option.map .inr <|
    unicode_utf8_ValidString_K1 ()
def unicode_utf8_ValidString (y0 : List UInt8) : Option Bool :=
  iter unicode_utf8_ValidString_L1 y0
def slices_IndexFunc_sstring_string_K1 (j1 : Unit) : Option Int :=
  some ((-1) : Int)
def slices_IndexFunc_sstring_string_L1 (y0 : List (List UInt8)) (g1 : (List UInt8) → Option Bool) (a2 : Int) : Option (Int ⊕ Int) :=
  if (decide (a2 < (y0.length : Int))) = true then
    (idx y0 a2).bind fun p3 =>
    (g1 p3).bind fun r4 =>
    if r4 = true then
      Option.map .inr <|
      some a2
    else
      some (.inl (W (a2 + 1)))
  else
    Option.map .inr <|
    slices_IndexFunc_sstring_string_K1 ()
def slices_IndexFunc_sstring_string (y0 : List (List UInt8)) (g1 : (List UInt8) → Option Bool) : Option Int :=
  iter (slices_IndexFunc_sstring_string_L1 y0 g1) 0
def slices_ContainsFunc_sstring_string (y0 : List (List UInt8)) (g1 : (List UInt8) → Option Bool) : Option Bool :=
  (slices_IndexFunc_sstring_string y0 g1).bind fun r1 =>
  some (decide (r1 ≥ 0))
def internal_stringslite_Index (y0 : List UInt8) (y1 : List UInt8) : Option Int :=
  if (if ((y1.length : Int) == 0) = true then true else (y1 == y0)) = true then
    some (0 : Int)
  else
    if ((y1.length : Int) == 1) = true then
      (idx y1 0).bind fun b1 =>
      (indexByteF y0 (b1.toNat : Int)).bind fun r2 =>
      some r2
    else
      if (decide ((y1.length : Int) ≥ (y0.length : Int))) = true then
        some ((-1) : Int)
      else
        none
def internal_stringslite_Cut (y0 : List UInt8) (y1 : List UInt8) : Option ((List UInt8) × (List UInt8) × Bool) :=
  (internal_stringslite_Index y0 y1).bind fun r1 =>
  if (decide (r1 ≥ 0)) = true then
    (sub y0 0 r1).bind fun t2 =>
    (sub y0 (W (r1 + (y1.length : Int))) (y0.length : Int)).bind fun t3 =>
    some (t2, t3, true)
  else
    some (y0, [], false)
def strings_Cut (y0 : List UInt8) (y1 : List UInt8) : Option ((List UInt8) × (List UInt8) × Bool) :=
  (internal_stringslite_Cut y0 y1).bind fun r1 =>
  some (r1.1, r1.2.1, r1.2.2)
def tags_letters_c1 (y0 : Int) (y1 : Int) (y2 : Int) : Option Unit :=
  some ()
def slices_IndexFunc_sbyte_byte_K1 (j1 : Unit) : Option Int :=
  some (-1)
def slices_IndexFunc_sbyte_byte_L1 (y0 : List Int) (y1 : Int) (y2 : Int) (a2 : Int) : Option (Int ⊕ Int) :=
  if (decide (a2 < (y0.length : Int))) = true then
    (idx y0 a2).bind fun p3 =>
    (tags_letters_c1 p3 y1 y2).bind fun r4 =>
    if (if (decide (p3 < y1)) = true then true else (decide (p3 > y2))) = true then
      Option.map .inr <|
      some a2
    else
      some (.inl (W (a2 + 1)))
  else
    Option.map .inr <|
    slices_IndexFunc_sbyte_byte_K1 ()
def slices_IndexFunc_sbyte_byte (y0 : List Int) (y1 : Int) (y2 : Int) : Option Int :=
  iter (slices_IndexFunc_sbyte_byte_L1 y0 y1 y2) 0
def slices_ContainsFunc_sbyte_byte (y0 : List Int) (y1 : Int) (y2 : Int) : Option Bool :=
  (slices_IndexFunc_sbyte_byte y0 y1 y2).bind fun r1 =>
  some (decide (r1 ≥ 0))
def tags_letters (y0 : List UInt8) (y1 : Int) (y2 : Int) : Option Bool :=
  (slices_ContainsFunc_sbyte_byte (bytesI y0) y1 y2).bind fun r2 =>
  some (!r2)
def tags_comment (y0 : List UInt8) : Option Bool :=
  (strings_Cut y0 [61]).bind fun r1 =>
  if (if r1.2.2 = true then (!(r1.1 == [])) else false) = true then
    (tags_letters r1.1 (32 : Int) (125 : Int)).bind fun r2 =>
    if r2 = true then
      (unicode_utf8_ValidString y0).bind fun r3 =>
      some r3
    else
      some false
  else
    some false
def tags_Comments_Write_c1 (y0 : List UInt8) : Option Bool :=
  (tags_comment y0).bind fun r1 =>
  some (!r1)
def tags_low (y0 : Int) : Option (List Int) :=
  some [(IntKind.u8.wrap y0), (IntKind.u8.wrap (shD .shr .i64 y0 8)), (IntKind.u8.wrap (shD .shr .i64 y0 16)), (IntKind.u8.wrap (shD .shr .i64 y0 24))]
def slices_Concat_sbyte_byte_K2 (j3 : (List Int)) : Option (List Int) :=
  some j3
def slices_Concat_sbyte_byte_L1 (y0 : List (List Int)) (a4 : Int × (List Int)) : Option ((Int × (List Int)) ⊕ (List Int)) :=
  if (decide (a4.1 < (y0.length : Int))) = true then
    (idx y0 a4.1).bind fun p5 =>
    (app 1 a4.2 p5).bind fun l6 =>
    some (.inl ((W (a4.1 + 1)), l6))
  else
    Option.map .inr <|
    slices_Concat_sbyte_byte_K2 a4.2
def slices_Concat_sbyte_byte_K1 (y0 : List (List Int)) (j1 : Int) : Option (List Int) :=
  (growF j1).bind fun r2 =>
  iter (slices_Concat_sbyte_byte_L1 y0) (0, r2)
def slices_Concat_sbyte_byte_L2 (y0 : List (List Int)) (a7 : Int × Int) : Option ((Int × Int) ⊕ (List Int)) :=
  if (decide (a7.2 < (y0.length : Int))) = true then
    (idx y0 a7.2).bind fun p8 =>
    if (decide ((W (a7.1 + (p8.length : Int))) < 0)) = true then
      none
    else
      some (.inl ((W (a7.1 + (p8.length : Int))), (W (a7.2 + 1))))
  else
    Option.map .inr <|
    slices_Concat_sbyte_byte_K1 y0 a7.1
def slices_Concat_sbyte_byte (y0 : List (List Int)) : Option (List Int) :=
  iter (slices_Concat_sbyte_byte_L2 y0) (0, 0)
def tags_full (y0 : List Int) : Option ((List Int) × Int) :=
  if (decide ((y0.length : Int) > 16777215)) = true then
    some (([] : List Int), (21 : Int))
  else
    some (y0, (0 : Int))
def tags_Comments_Write_K2 (j4 : (List Int)) : Option ((List Int) × Int) :=
  (tags_full j4).bind fun r5 =>
  some (r5.1, r5.2)
def tags_Comments_Write_L1 (y0 : tags_Comments) (a6 : Int × (List Int)) : Option ((Int × (List Int)) ⊕ ((List Int) × Int)) :=
  if (decide (a6.1 < (y0.L.length : Int))) = true then
    (idx y0.L a6.1).bind fun p7 =>
    (tags_low (p7.length : Int)).bind fun r8 =>
    (app 1 a6.2 r8).bind fun l9 =>
    (app 1 l9 (bytesI p7)).bind fun l10 =>
    some (.inl ((W (a6.1 + 1)), l10))
  else
    Option.map .inr <|
    tags_Comments_Write_K2 a6.2
def tags_Comments_Write_K1 (y0 : tags_Comments) (j3 : (List Int)) : Option ((List Int) × Int) :=
  iter (tags_Comments_Write_L1 y0) (0, j3)
def tags_Comments_Write (y0 : tags_Comments) : Option ((List Int) × Int) :=
  (unicode_utf8_ValidString y0.Vendor).bind fun r1 =>
  if (!r1) = true then
    some (([] : List Int), (12 : Int))
  else
    (slices_ContainsFunc_sstring_string y0.L tags_Comments_Write_c1).bind fun r2 =>
    if r2 = true then
      some (([] : List Int), (12 : Int))
    else
      (tags_low (y0.Vendor.length : Int)).bind fun r11 =>
      (tags_low (y0.L.length : Int)).bind fun r13 =>
      (slices_Concat_sbyte_byte [r11, (bytesI y0.Vendor), r13]).bind fun r14 =>
      tags_Comments_Write_K1 y0 r14
def jetsamlaw11_Bytes_K1 (j1 : Unit) : Option Bool :=
  some true
def jetsamlaw11_Bytes_L1 (y0 : List Int) (y1 : List Int) (a2 : Int) : Option (Int ⊕ Bool) :=
  if (decide (a2 < (y0.length : Int))) = true then
    (idx y0 a2).bind fun p3 =>
    (idx y1 a2).bind fun p4 =>
    if (p3 != p4) = true then
      Option.map .inr <|
      some false
    else
      some (.inl (W (a2 + 1)))
  else
    Option.map .inr <|
    jetsamlaw11_Bytes_K1 ()
def jetsamlaw11_Bytes (y0 : List Int) (y1 : List Int) : Option Bool :=
  if ((y0.length : Int) != (y1.length : Int)) = true then
    some false
  else
    iter (jetsamlaw11_Bytes_L1 y0 y1) 0
def tags_small_c1 (y0 : Int) : Option Int :=
  if (if (decide (y0 ≥ 65)) = true then (decide (y0 ≤ 90)) else false) = true then
    some (IntKind.i32.wrap ((IntKind.i32.wrap (y0 + 97)) - 65))
  else
    some y0
def tags_small (y0 : List UInt8) : Option (List UInt8) :=
  (mapSmallF tags_small_c1 y0).bind fun r1 =>
  some r1
def tags_Comments_Get_K1 (j1 : (List (List UInt8))) : Option (List (List UInt8)) :=
  some j1
def tags_Comments_Get_K2 (a2 : Int × (List (List UInt8))) (j3 : (List (List UInt8))) : Option ((Int × (List (List UInt8))) ⊕ (List (List UInt8))) :=
  some (.inl ((W (a2.1 + 1)), j3))
def tags_Comments_Get_L1 (y0 : tags_Comments) (y1 : List UInt8) (a2 : Int × (List (List UInt8))) : Option ((Int × (List (List UInt8))) ⊕ (List (List UInt8))) :=
  if (decide (a2.1 < (y0.L.length : Int))) = true then
    (idx y0.L a2.1).bind fun p4 =>
    (strings_Cut p4 [61]).bind fun r5 =>
    if r5.2.2 = true then
      (tags_small r5.1).bind fun r6 =>
      (tags_small y1).bind fun r7 =>
      if (r6 == r7) = true then
        (app 16 a2.2 [r5.2.1]).bind fun l8 =>
        tags_Comments_Get_K2 a2 l8
      else
        tags_Comments_Get_K2 a2 a2.2
    else
      tags_Comments_Get_K2 a2 a2.2
  else
    Option.map .inr <|
    tags_Comments_Get_K1 a2.2
def tags_Comments_Get (y0 : tags_Comments) (y1 : List UInt8) : Option (List (List UInt8)) :=
  iter (tags_Comments_Get_L1 y0 y1) (0, [])
def jetsamlaw13_texts_K1 (j1 : Unit) : Option Bool :=
  some true
def jetsamlaw13_texts_L1 (y0 : List (List UInt8)) (y1 : List (List UInt8)) (a2 : Int) : Option (Int ⊕ Bool) :=
  if (decide (a2 < (y0.length : Int))) = true then
    (idx y0 a2).bind fun p3 =>
    (idx y1 a2).bind fun p4 =>
    if (!(p3 == p4)) = true then
      Option.map .inr <|
      some false
    else
      some (.inl (W (a2 + 1)))
  else
    Option.map .inr <|
    jetsamlaw13_texts_K1 ()
def jetsamlaw13_texts (y0 : List (List UInt8)) (y1 : List (List UInt8)) : Option Bool :=
  if ((y0.length : Int) != (y1.length : Int)) = true then
    some false
  else
    iter (jetsamlaw13_texts_L1 y0 y1) 0
def jetsamlaw13_awake : Option Bool :=
  (tags_Comments_Write (⟨[120], [[65, 61, 98]]⟩ : tags_Comments)).bind fun r1 =>
  if (r1.2 == 0) = true then
    (jetsamlaw11_Bytes r1.1 [(1 : Int), (0 : Int), (0 : Int), (0 : Int), (120 : Int), (1 : Int), (0 : Int), (0 : Int), (0 : Int), (3 : Int), (0 : Int), (0 : Int), (0 : Int), (65 : Int), (61 : Int), (98 : Int)]).bind fun r2 =>
    if r2 = true then
      (tags_Comments_Get (⟨[120], [[65, 61, 98]]⟩ : tags_Comments) [97]).bind fun r3 =>
      (jetsamlaw13_texts r3 [[98]]).bind fun r4 =>
      some r4
    else
      some false
  else
    some false
def jetsamlaw13_plain_K1 (j1 : (List jetsamref13_Track)) : Option (List jetsamref13_Track) :=
  some j1
def jetsamlaw13_plain_K2 (a2 : Int × (List jetsamref13_Track)) (j3 : (List jetsamref13_Track)) : Option ((Int × (List jetsamref13_Track)) ⊕ (List jetsamref13_Track)) :=
  some (.inl ((W (a2.1 + 1)), j3))
def jetsamlaw13_plain_K5 (a2 : Int × (List jetsamref13_Track)) (p4 : tags_Track) (j6 : Int) (j7 : (List (Arr2 Int))) : Option ((Int × (List jetsamref13_Track)) ⊕ (List jetsamref13_Track)) :=
  (app 64 a2.2 [(⟨p4.Offset, p4.Number, j6, p4.Code, j7⟩ : jetsamref13_Track)]).bind fun l8 =>
  jetsamlaw13_plain_K2 a2 l8
def jetsamlaw13_plain_L2 (a2 : Int × (List jetsamref13_Track)) (p4 : tags_Track) (j6 : Int) (a9 : Int × (List (Arr2 Int))) : Option ((Int × (List (Arr2 Int))) ⊕ ((Int × (List jetsamref13_Track)) ⊕ (List jetsamref13_Track))) :=
  if (decide (a9.1 < (p4.L.length : Int))) = true then
    (idx p4.L a9.1).bind fun p10 =>
    (idx p4.L a9.1).bind fun p11 =>
    (app 16 a9.2 [(⟨p10.Offset, p11.Number⟩ : Arr2 Int)]).bind fun l12 =>
    some (.inl ((W (a9.1 + 1)), l12))
  else
    Option.map .inr <|
    jetsamlaw13_plain_K5 a2 p4 j6 a9.2
def jetsamlaw13_plain_K4 (a2 : Int × (List jetsamref13_Track)) (p4 : tags_Track) (j6 : Int) : Option ((Int × (List jetsamref13_Track)) ⊕ (List jetsamref13_Track)) :=
  iter (jetsamlaw13_plain_L2 a2 p4 j6) (0, [])
def jetsamlaw13_plain_K3 (a2 : Int × (List jetsamref13_Track)) (p4 : tags_Track) (j5 : Int) : Option ((Int × (List jetsamref13_Track)) ⊕ (List jetsamref13_Track)) :=
  if p4.Pre = true then
    jetsamlaw13_plain_K4 a2 p4 (W (j5 + 64))
  else
    jetsamlaw13_plain_K4 a2 p4 j5
def jetsamlaw13_plain_L1 (y0 : tags_Cue) (a2 : Int × (List jetsamref13_Track)) : Option ((Int × (List jetsamref13_Track)) ⊕ (List jetsamref13_Track)) :=
  if (decide (a2.1 < (y0.L.length : Int))) = true then
    (idx y0.L a2.1).bind fun p4 =>
    if p4.Data = true then
      jetsamlaw13_plain_K3 a2 p4 128
    else
      jetsamlaw13_plain_K3 a2 p4 0
  else
    Option.map .inr <|
    jetsamlaw13_plain_K1 a2.2
def jetsamlaw13_plain (y0 : tags_Cue) : Option (List jetsamref13_Track) :=
  iter (jetsamlaw13_plain_L1 y0) (0, [])
def tags_within_c1 (y0 : Int) (y1 : Int) (y2 : Int) : Option Unit :=
  some ()
def slices_IndexFunc_sint_int_K1 (j1 : Unit) : Option Int :=
  some (-1)
def slices_IndexFunc_sint_int_L1 (y0 : List Int) (y1 : Int) (y2 : Int) (a2 : Int) : Option (Int ⊕ Int) :=
  if (decide (a2 < (y0.length : Int))) = true then
    (idx y0 a2).bind fun p3 =>
    (tags_within_c1 p3 y1 y2).bind fun r4 =>
    if (if (decide (p3 < y1)) = true then true else (decide (p3 > y2))) = true then
      Option.map .inr <|
      some a2
    else
      some (.inl (W (a2 + 1)))
  else
    Option.map .inr <|
    slices_IndexFunc_sint_int_K1 ()
def slices_IndexFunc_sint_int (y0 : List Int) (y1 : Int) (y2 : Int) : Option Int :=
  iter (slices_IndexFunc_sint_int_L1 y0 y1 y2) 0
def slices_ContainsFunc_sint_int (y0 : List Int) (y1 : Int) (y2 : Int) : Option Bool :=
  (slices_IndexFunc_sint_int y0 y1 y2).bind fun r1 =>
  some (decide (r1 ≥ 0))
def tags_within (y0 : Int) (y1 : Int) (y2 : List Int) : Option Bool :=
  (slices_ContainsFunc_sint_int y2 y0 y1).bind fun r1 =>
  some (!r1)
def slices_IndexFunc_stags_Index_tags_Index_K1 (j1 : Unit) : Option Int :=
  some ((-1) : Int)
def slices_IndexFunc_stags_Index_tags_Index_L1 (y0 : List tags_Index) (g1 : tags_Index → Option Bool) (a2 : Int) : Option (Int ⊕ Int) :=
  if (decide (a2 < (y0.length : Int))) = true then
    (idx y0 a2).bind fun p3 =>
    (g1 p3).bind fun r4 =>
    if r4 = true then
      Option.map .inr <|
      some a2
    else
      some (.inl (W (a2 + 1)))
  else
    Option.map .inr <|
    slices_IndexFunc_stags_Index_tags_Index_K1 ()
def slices_IndexFunc_stags_Index_tags_Index (y0 : List tags_Index) (g1 : tags_Index → Option Bool) : Option Int :=
  iter (slices_IndexFunc_stags_Index_tags_Index_L1 y0 g1) 0
def slices_ContainsFunc_stags_Index_tags_Index (y0 : List tags_Index) (g1 : tags_Index → Option Bool) : Option Bool :=
  (slices_IndexFunc_stags_Index_tags_Index y0 g1).bind fun r1 =>
  some (decide (r1 ≥ 0))
def tags_Track_numbers_c1 (y0 : tags_Index) : Option Bool :=
  if (decide (y0.Offset < 0)) = true then
    some true
  else
    (tags_within (0 : Int) (255 : Int) [y0.Number]).bind fun r1 =>
    some (!r1)
def tags_Track_numbers_K1 (y0 : tags_Track) (j1 : Int × Int) : Option Bool :=
  (tags_within (0 : Int) (9223372036854775807 : Int) [y0.Offset]).bind fun r2 =>
  if (!r2) = true then
    some false
  else
    (tags_within (1 : Int) (255 : Int) [y0.Number]).bind fun r3 =>
    if (!r3) = true then
      some false
    else
      (tags_within j1.1 j1.2 [(y0.L.length : Int)]).bind fun r4 =>
      if (!r4) = true then
        some false
      else
        (slices_ContainsFunc_stags_Index_tags_Index y0.L tags_Track_numbers_c1).bind fun r5 =>
        some (!r5)
def tags_Track_numbers (y0 : tags_Track) (y1 : Bool) : Option Bool :=
  if y1 = true then
    tags_Track_numbers_K1 y0 (0, 0)
  else
    tags_Track_numbers_K1 y0 (1, 100)
def slices_IndexFunc_sbyte_byte_x2_K1 (j1 : Unit) : Option Int :=
  some ((-1) : Int)
def slices_IndexFunc_sbyte_byte_x2_L1 (y0 : List Int) (g1 : Int → Option Bool) (a2 : Int) : Option (Int ⊕ Int) :=
  if (decide (a2 < (y0.length : Int))) = true then
    (idx y0 a2).bind fun p3 =>
    (g1 p3).bind fun r4 =>
    if r4 = true then
      Option.map .inr <|
      some a2
    else
      some (.inl (W (a2 + 1)))
  else
    Option.map .inr <|
    slices_IndexFunc_sbyte_byte_x2_K1 ()
def slices_IndexFunc_sbyte_byte_x2 (y0 : List Int) (g1 : Int → Option Bool) : Option Int :=
  iter (slices_IndexFunc_sbyte_byte_x2_L1 y0 g1) 0
def slices_ContainsFunc_sbyte_byte_x2 (y0 : List Int) (g1 : Int → Option Bool) : Option Bool :=
  (slices_IndexFunc_sbyte_byte_x2 y0 g1).bind fun r1 =>
  some (decide (r1 ≥ 0))
def tags_code_c1 (y0 : Int) : Option Bool :=
  some (if (if (decide (y0 < 48)) = true then true else (decide (y0 > 57))) = true then (if (decide (y0 < 65)) = true then true else (decide (y0 > 90))) else false)
def tags_code (y0 : List UInt8) : Option Bool :=
  if (y0 == []) = true then
    some true
  else
    if ((y0.length : Int) == 12) = true then
      (slices_ContainsFunc_sbyte_byte_x2 (bytesI y0) tags_code_c1).bind fun r2 =>
      some (!r2)
    else
      some false
def tags_Cue_check_K2 (y0 : tags_Cue) (j2 : Bool × Bool × (List (Int × Bool))) : Option Int :=
  if (!j2.1) = true then
    some (10 : Int)
  else
    if (!j2.2.1) = true then
      some (12 : Int)
    else
      if (decide ((j2.2.2.length : Int) < (y0.L.length : Int))) = true then
        some (19 : Int)
      else
        some (0 : Int)
def tags_Cue_check_K4 (a3 : Bool × Bool × Int × (List (Int × Bool))) (p4 : tags_Track) (j5 : Bool) (j6 : Bool) : Option ((Bool × Bool × Int × (List (Int × Bool))) ⊕ Int) :=
  (mputq a3.2.2.2 p4.Number true).bind fun l7 =>
  some (.inl (j5, j6, (W (a3.2.2.1 + 1)), l7))
def tags_Cue_check_K3 (a3 : Bool × Bool × Int × (List (Int × Bool))) (p4 : tags_Track) (j5 : Bool) : Option ((Bool × Bool × Int × (List (Int × Bool))) ⊕ Int) :=
  if a3.2.1 = true then
    (tags_code p4.Code).bind fun r8 =>
    tags_Cue_check_K4 a3 p4 j5 r8
  else
    tags_Cue_check_K4 a3 p4 j5 false
def tags_Cue_check_L1 (y0 : tags_Cue) (a3 : Bool × Bool × Int × (List (Int × Bool))) : Option ((Bool × Bool × Int × (List (Int × Bool))) ⊕ Int) :=
  if (decide (a3.2.2.1 < (y0.L.length : Int))) = true then
    (idx y0.L a3.2.2.1).bind fun p4 =>
    if a3.1 = true then
      (tags_Track_numbers p4 (a3.2.2.1 == (W ((y0.L.length : Int) - 1)))).bind fun r9 =>
      tags_Cue_check_K3 a3 p4 r9
    else
      tags_Cue_check_K3 a3 p4 false
  else
    Option.map .inr <|
    tags_Cue_check_K2 y0 (a3.1, a3.2.1, a3.2.2.2)
def tags_Cue_check_K1 (y0 : tags_Cue) (j1 : Bool) : Option Int :=
  iter (tags_Cue_check_L1 y0) ((if (decide ((y0.L.length : Int) ≤ 100)) = true then (decide (y0.Lead ≥ 0)) else false), j1, 0, ([] : List (Int × Bool)))
def tags_Cue_check (y0 : tags_Cue) : Option Int :=
  if ((y0.L.length : Int) == 0) = true then
    some (20 : Int)
  else
    if (decide ((y0.Catalog.length : Int) ≤ 128)) = true then
      (tags_letters y0.Catalog (32 : Int) (126 : Int)).bind fun r10 =>
      tags_Cue_check_K1 y0 r10
    else
      tags_Cue_check_K1 y0 false
def tags_padding (y0 : List UInt8) (y1 : Int) : Option (List Int) :=
  (mks 1 y1 (0 : Int)).bind fun l1 =>
  (cpq l1 0 (l1.length : Int) (bytesI y0)).bind fun c2 =>
  if decide (0 < c2.2) = true then
    some c2.1
  else
    some l1
def tags_high_K1 (j2 : (List Int)) : Option (List Int) :=
  some j2
def tags_high_L1 (y0 : Int) (y1 : Int) (l1 : List Int) (a3 : Int × (List Int)) : Option ((Int × (List Int)) ⊕ (List Int)) :=
  if (decide (a3.1 < (l1.length : Int))) = true then
    need (decide ((W (8 * a3.1)) ≥ 0)) <|
    need (decide ((W ((W (y1 - 1)) - a3.1)) ≥ 0)) <|
    need (decide ((W ((W (y1 - 1)) - a3.1)) < (a3.2.length : Int))) <|
    (upd a3.2 (W ((W (y1 - 1)) - a3.1)) (IntKind.u8.wrap (shD .shr .i64 y0 (W (8 * a3.1))))).bind fun l4 =>
    some (.inl ((W (a3.1 + 1)), l4))
  else
    Option.map .inr <|
    tags_high_K1 a3.2
def tags_high (y0 : Int) (y1 : Int) : Option (List Int) :=
  (mks 1 y1 (0 : Int)).bind fun l1 =>
  iter (tags_high_L1 y0 y1 l1) (0, l1)
def tags_bit (y0 : Bool) (y1 : Int) : Option Int :=
  if y0 = true then
    some y1
  else
    some (0 : Int)
def tags_Cue_Write_K2 (j3 : (List Int)) : Option ((List Int) × Int) :=
  some (j3, (0 : Int))
def tags_Cue_Write_K3 (a4 : (List Int) × Int) (j5 : (List Int)) : Option (((List Int) × Int) ⊕ ((List Int) × Int)) :=
  some (.inl (j5, (W (a4.2 + 1))))
def tags_Cue_Write_L2 (a4 : (List Int) × Int) (p6 : tags_Track) (a8 : (List Int) × Int) : Option (((List Int) × Int) ⊕ (((List Int) × Int) ⊕ ((List Int) × Int))) :=
  if (decide (a8.2 < (p6.L.length : Int))) = true then
    (idx p6.L a8.2).bind fun p9 =>
    (tags_high p9.Offset (8 : Int)).bind fun r10 =>
    (tags_high p9.Number (1 : Int)).bind fun r11 =>
    (slices_Concat_sbyte_byte [a8.1, r10, r11, (List.replicate 3 (0 : Int))]).bind fun r13 =>
    some (.inl (r13, (W (a8.2 + 1))))
  else
    Option.map .inr <|
    tags_Cue_Write_K3 a4 a8.1
def tags_Cue_Write_K4 (a4 : (List Int) × Int) (p6 : tags_Track) (j7 : (List Int)) : Option (((List Int) × Int) ⊕ ((List Int) × Int)) :=
  iter (tags_Cue_Write_L2 a4 p6) (j7, 0)
def tags_Cue_Write_L1 (y0 : tags_Cue) (a4 : (List Int) × Int) : Option (((List Int) × Int) ⊕ ((List Int) × Int)) :=
  if (decide (a4.2 < (y0.L.length : Int))) = true then
    (idx y0.L a4.2).bind fun p6 =>
    (tags_high p6.Offset (8 : Int)).bind fun r21 =>
    (tags_high p6.Number (1 : Int)).bind fun r22 =>
    (tags_padding p6.Code (12 : Int)).bind fun r23 =>
    (tags_bit p6.Data (128 : Int)).bind fun r24 =>
    (tags_bit p6.Pre (64 : Int)).bind fun r25 =>
    (tags_high (W (r24 + r25)) (1 : Int)).bind fun r26 =>
    (tags_high (p6.L.length : Int) (1 : Int)).bind fun r28 =>
    (slices_Concat_sbyte_byte [a4.1, r21, r22, r23, r26, (List.replicate 13 (0 : Int)), r28]).bind fun r29 =>
    tags_Cue_Write_K4 a4 p6 r29
  else
    Option.map .inr <|
    tags_Cue_Write_K2 a4.1
def tags_Cue_Write_K1 (y0 : tags_Cue) (j2 : (List Int)) : Option ((List Int) × Int) :=
  iter (tags_Cue_Write_L1 y0) (j2, 0)
def tags_Cue_Write (y0 : tags_Cue) : Option ((List Int) × Int) :=
  (tags_Cue_check y0).bind fun r1 =>
  if (r1 != 0) = true then
    some (([] : List Int), r1)
  else
    (tags_padding y0.Catalog (128 : Int)).bind fun r72 =>
    (tags_high y0.Lead (8 : Int)).bind fun r73 =>
    (tags_bit y0.Disc (128 : Int)).bind fun r74 =>
    (tags_high r74 (1 : Int)).bind fun r75 =>
    (tags_high (y0.L.length : Int) (1 : Int)).bind fun r77 =>
    (slices_Concat_sbyte_byte [r72, r73, r75, (List.replicate 258 (0 : Int)), r77]).bind fun r78 =>
    tags_Cue_Write_K1 y0 r78
def jetsamref13_code_K1 (y0 : List UInt8) (j1 : Unit) : Option Bool :=
  some (if ((y0.length : Int) == 0) = true then true else ((y0.length : Int) == 12))
def jetsamref13_code_L1 (y0 : List UInt8) (a2 : Int) : Option (Int ⊕ Bool) :=
  if (decide (a2 < (y0.length : Int))) = true then
    (idx y0 a2).bind fun b3 =>
    if (decide ((b3.toNat : Int) < 48)) = true then
      (idx y0 a2).bind fun b4 =>
      if (decide ((b4.toNat : Int) < 65)) = true then
        Option.map .inr <|
        some false
      else
        (idx y0 a2).bind fun b5 =>
        if (decide ((b5.toNat : Int) > 90)) = true then
          Option.map .inr <|
          some false
        else
          some (.inl (W (a2 + 1)))
    else
      (idx y0 a2).bind fun b6 =>
      if (decide ((b6.toNat : Int) > 57)) = true then
        (idx y0 a2).bind fun b7 =>
        if (decide ((b7.toNat : Int) < 65)) = true then
          Option.map .inr <|
          some false
        else
          (idx y0 a2).bind fun b8 =>
          if (decide ((b8.toNat : Int) > 90)) = true then
            Option.map .inr <|
            some false
          else
            some (.inl (W (a2 + 1)))
      else
        some (.inl (W (a2 + 1)))
  else
    Option.map .inr <|
    jetsamref13_code_K1 y0 ()
def jetsamref13_code (y0 : List UInt8) : Option Bool :=
  iter (jetsamref13_code_L1 y0) 0
def jetsamref13_Wrong_K2 (j2 : Bool × Bool × Bool) : Option Int :=
  if (!j2.1) = true then
    some (10 : Int)
  else
    if (!j2.2.1) = true then
      some (12 : Int)
    else
      if j2.2.2 = true then
        some (19 : Int)
      else
        some (0 : Int)
def jetsamref13_Wrong_K3 (a3 : Bool × Bool × Bool × Int) (j4 : Bool × Bool × Bool) : Option ((Bool × Bool × Bool × Int) ⊕ Int) :=
  some (.inl (j4.1, j4.2.1, j4.2.2, (W (a3.2.2.2 + 1))))
def jetsamref13_Wrong_L2 (y2 : List jetsamref13_Track) (a3 : Bool × Bool × Bool × Int) (p5 : jetsamref13_Track) (j7 : Bool) (j8 : Bool) (a9 : Bool × Int) : Option ((Bool × Int) ⊕ ((Bool × Bool × Bool × Int) ⊕ Int)) :=
  if (decide (a9.2 < a3.2.2.2)) = true then
    if a9.1 = true then
      some (.inl (true, (W (a9.2 + 1))))
    else
      (idx y2 a9.2).bind fun p10 =>
      some (.inl ((p10.Number == p5.Number), (W (a9.2 + 1))))
  else
    Option.map .inr <|
    jetsamref13_Wrong_K3 a3 (j7, j8, a9.1)
def jetsamref13_Wrong_K6 (y2 : List jetsamref13_Track) (a3 : Bool × Bool × Bool × Int) (p5 : jetsamref13_Track) (j7 : Bool) (j8 : Bool) : Option ((Bool × Bool × Bool × Int) ⊕ Int) :=
  iter (jetsamref13_Wrong_L2 y2 a3 p5 j7 j8) (a3.2.2.1, 0)
def jetsamref13_Wrong_K5 (y2 : List jetsamref13_Track) (a3 : Bool × Bool × Bool × Int) (p5 : jetsamref13_Track) (j7 : Bool) : Option ((Bool × Bool × Bool × Int) ⊕ Int) :=
  if a3.2.1 = true then
    (jetsamref13_code p5.Code).bind fun r11 =>
    jetsamref13_Wrong_K6 y2 a3 p5 j7 r11
  else
    jetsamref13_Wrong_K6 y2 a3 p5 j7 false
def jetsamref13_Wrong_L3 (y2 : List jetsamref13_Track) (a3 : Bool × Bool × Bool × Int) (p5 : jetsamref13_Track) (a12 : Bool × Int) : Option ((Bool × Int) ⊕ ((Bool × Bool × Bool × Int) ⊕ Int)) :=
  if (decide (a12.2 < (p5.L.length : Int))) = true then
    if a12.1 = true then
      (idx p5.L a12.2).bind fun p13 =>
      if (decide (p13.a0 ≥ 0)) = true then
        (idx p5.L a12.2).bind fun p14 =>
        if (decide (p14.a1 ≥ 0)) = true then
          (idx p5.L a12.2).bind fun p15 =>
          some (.inl ((decide (p15.a1 ≤ 255)), (W (a12.2 + 1))))
        else
          some (.inl (false, (W (a12.2 + 1))))
      else
        some (.inl (false, (W (a12.2 + 1))))
    else
      some (.inl (false, (W (a12.2 + 1))))
  else
    Option.map .inr <|
    jetsamref13_Wrong_K5 y2 a3 p5 a12.1
def jetsamref13_Wrong_K4 (y2 : List jetsamref13_Track) (a3 : Bool × Bool × Bool × Int) (p5 : jetsamref13_Track) (j6 : Bool) : Option ((Bool × Bool × Bool × Int) ⊕ Int) :=
  iter (jetsamref13_Wrong_L3 y2 a3 p5) (j6, 0)
def jetsamref13_Wrong_L1 (y2 : List jetsamref13_Track) (a3 : Bool × Bool × Bool × Int) : Option ((Bool × Bool × Bool × Int) ⊕ Int) :=
  if (decide (a3.2.2.2 < (y2.length : Int))) = true then
    (idx y2 a3.2.2.2).bind fun p5 =>
    if ((W (a3.2.2.2 + 1)) == (y2.length : Int)) = true then
      jetsamref13_Wrong_K4 y2 a3 p5 (if (if (if (if a3.1 = true then (decide (p5.Offset ≥ 0)) else false) = true then (decide (p5.Number ≥ 1)) else false) = true then (decide (p5.Number ≤ 255)) else false) = true then ((p5.L.length : Int) == 0) else false)
    else
      jetsamref13_Wrong_K4 y2 a3 p5 (if (if (if (if (if a3.1 = true then (decide (p5.Offset ≥ 0)) else false) = true then (decide (p5.Number ≥ 1)) else false) = true then (decide (p5.Number ≤ 255)) else false) = true then (decide ((p5.L.length : Int) ≥ 1)) else false) = true then (decide ((p5.L.length : Int) ≤ 100)) else false)
  else
    Option.map .inr <|
    jetsamref13_Wrong_K2 (a3.1, a3.2.1, a3.2.2.1)
def jetsamref13_Wrong_K1 (y1 : Int) (y2 : List jetsamref13_Track) (j1 : Bool) : Option Int :=
  iter (jetsamref13_Wrong_L1 y2) ((if (decide ((y2.length : Int) ≤ 100)) = true then (decide (y1 ≥ 0)) else false), j1, false, 0)
def jetsamref13_Wrong_L4 (y0 : List UInt8) (y1 : Int) (y2 : List jetsamref13_Track) (a16 : Bool × Int) : Option ((Bool × Int) ⊕ Int) :=
  if (decide (a16.2 < (y0.length : Int))) = true then
    if a16.1 = true then
      (idx y0 a16.2).bind fun b17 =>
      if (decide ((b17.toNat : Int) ≥ 32)) = true then
        (idx y0 a16.2).bind fun b18 =>
        some (.inl ((decide ((b18.toNat : Int) ≤ 126)), (W (a16.2 + 1))))
      else
        some (.inl (false, (W (a16.2 + 1))))
    else
      some (.inl (false, (W (a16.2 + 1))))
  else
    Option.map .inr <|
    jetsamref13_Wrong_K1 y1 y2 a16.1
def jetsamref13_Wrong (y0 : List UInt8) (y1 : Int) (y2 : List jetsamref13_Track) : Option Int :=
  if ((y2.length : Int) == 0) = true then
    some (20 : Int)
  else
    iter (jetsamref13_Wrong_L4 y0 y1 y2) ((decide ((y0.length : Int) ≤ 128)), 0)
def jetsamref13_padded_K1 (j2 : (List Int)) : Option (List Int) :=
  some j2
def jetsamref13_padded_L1 (y1 : Int) (a3 : (List Int)) : Option ((List Int) ⊕ (List Int)) :=
  if (decide ((a3.length : Int) < y1)) = true then
    (app 1 a3 [(0 : Int)]).bind fun l4 =>
    some (.inl l4)
  else
    Option.map .inr <|
    jetsamref13_padded_K1 a3
def jetsamref13_padded (y0 : List UInt8) (y1 : Int) : Option (List Int) :=
  (app 1 [] (bytesI y0)).bind fun l1 =>
  iter (jetsamref13_padded_L1 y1) l1
def jetsamref12_Big_K1 (j1 : (List Int)) : Option (List Int) :=
  some j1
def jetsamref12_Big_L1 (y0 : Int) (a2 : Int × (List Int)) : Option ((Int × (List Int)) ⊕ (List Int)) :=
  if (decide (a2.1 ≥ 0)) = true then
    need (decide ((W (8 * a2.1)) ≥ 0)) <|
    (app 1 a2.2 [(IntKind.u8.wrap ((shD .shr .i64 y0 (W (8 * a2.1))).tmod 256))]).bind fun l3 =>
    some (.inl ((W (a2.1 - 1)), l3))
  else
    Option.map .inr <|
    jetsamref12_Big_K1 a2.2
def jetsamref12_Big (y0 : Int) (y1 : Int) : Option (List Int) :=
  iter (jetsamref12_Big_L1 y0) ((W (y1 - 1)), [])
def jetsamref13_Cue_K2 (j8 : (List Int)) : Option (List Int) :=
  some j8
def jetsamref13_Cue_K3 (a9 : Int × (List Int)) (j10 : (List Int)) : Option ((Int × (List Int)) ⊕ (List Int)) :=
  some (.inl ((W (a9.1 + 1)), j10))
def jetsamref13_Cue_L2 (a9 : Int × (List Int)) (p11 : jetsamref13_Track) (a21 : Int × (List Int)) : Option ((Int × (List Int)) ⊕ ((Int × (List Int)) ⊕ (List Int))) :=
  if (decide (a21.1 < (p11.L.length : Int))) = true then
    (idx p11.L a21.1).bind fun p22 =>
    (jetsamref12_Big p22.a0 (8 : Int)).bind fun r23 =>
    (app 1 a21.2 r23).bind fun l24 =>
    (idx p11.L a21.1).bind fun p25 =>
    (app 1 l24 [(IntKind.u8.wrap p25.a1), (0 : Int), (0 : Int), (0 : Int)]).bind fun l26 =>
    some (.inl ((W (a21.1 + 1)), l26))
  else
    Option.map .inr <|
    jetsamref13_Cue_K3 a9 a21.2
def jetsamref13_Cue_L1 (y3 : List jetsamref13_Track) (a9 : Int × (List Int)) : Option ((Int × (List Int)) ⊕ (List Int)) :=
  if (decide (a9.1 < (y3.length : Int))) = true then
    (idx y3 a9.1).bind fun p11 =>
    (jetsamref12_Big p11.Offset (8 : Int)).bind fun r12 =>
    (app 1 a9.2 r12).bind fun l13 =>
    (app 1 l13 [(IntKind.u8.wrap p11.Number)]).bind fun l14 =>
    (jetsamref13_padded p11.Code (12 : Int)).bind fun r15 =>
    (app 1 l14 r15).bind fun l16 =>
    (app 1 l16 [(IntKind.u8.wrap p11.Flags)]).bind fun l17 =>
    (jetsamref13_padded [] (13 : Int)).bind fun r18 =>
    (app 1 l17 r18).bind fun l19 =>
    (app 1 l19 [(IntKind.u8.wrap (p11.L.length : Int))]).bind fun l20 =>
    iter (jetsamref13_Cue_L2 a9 p11) (0, l20)
  else
    Option.map .inr <|
    jetsamref13_Cue_K2 a9.2
def jetsamref13_Cue_K1 (y3 : List jetsamref13_Track) (j4 : (List Int)) : Option (List Int) :=
  (jetsamref13_padded [] (258 : Int)).bind fun r5 =>
  (app 1 j4 r5).bind fun l6 =>
  (app 1 l6 [(IntKind.u8.wrap (y3.length : Int))]).bind fun l7 =>
  iter (jetsamref13_Cue_L1 y3) (0, l7)
def jetsamref13_Cue (y0 : List UInt8) (y1 : Int) (y2 : Bool) (y3 : List jetsamref13_Track) : Option (List Int) :=
  (jetsamref13_padded y0 (128 : Int)).bind fun r1 =>
  (jetsamref12_Big y1 (8 : Int)).bind fun r2 =>
  (app 1 r1 r2).bind fun l3 =>
  if y2 = true then
    (app 1 l3 [(128 : Int)]).bind fun l27 =>
    jetsamref13_Cue_K1 y3 l27
  else
    (app 1 l3 [(0 : Int)]).bind fun l28 =>
    jetsamref13_Cue_K1 y3 l28
def tags_reader_take (y0 : Int) (y1 : tags_reader) : Option ((List Int) × (List Int) × Bool) :=
  if (if (decide (y0 < 0)) = true then true else (decide (y0 > (y1.m_b.length : Int)))) = true then
    some ([], [], true)
  else
    (sub y1.m_b 0 y0).bind fun l1 =>
    (sub y1.m_b y0 (y1.m_b.length : Int)).bind fun l2 =>
    some (l1, l2, y1.m_end)
def strings_trimRightByte_K1 (j1 : (List UInt8)) : Option (List UInt8) :=
  some j1
def strings_trimRightByte_L1 (y1 : Int) (a2 : (List UInt8)) : Option ((List UInt8) ⊕ (List UInt8)) :=
  if (decide ((a2.length : Int) > 0)) = true then
    (idx a2 (W ((a2.length : Int) - 1))).bind fun b3 =>
    if ((b3.toNat : Int) == y1) = true then
      (sub a2 0 (W ((a2.length : Int) - 1))).bind fun t4 =>
      some (.inl t4)
    else
      Option.map .inr <|
      strings_trimRightByte_K1 a2
  else
    Option.map .inr <|
    strings_trimRightByte_K1 a2
def strings_trimRightByte (y0 : List UInt8) (y1 : Int) : Option (List UInt8) :=
  iter (strings_trimRightByte_L1 y1) y0
def strings_TrimRight (y0 : List UInt8) (y1 : List UInt8) : Option (List UInt8) :=
  if (if (y0 == []) = true then true else (y1 == [])) = true then
    some y0
  else
    if ((y1.length : Int) == 1) = true then
      (idx y1 0).bind fun b1 =>
      if (decide ((b1.toNat : Int) < 128)) = true then
        (idx y1 0).bind fun b2 =>
        (strings_trimRightByte y0 (b2.toNat : Int)).bind fun r3 =>
        some r3
      else
        none
    else
      none
def strings_Index (y0 : List UInt8) (y1 : List UInt8) : Option Int :=
  (internal_stringslite_Index y0 y1).bind fun r1 =>
  some r1
def strings_Contains (y0 : List UInt8) (y1 : List UInt8) : Option Bool :=
  (strings_Index y0 y1).bind fun r1 =>
  some (decide (r1 ≥ 0))
def tags_reader_padded_K1 (r1 : (List Int) × (List Int) × Bool) (r3 : List UInt8) (j4 : Bool) : Option ((List UInt8) × (List Int) × Bool × Bool) :=
  some (r3, r1.2.1, r1.2.2, j4)
def tags_reader_padded (y0 : Int) (y1 : tags_reader) : Option ((List UInt8) × (List Int) × Bool × Bool) :=
  (tags_reader_take y0 y1).bind fun r1 =>
  (strings_TrimRight (bstr r1.1) [0]).bind fun r3 =>
  if y1.m_bad = true then
    tags_reader_padded_K1 r1 r3 true
  else
    (strings_Contains r3 [0]).bind fun r5 =>
    tags_reader_padded_K1 r1 r3 r5
def tags_reader_high_K1 (j1 : Int × (List Int) × Bool × (List Int) × Bool) : Option (Int × (List Int) × Bool) :=
  some (j1.1, j1.2.1, j1.2.2.1)
def tags_reader_high_L1 (r2 : (List Int) × (List Int) × Bool) (a3 : Int × Int) : Option ((Int × Int) ⊕ (Int × (List Int) × Bool)) :=
  if (decide (a3.2 < (r2.1.length : Int))) = true then
    (idx r2.1 a3.2).bind fun p4 =>
    some (.inl ((arD .or .i64 (shD .shl .i64 a3.1 8) p4), (W (a3.2 + 1))))
  else
    Option.map .inr <|
    tags_reader_high_K1 (a3.1, r2.2.1, r2.2.2, r2.2.1, r2.2.2)
def tags_reader_high (y0 : Int) (y1 : tags_reader) : Option (Int × (List Int) × Bool) :=
  (tags_reader_take y0 y1).bind fun r2 =>
  iter (tags_reader_high_L1 r2) (0, 0)
def tags_reader_flags (y0 : Int) (y1 : tags_reader) : Option (Int × (List Int) × Bool × Bool) :=
  (tags_reader_high (1 : Int) y1).bind fun r1 =>
  some (r1.1, r1.2.1, r1.2.2, (if y1.m_bad = true then true else ((arD .andNot .i64 r1.1 y0) != 0)))
def tags_reader_noughts_c1 (y0 : Int) : Option Bool :=
  some (y0 != 0)
def tags_reader_noughts (y0 : Int) (y1 : tags_reader) : Option ((List Int) × Bool × Bool) :=
  (tags_reader_take y0 y1).bind fun r1 =>
  (slices_ContainsFunc_sbyte_byte_x2 r1.1 tags_reader_noughts_c1).bind fun r2 =>
  if r2 = true then
    some (r1.2.1, r1.2.2, true)
  else
    some (r1.2.1, r1.2.2, y1.m_bad)
def tags_reader_track_K1 (r1 : Int × (List Int) × Bool) (r2 : Int × (List Int) × Bool) (r3 : (List UInt8) × (List Int) × Bool × Bool) (r4 : Int × (List Int) × Bool × Bool) (j6 : (List Int) × Bool × Bool × (List Int) × Bool × Bool × (List tags_Index)) : Option (Int × Int × (List UInt8) × Bool × Bool × (List tags_Index) × (List Int) × Bool × Bool) :=
  some (r1.1, r2.1, r3.1, (decide ((arD .and .i64 r4.1 128) > 0)), (decide ((arD .and .i64 r4.1 64) > 0)), j6.2.2.2.2.2.2, j6.1, j6.2.1, j6.2.2.1)
def tags_reader_track_K2 (a8 : Int × (List Int) × Bool × Bool × (List Int) × Bool × Bool × (List tags_Index)) (j9 : (List Int) × Bool × (List Int) × Bool × (List tags_Index)) : Option ((Int × (List Int) × Bool × Bool × (List Int) × Bool × Bool × (List tags_Index)) ⊕ (Int × Int × (List UInt8) × Bool × Bool × (List tags_Index) × (List Int) × Bool × Bool)) :=
  (tags_reader_noughts (3 : Int) (⟨j9.1, j9.2.1, a8.2.2.2.1⟩ : tags_reader)).bind fun r10 =>
  some (.inl ((W (a8.1 + 1)), r10.1, r10.2.1, r10.2.2, r10.1, r10.2.1, r10.2.2, j9.2.2.2.2))
def tags_reader_track_L1 (r1 : Int × (List Int) × Bool) (r2 : Int × (List Int) × Bool) (r3 : (List UInt8) × (List Int) × Bool × Bool) (r4 : Int × (List Int) × Bool × Bool) (r7 : Int × (List Int) × Bool) (a8 : Int × (List Int) × Bool × Bool × (List Int) × Bool × Bool × (List tags_Index)) : Option ((Int × (List Int) × Bool × Bool × (List Int) × Bool × Bool × (List tags_Index)) ⊕ (Int × Int × (List UInt8) × Bool × Bool × (List tags_Index) × (List Int) × Bool × Bool)) :=
  if (decide (a8.1 < r7.1)) = true then
    (tags_reader_high (8 : Int) (⟨a8.2.1, a8.2.2.1, a8.2.2.2.1⟩ : tags_reader)).bind fun r11 =>
    (tags_reader_high (1 : Int) (⟨r11.2.1, r11.2.2, a8.2.2.2.1⟩ : tags_reader)).bind fun r12 =>
    (app 16 a8.2.2.2.2.2.2.2 [(⟨r11.1, r12.1⟩ : tags_Index)]).bind fun l13 =>
    tags_reader_track_K2 a8 (r12.2.1, r12.2.2, r12.2.1, r12.2.2, l13)
  else
    Option.map .inr <|
    tags_reader_track_K1 r1 r2 r3 r4 (a8.2.1, a8.2.2.1, a8.2.2.2.1, a8.2.1, a8.2.2.1, a8.2.2.2.1, a8.2.2.2.2.2.2.2)
def tags_reader_track (y0 : tags_reader) : Option (Int × Int × (List UInt8) × Bool × Bool × (List tags_Index) × (List Int) × Bool × Bool) :=
  (tags_reader_high (8 : Int) y0).bind fun r1 =>
  (tags_reader_high (1 : Int) (⟨r1.2.1, r1.2.2, y0.m_bad⟩ : tags_reader)).bind fun r2 =>
  (tags_reader_padded (12 : Int) (⟨r2.2.1, r2.2.2, y0.m_bad⟩ : tags_reader)).bind fun r3 =>
  (tags_reader_flags (192 : Int) (⟨r3.2.1, r3.2.2.1, r3.2.2.2⟩ : tags_reader)).bind fun r4 =>
  (tags_reader_noughts (13 : Int) (⟨r4.2.1, r4.2.2.1, r4.2.2.2⟩ : tags_reader)).bind fun r5 =>
  (tags_reader_high (1 : Int) (⟨r5.1, r5.2.1, r5.2.2⟩ : tags_reader)).bind fun r7 =>
  iter (tags_reader_track_L1 r1 r2 r3 r4 r7) (0, r7.2.1, r7.2.2, r5.2.2, r7.2.1, r7.2.2, r5.2.2, [])
def tags_reader_over (y0 : tags_reader) : Option Int :=
  if y0.m_end = true then
    some 11
  else
    if (if y0.m_bad = true then true else (decide ((y0.m_b.length : Int) > 0))) = true then
      some 12
    else
      some 0
def tags_ReadCue_K1 (r1 : (List UInt8) × (List Int) × Bool × Bool) (r2 : Int × (List Int) × Bool) (r3 : Int × (List Int) × Bool × Bool) (j5 : (List Int) × Bool × Bool × (List tags_Track)) : Option (tags_Cue × Int) :=
  (tags_reader_over (⟨j5.1, j5.2.1, j5.2.2.1⟩ : tags_reader)).bind fun r6 =>
  if (r6 != 0) = true then
    some ((⟨[], (0 : Int), false, ([] : List tags_Track)⟩ : tags_Cue), r6)
  else
    (tags_Cue_Write (⟨r1.1, r2.1, (decide (r3.1 > 0)), j5.2.2.2⟩ : tags_Cue)).bind fun r7 =>
    if (r7.2 != 0) = true then
      some ((⟨[], (0 : Int), false, ([] : List tags_Track)⟩ : tags_Cue), r7.2)
    else
      some ((⟨r1.1, r2.1, (decide (r3.1 > 0)), j5.2.2.2⟩ : tags_Cue), (0 : Int))
def tags_ReadCue_L1 (r1 : (List UInt8) × (List Int) × Bool × Bool) (r2 : Int × (List Int) × Bool) (r3 : Int × (List Int) × Bool × Bool) (r8 : Int × (List Int) × Bool) (a9 : Int × (List Int) × Bool × Bool × (List tags_Track)) : Option ((Int × (List Int) × Bool × Bool × (List tags_Track)) ⊕ (tags_Cue × Int)) :=
  if (decide (a9.1 < r8.1)) = true then
    (tags_reader_track (⟨a9.2.1, a9.2.2.1, a9.2.2.2.1⟩ : tags_reader)).bind fun r10 =>
    (app 64 a9.2.2.2.2 [(⟨r10.1, r10.2.1, r10.2.2.1, r10.2.2.2.1, r10.2.2.2.2.1, r10.2.2.2.2.2.1⟩ : tags_Track)]).bind fun l11 =>
    some (.inl ((W (a9.1 + 1)), r10.2.2.2.2.2.2.1, r10.2.2.2.2.2.2.2.1, r10.2.2.2.2.2.2.2.2, l11))
  else
    Option.map .inr <|
    tags_ReadCue_K1 r1 r2 r3 (a9.2.1, a9.2.2.1, a9.2.2.2.1, a9.2.2.2.2)
def tags_ReadCue (y0 : List Int) : Option (tags_Cue × Int) :=
  (tags_reader_padded (128 : Int) (⟨y0, false, false⟩ : tags_reader)).bind fun r1 =>
  (tags_reader_high (8 : Int) (⟨r1.2.1, r1.2.2.1, r1.2.2.2⟩ : tags_reader)).bind fun r2 =>
  (tags_reader_flags (128 : Int) (⟨r2.2.1, r2.2.2, r1.2.2.2⟩ : tags_reader)).bind fun r3 =>
  (tags_reader_noughts (258 : Int) (⟨r3.2.1, r3.2.2.1, r3.2.2.2⟩ : tags_reader)).bind fun r4 =>
  (tags_reader_high (1 : Int) (⟨r4.1, r4.2.1, r4.2.2⟩ : tags_reader)).bind fun r8 =>
  iter (tags_ReadCue_L1 r1 r2 r3 r8) (0, r8.2.1, r8.2.2, r4.2.2, [])
def jetsamlaw13_cue_K1 (j1 : Unit) : Option Bool :=
  some true
def jetsamlaw13_cue_K2 (a2 : Int) (j3 : Unit) : Option (Int ⊕ Bool) :=
  some (.inl (W (a2 + 1)))
def jetsamlaw13_cue_L2 (a2 : Int) (p4 : tags_Track) (p5 : tags_Track) (a6 : Int) : Option (Int ⊕ (Int ⊕ Bool)) :=
  if (decide (a6 < (p4.L.length : Int))) = true then
    (idx p4.L a6).bind fun p7 =>
    (idx p5.L a6).bind fun p8 =>
    if (!((p7.Offset == p8.Offset) && (p7.Number == p8.Number))) = true then
      Option.map .inr <|
      Option.map .inr <|
      some false
    else
      some (.inl (W (a6 + 1)))
  else
    Option.map .inr <|
    jetsamlaw13_cue_K2 a2 ()
def jetsamlaw13_cue_L1 (y0 : tags_Cue) (y1 : tags_Cue) (a2 : Int) : Option (Int ⊕ Bool) :=
  if (decide (a2 < (y0.L.length : Int))) = true then
    (idx y0.L a2).bind fun p4 =>
    (idx y1.L a2).bind fun p5 =>
    if (if (if (if (if (if (p4.Offset != p5.Offset) = true then true else (p4.Number != p5.Number)) = true then true else (!(p4.Code == p5.Code))) = true then true else (!(p4.Data == p5.Data))) = true then true else (!(p4.Pre == p5.Pre))) = true then true else ((p4.L.length : Int) != (p5.L.length : Int))) = true then
      Option.map .inr <|
      some false
    else
      iter (jetsamlaw13_cue_L2 a2 p4 p5) 0
  else
    Option.map .inr <|
    jetsamlaw13_cue_K1 ()
def jetsamlaw13_cue (y0 : tags_Cue) (y1 : tags_Cue) : Option Bool :=
  if (if (if (if (!(y0.Catalog == y1.Catalog)) = true then true else (y0.Lead != y1.Lead)) = true then true else (!(y0.Disc == y1.Disc))) = true then true else ((y0.L.length : Int) != (y1.L.length : Int))) = true then
    some false
  else
    iter (jetsamlaw13_cue_L1 y0 y1) 0
def jetsamlaw13_TagsCues (y0 : tags_Cue) : Option Bool :=
  (jetsamlaw13_short y0).bind fun r1 =>
  if (!r1) = true then
    (jetsamlaw13_awake).bind fun r2 =>
    some r2
  else
    (jetsamlaw13_plain y0).bind fun r3 =>
    (tags_Cue_Write y0).bind fun r4 =>
    (jetsamref13_Wrong y0.Catalog y0.Lead r3).bind fun r5 =>
    if (r5 != 0) = true then
      if (if ((r4.1.length : Int) == 0) = true then (r4.2 == r5) else false) = true then
        (jetsamlaw13_awake).bind fun r6 =>
        some r6
      else
        some false
    else
      if (r4.2 != 0) = true then
        some false
      else
        (jetsamref13_Cue y0.Catalog y0.Lead y0.Disc r3).bind fun r7 =>
        (jetsamlaw11_Bytes r4.1 r7).bind fun r8 =>
        if (!r8) = true then
          some false
        else
          (tags_ReadCue r4.1).bind fun r9 =>
          if (r9.2 == 0) = true then
            (jetsamlaw13_cue r9.1 y0).bind fun r10 =>
            if r10 = true then
              (jetsamlaw13_awake).bind fun r11 =>
              some r11
            else
              some false
          else
            some false
def jetsamref13_CueSize_K1 (y0 : List Int) (j1 : Int) : Option Int :=
  if (decide (j1 > (y0.length : Int))) = true then
    some ((-1) : Int)
  else
    some j1
def jetsamref13_CueSize_L1 (y0 : List Int) (a2 : Int × Int) : Option ((Int × Int) ⊕ Int) :=
  (idx y0 395).bind fun p3 =>
  if (decide (a2.2 < p3)) = true then
    if (decide ((W (a2.1 + 36)) > (y0.length : Int))) = true then
      Option.map .inr <|
      some ((-1) : Int)
    else
      (idx y0 (W (a2.1 + 35))).bind fun p4 =>
      some (.inl ((W ((W (a2.1 + 36)) + (W (12 * p4)))), (W (a2.2 + 1))))
  else
    Option.map .inr <|
    jetsamref13_CueSize_K1 y0 a2.1
def jetsamref13_CueSize (y0 : List Int) : Option Int :=
  if (decide ((y0.length : Int) < 396)) = true then
    some ((-1) : Int)
  else
    iter (jetsamref13_CueSize_L1 y0) (396, 0)
def jetsamlaw13_TagsSheets_K1 (y1 : Int) (r2 : tags_Cue × Int) (j8 : (List Int)) : Option Bool :=
  (tags_ReadCue j8).bind fun r9 =>
  if (if (y1 == 0) = true then (r9.2 == 0) else false) = true then
    (jetsamlaw13_cue r9.1 r2.1).bind fun r10 =>
    if (if r10 = true then true else (if (decide (y1 > 0)) = true then (r9.2 == 12) else false)) = true then
      (jetsamlaw13_awake).bind fun r11 =>
      some r11
    else
      some false
  else
    if (if (decide (y1 > 0)) = true then (r9.2 == 12) else false) = true then
      (jetsamlaw13_awake).bind fun r12 =>
      some r12
    else
      some false
def jetsamlaw13_TagsSheets_L1 (y1 : Int) (r2 : tags_Cue × Int) (a13 : Int × (List Int)) : Option ((Int × (List Int)) ⊕ Bool) :=
  if (decide (a13.1 < y1)) = true then
    (app 1 a13.2 [(0 : Int)]).bind fun l14 =>
    some (.inl ((W (a13.1 + 1)), l14))
  else
    Option.map .inr <|
    jetsamlaw13_TagsSheets_K1 y1 r2 a13.2
def jetsamlaw13_TagsSheets (y0 : List Int) (y1 : Int) : Option Bool :=
  if (if (if (decide ((y0.length : Int) > 2000)) = true then true else (decide (y1 < 0))) = true then true else (decide (y1 > 20))) = true then
    (jetsamlaw13_awake).bind fun r1 =>
    some r1
  else
    (tags_ReadCue y0).bind fun r2 =>
    (jetsamref13_CueSize y0).bind fun r3 =>
    if (decide (r3 < 0)) = true then
      if (if (r2.2 == 11) = true then ((r2.1.L.length : Int) == 0) else false) = true then
        (jetsamlaw13_awake).bind fun r4 =>
        some r4
      else
        some false
    else
      if (r2.2 == 0) = true then
        (tags_Cue_Write r2.1).bind fun r5 =>
        if (r5.2 != 0) = true then
          some false
        else
          (jetsamlaw11_Bytes r5.1 y0).bind fun r6 =>
          if (if (!r6) = true then true else (r3 != (y0.length : Int))) = true then
            some false
          else
            (app 1 [] y0).bind fun l7 =>
            iter (jetsamlaw13_TagsSheets_L1 y1 r2) (0, l7)
      else
        if (if (if ((r2.1.L.length : Int) == 0) = true then (if (r3 == (y0.length : Int)) = true then true else (r2.2 == 12)) else false) = true then (r2.2 != 11) else false) = true then
          (jetsamlaw13_awake).bind fun r15 =>
          some r15
        else
          some false
end Go.Vg
