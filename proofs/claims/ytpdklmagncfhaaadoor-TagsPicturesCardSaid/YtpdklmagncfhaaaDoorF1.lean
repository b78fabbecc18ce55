/- What the functions answer, printed by a program. -/
import Derived.Test.YtpdklmagncfhaaaDoorA8
set_option maxRecDepth 4000
set_option linter.all false
set_option linter.unusedVariables false
set_option linter.unusedSimpArgs false
namespace Go.Vg
open Go
structure tags_Picture where
  Kind : Int
  Mime : List UInt8
  Text : List UInt8
  Width : Int
  Height : Int
  Bits : Int
  Colors : Int
  Data : List Int
def e_tags_Picture (p : tags_Picture) : V := .agg [.int .i64 (.v p.Kind), .str (.v p.Mime), .str (.v p.Text), .int .i64 (.v p.Width), .int .i64 (.v p.Height), .int .i64 (.v p.Bits), .int .i64 (.v p.Colors), .sl 1 e_u8 p.Data]
structure tags_Comments where
  Vendor : List UInt8
  L : List (List UInt8)
def e_tags_Comments (p : tags_Comments) : V := .agg [.str (.v p.Vendor), .sl 1 e_str p.L]
structure unicode_utf8_acceptRange where
  m_lo : Int
  m_hi : Int
def e_unicode_utf8_acceptRange (p : unicode_utf8_acceptRange) : V := .agg [.int .u8 (.v p.m_lo), .int .u8 (.v p.m_hi)]
structure tags_reader where
  m_b : List Int
  m_end : Bool
  m_bad : Bool
def e_tags_reader (p : tags_reader) : V := .agg [.sl 1 e_u8 p.m_b, .bool (.v p.m_end), .bool (.v p.m_bad)]
def tab0 : List Int := [(240 : Int), (240 : Int), (240 : Int), (240 : Int), (240 : Int), (240 : Int), (240 : Int), (240 : Int), (240 : Int), (240 : Int), (240 : Int), (240 : Int), (240 : Int), (240 : Int), (240 : Int), (240 : Int), (240 : Int), (240 : Int), (240 : Int), (240 : Int), (240 : Int), (240 : Int), (240 : Int), (240 : Int), (240 : Int), (240 : Int), (240 : Int), (240 : Int), (240 : Int), (240 : Int), (240 : Int), (240 : Int), (240 : Int), (240 : Int), (240 : Int), (240 : Int), (240 : Int), (240 : Int), (240 : Int), (240 : Int), (240 : Int), (240 : Int), (240 : Int), (240 : Int), (240 : Int), (240 : Int), (240 : Int), (240 : Int), (240 : Int), (240 : Int), (240 : Int), (240 : Int), (240 : Int), (240 : Int), (240 : Int), (240 : Int), (240 : Int), (240 : Int), (240 : Int), (240 : Int), (240 : Int), (240 : Int), (240 : Int), (240 : Int), (240 : Int), (240 : Int), (240 : Int), (240 : Int), (240 : Int), (240 : Int), (240 : Int), (240 : Int), (240 : Int), (240 : Int), (240 : Int), (240 : Int), (240 : Int), (240 : Int), (240 : Int), (240 : Int), (240 : Int), (240 : Int), (240 : Int), (240 : Int), (240 : Int), (240 : Int), (240 : Int), (240 : Int), (240 : Int), (240 : Int), (240 : Int), (240 : Int), (240 : Int), (240 : Int), (240 : Int), (240 : Int), (240 : Int), (240 : Int), (240 : Int), (240 : Int), (240 : Int), (240 : Int), (240 : Int), (240 : Int), (240 : Int), (240 : Int), (240 : Int), (240 : Int), (240 : Int), (240 : Int), (240 : Int), (240 : Int), (240 : Int), (240 : Int), (240 : Int), (240 : Int), (240 : Int), (240 : Int), (240 : Int), (240 : Int), (240 : Int), (240 : Int), (240 : Int), (240 : Int), (240 : Int), (240 : Int), (240 : Int), (240 : Int), (241 : Int), (241 : Int), (241 : Int), (241 : Int), (241 : Int), (241 : Int), (241 : Int), (241 : Int), (241 : Int), (241 : Int), (241 : Int), (241 : Int), (241 : Int), (241 : Int), (241 : Int), (241 : Int), (241 : Int), (241 : Int), (241 : Int), (241 : Int), (241 : Int), (241 : Int), (241 : Int), (241 : Int), (241 : Int), (241 : Int), (241 : Int), (241 : Int), (241 : Int), (241 : Int), (241 : Int), (241 : Int), (241 : Int), (241 : Int), (241 : Int), (241 : Int), (241 : Int), (241 : Int), (241 : Int), (241 : Int), (241 : Int), (241 : Int), (241 : Int), (241 : Int), (241 : Int), (241 : Int), (241 : Int), (241 : Int), (241 : Int), (241 : Int), (241 : Int), (241 : Int), (241 : Int), (241 : Int), (241 : Int), (241 : Int), (241 : Int), (241 : Int), (241 : Int), (241 : Int), (241 : Int), (241 : Int), (241 : Int), (241 : Int), (241 : Int), (241 : Int), (2 : Int), (2 : Int), (2 : Int), (2 : Int), (2 : Int), (2 : Int), (2 : Int), (2 : Int), (2 : Int), (2 : Int), (2 : Int), (2 : Int), (2 : Int), (2 : Int), (2 : Int), (2 : Int), (2 : Int), (2 : Int), (2 : Int), (2 : Int), (2 : Int), (2 : Int), (2 : Int), (2 : Int), (2 : Int), (2 : Int), (2 : Int), (2 : Int), (2 : Int), (2 : Int), (19 : Int), (3 : Int), (3 : Int), (3 : Int), (3 : Int), (3 : Int), (3 : Int), (3 : Int), (3 : Int), (3 : Int), (3 : Int), (3 : Int), (3 : Int), (35 : Int), (3 : Int), (3 : Int), (52 : Int), (4 : Int), (4 : Int), (4 : Int), (68 : Int), (241 : Int), (241 : Int), (241 : Int), (241 : Int), (241 : Int), (241 : Int), (241 : Int), (241 : Int), (241 : Int), (241 : Int), (241 : Int)]
def tab1 : List unicode_utf8_acceptRange := [(⟨(128 : Int), (191 : Int)⟩ : unicode_utf8_acceptRange), (⟨(160 : Int), (191 : Int)⟩ : unicode_utf8_acceptRange), (⟨(128 : Int), (159 : Int)⟩ : unicode_utf8_acceptRange), (⟨(144 : Int), (191 : Int)⟩ : unicode_utf8_acceptRange), (⟨(128 : Int), (143 : Int)⟩ : unicode_utf8_acceptRange), (⟨(0 : Int), (0 : Int)⟩ : unicode_utf8_acceptRange), (⟨(0 : Int), (0 : Int)⟩ : unicode_utf8_acceptRange), (⟨(0 : Int), (0 : Int)⟩ : unicode_utf8_acceptRange), (⟨(0 : Int), (0 : Int)⟩ : unicode_utf8_acceptRange), (⟨(0 : Int), (0 : Int)⟩ : unicode_utf8_acceptRange), (⟨(0 : Int), (0 : Int)⟩ : unicode_utf8_acceptRange), (⟨(0 : Int), (0 : Int)⟩ : unicode_utf8_acceptRange), (⟨(0 : Int), (0 : Int)⟩ : unicode_utf8_acceptRange), (⟨(0 : Int), (0 : Int)⟩ : unicode_utf8_acceptRange), (⟨(0 : Int), (0 : Int)⟩ : unicode_utf8_acceptRange), (⟨(0 : Int), (0 : Int)⟩ : unicode_utf8_acceptRange)]
def Gl : Glb := [(0, [.int .u8 (.lit 240), .int .u8 (.lit 240), .int .u8 (.lit 240), .int .u8 (.lit 240), .int .u8 (.lit 240), .int .u8 (.lit 240), .int .u8 (.lit 240), .int .u8 (.lit 240), .int .u8 (.lit 240), .int .u8 (.lit 240), .int .u8 (.lit 240), .int .u8 (.lit 240), .int .u8 (.lit 240), .int .u8 (.lit 240), .int .u8 (.lit 240), .int .u8 (.lit 240), .int .u8 (.lit 240), .int .u8 (.lit 240), .int .u8 (.lit 240), .int .u8 (.lit 240), .int .u8 (.lit 240), .int .u8 (.lit 240), .int .u8 (.lit 240), .int .u8 (.lit 240), .int .u8 (.lit 240), .int .u8 (.lit 240), .int .u8 (.lit 240), .int .u8 (.lit 240), .int .u8 (.lit 240), .int .u8 (.lit 240), .int .u8 (.lit 240), .int .u8 (.lit 240), .int .u8 (.lit 240), .int .u8 (.lit 240), .int .u8 (.lit 240), .int .u8 (.lit 240), .int .u8 (.lit 240), .int .u8 (.lit 240), .int .u8 (.lit 240), .int .u8 (.lit 240), .int .u8 (.lit 240), .int .u8 (.lit 240), .int .u8 (.lit 240), .int .u8 (.lit 240), .int .u8 (.lit 240), .int .u8 (.lit 240), .int .u8 (.lit 240), .int .u8 (.lit 240), .int .u8 (.lit 240), .int .u8 (.lit 240), .int .u8 (.lit 240), .int .u8 (.lit 240), .int .u8 (.lit 240), .int .u8 (.lit 240), .int .u8 (.lit 240), .int .u8 (.lit 240), .int .u8 (.lit 240), .int .u8 (.lit 240), .int .u8 (.lit 240), .int .u8 (.lit 240), .int .u8 (.lit 240), .int .u8 (.lit 240), .int .u8 (.lit 240), .int .u8 (.lit 240), .int .u8 (.lit 240), .int .u8 (.lit 240), .int .u8 (.lit 240), .int .u8 (.lit 240), .int .u8 (.lit 240), .int .u8 (.lit 240), .int .u8 (.lit 240), .int .u8 (.lit 240), .int .u8 (.lit 240), .int .u8 (.lit 240), .int .u8 (.lit 240), .int .u8 (.lit 240), .int .u8 (.lit 240), .int .u8 (.lit 240), .int .u8 (.lit 240), .int .u8 (.lit 240), .int .u8 (.lit 240), .int .u8 (.lit 240), .int .u8 (.lit 240), .int .u8 (.lit 240), .int .u8 (.lit 240), .int .u8 (.lit 240), .int .u8 (.lit 240), .int .u8 (.lit 240), .int .u8 (.lit 240), .int .u8 (.lit 240), .int .u8 (.lit 240), .int .u8 (.lit 240), .int .u8 (.lit 240), .int .u8 (.lit 240), .int .u8 (.lit 240), .int .u8 (.lit 240), .int .u8 (.lit 240), .int .u8 (.lit 240), .int .u8 (.lit 240), .int .u8 (.lit 240), .int .u8 (.lit 240), .int .u8 (.lit 240), .int .u8 (.lit 240), .int .u8 (.lit 240), .int .u8 (.lit 240), .int .u8 (.lit 240), .int .u8 (.lit 240), .int .u8 (.lit 240), .int .u8 (.lit 240), .int .u8 (.lit 240), .int .u8 (.lit 240), .int .u8 (.lit 240), .int .u8 (.lit 240), .int .u8 (.lit 240), .int .u8 (.lit 240), .int .u8 (.lit 240), .int .u8 (.lit 240), .int .u8 (.lit 240), .int .u8 (.lit 240), .int .u8 (.lit 240), .int .u8 (.lit 240), .int .u8 (.lit 240), .int .u8 (.lit 240), .int .u8 (.lit 240), .int .u8 (.lit 240), .int .u8 (.lit 240), .int .u8 (.lit 240), .int .u8 (.lit 240), .int .u8 (.lit 241), .int .u8 (.lit 241), .int .u8 (.lit 241), .int .u8 (.lit 241), .int .u8 (.lit 241), .int .u8 (.lit 241), .int .u8 (.lit 241), .int .u8 (.lit 241), .int .u8 (.lit 241), .int .u8 (.lit 241), .int .u8 (.lit 241), .int .u8 (.lit 241), .int .u8 (.lit 241), .int .u8 (.lit 241), .int .u8 (.lit 241), .int .u8 (.lit 241), .int .u8 (.lit 241), .int .u8 (.lit 241), .int .u8 (.lit 241), .int .u8 (.lit 241), .int .u8 (.lit 241), .int .u8 (.lit 241), .int .u8 (.lit 241), .int .u8 (.lit 241), .int .u8 (.lit 241), .int .u8 (.lit 241), .int .u8 (.lit 241), .int .u8 (.lit 241), .int .u8 (.lit 241), .int .u8 (.lit 241), .int .u8 (.lit 241), .int .u8 (.lit 241), .int .u8 (.lit 241), .int .u8 (.lit 241), .int .u8 (.lit 241), .int .u8 (.lit 241), .int .u8 (.lit 241), .int .u8 (.lit 241), .int .u8 (.lit 241), .int .u8 (.lit 241), .int .u8 (.lit 241), .int .u8 (.lit 241), .int .u8 (.lit 241), .int .u8 (.lit 241), .int .u8 (.lit 241), .int .u8 (.lit 241), .int .u8 (.lit 241), .int .u8 (.lit 241), .int .u8 (.lit 241), .int .u8 (.lit 241), .int .u8 (.lit 241), .int .u8 (.lit 241), .int .u8 (.lit 241), .int .u8 (.lit 241), .int .u8 (.lit 241), .int .u8 (.lit 241), .int .u8 (.lit 241), .int .u8 (.lit 241), .int .u8 (.lit 241), .int .u8 (.lit 241), .int .u8 (.lit 241), .int .u8 (.lit 241), .int .u8 (.lit 241), .int .u8 (.lit 241), .int .u8 (.lit 241), .int .u8 (.lit 241), .int .u8 (.lit 2), .int .u8 (.lit 2), .int .u8 (.lit 2), .int .u8 (.lit 2), .int .u8 (.lit 2), .int .u8 (.lit 2), .int .u8 (.lit 2), .int .u8 (.lit 2), .int .u8 (.lit 2), .int .u8 (.lit 2), .int .u8 (.lit 2), .int .u8 (.lit 2), .int .u8 (.lit 2), .int .u8 (.lit 2), .int .u8 (.lit 2), .int .u8 (.lit 2), .int .u8 (.lit 2), .int .u8 (.lit 2), .int .u8 (.lit 2), .int .u8 (.lit 2), .int .u8 (.lit 2), .int .u8 (.lit 2), .int .u8 (.lit 2), .int .u8 (.lit 2), .int .u8 (.lit 2), .int .u8 (.lit 2), .int .u8 (.lit 2), .int .u8 (.lit 2), .int .u8 (.lit 2), .int .u8 (.lit 2), .int .u8 (.lit 19), .int .u8 (.lit 3), .int .u8 (.lit 3), .int .u8 (.lit 3), .int .u8 (.lit 3), .int .u8 (.lit 3), .int .u8 (.lit 3), .int .u8 (.lit 3), .int .u8 (.lit 3), .int .u8 (.lit 3), .int .u8 (.lit 3), .int .u8 (.lit 3), .int .u8 (.lit 3), .int .u8 (.lit 35), .int .u8 (.lit 3), .int .u8 (.lit 3), .int .u8 (.lit 52), .int .u8 (.lit 4), .int .u8 (.lit 4), .int .u8 (.lit 4), .int .u8 (.lit 68), .int .u8 (.lit 241), .int .u8 (.lit 241), .int .u8 (.lit 241), .int .u8 (.lit 241), .int .u8 (.lit 241), .int .u8 (.lit 241), .int .u8 (.lit 241), .int .u8 (.lit 241), .int .u8 (.lit 241), .int .u8 (.lit 241), .int .u8 (.lit 241)]), (1, [.int .u8 (.lit 128), .int .u8 (.lit 191), .int .u8 (.lit 160), .int .u8 (.lit 191), .int .u8 (.lit 128), .int .u8 (.lit 159), .int .u8 (.lit 144), .int .u8 (.lit 191), .int .u8 (.lit 128), .int .u8 (.lit 143), .int .u8 (.lit 0), .int .u8 (.lit 0), .int .u8 (.lit 0), .int .u8 (.lit 0), .int .u8 (.lit 0), .int .u8 (.lit 0), .int .u8 (.lit 0), .int .u8 (.lit 0), .int .u8 (.lit 0), .int .u8 (.lit 0), .int .u8 (.lit 0), .int .u8 (.lit 0), .int .u8 (.lit 0), .int .u8 (.lit 0), .int .u8 (.lit 0), .int .u8 (.lit 0), .int .u8 (.lit 0), .int .u8 (.lit 0), .int .u8 (.lit 0), .int .u8 (.lit 0), .int .u8 (.lit 0), .int .u8 (.lit 0)])]
def unicode_utf8_word_string (y0 : List UInt8) : Option Int :=
  (idx y0 0).bind fun b1 =>
  (idx y0 1).bind fun b2 =>
  (idx y0 2).bind fun b3 =>
  (idx y0 3).bind fun b4 =>
  (idx y0 4).bind fun b5 =>
  (idx y0 5).bind fun b6 =>
  (idx y0 6).bind fun b7 =>
  (idx y0 7).bind fun b8 =>
  some (arD .or .u64 (arD .or .u64 (arD .or .u64 (arD .or .u64 (arD .or .u64 (arD .or .u64 (arD .or .u64 (b1.toNat : Int) (shD .shl .u64 (b2.toNat : Int) 8)) (shD .shl .u64 (b3.toNat : Int) 16)) (shD .shl .u64 (b4.toNat : Int) 24)) (shD .shl .u64 (b5.toNat : Int) 32)) (shD .shl .u64 (b6.toNat : Int) 40)) (shD .shl .u64 (b7.toNat : Int) 48)) (shD .shl .u64 (b8.toNat : Int) 56))
def unicode_utf8_ValidString_K1 (j1 : Unit) : Option Bool :=
  some true
def unicode_utf8_ValidString_K2 (j5 : (List UInt8)) : Option ((List UInt8) ⊕ Bool) :=
  some (.inl j5)
def unicode_utf8_ValidString_K4 (a10 : (List UInt8)) (j11 : Bool) : Option ((List UInt8) ⊕ ((List UInt8) ⊕ Bool)) :=
  if j11 = true then
    (sub a10 32 (a10.length : Int)).bind fun t12 =>
    some (.inl t12)
  else
    Option.map .inr <|
    unicode_utf8_ValidString_K2 a10
def unicode_utf8_ValidString_L2 (a10 : (List UInt8)) : Option ((List UInt8) ⊕ ((List UInt8) ⊕ Bool)) :=
  if (decide ((a10.length : Int) > 32)) = true then
    (sub a10 8 (a10.length : Int)).bind fun t13 =>
    (sub a10 16 (a10.length : Int)).bind fun t14 =>
    (sub a10 24 (a10.length : Int)).bind fun t15 =>
    (unicode_utf8_word_string a10).bind fun r16 =>
    (unicode_utf8_word_string t13).bind fun r17 =>
    (unicode_utf8_word_string t14).bind fun r18 =>
    (unicode_utf8_word_string t15).bind fun r19 =>
    unicode_utf8_ValidString_K4 a10 ((arD .and .u64 (arD .or .u64 (arD .or .u64 r16 r17) (arD .or .u64 r18 r19)) 9259542123273814144) == 0)
  else
    unicode_utf8_ValidString_K4 a10 false
def unicode_utf8_ValidString_K3 (t7 : List UInt8) (j8 : Bool) : Option ((List UInt8) ⊕ Bool) :=
  if j8 = true then
    (sub t7 16 (t7.length : Int)).bind fun t9 =>
    iter unicode_utf8_ValidString_L2 t9
  else
    unicode_utf8_ValidString_K2 t7
def unicode_utf8_ValidString_K5 (a2 : (List UInt8)) (j25 : Bool) : Option ((List UInt8) ⊕ Bool) :=
  if j25 = true then
    Option.map .inr <|
    some false
  else
    (sub a2 2 (a2.length : Int)).bind fun t26 =>
    some (.inl t26)
def unicode_utf8_ValidString_K6 (a2 : (List UInt8)) (j29 : Bool) : Option ((List UInt8) ⊕ Bool) :=
  if j29 = true then
    Option.map .inr <|
    some false
  else
    (sub a2 3 (a2.length : Int)).bind fun t30 =>
    some (.inl t30)
def unicode_utf8_ValidString_K7 (a2 : (List UInt8)) (j35 : Bool) : Option ((List UInt8) ⊕ Bool) :=
  if j35 = true then
    Option.map .inr <|
    some false
  else
    (sub a2 4 (a2.length : Int)).bind fun t36 =>
    some (.inl t36)
def unicode_utf8_ValidString_L1 (a2 : (List UInt8)) : Option ((List UInt8) ⊕ Bool) :=
  if (decide ((a2.length : Int) > 0)) = true then
    (idx a2 0).bind fun b3 =>
    if (decide ((b3.toNat : Int) < 128)) = true then
      (sub a2 1 (a2.length : Int)).bind fun t4 =>
      if (decide ((t4.length : Int) > 8)) = true then
        (unicode_utf8_word_string t4).bind fun r6 =>
        if ((arD .and .u64 r6 9259542123273814144) == 0) = true then
          (sub t4 8 (t4.length : Int)).bind fun t7 =>
          if (decide ((t7.length : Int) > 16)) = true then
            (sub t7 8 (t7.length : Int)).bind fun t20 =>
            (unicode_utf8_word_string t7).bind fun r21 =>
            (unicode_utf8_word_string t20).bind fun r22 =>
            unicode_utf8_ValidString_K3 t7 ((arD .and .u64 (arD .or .u64 r21 r22) 9259542123273814144) == 0)
          else
            unicode_utf8_ValidString_K3 t7 false
        else
          unicode_utf8_ValidString_K2 t4
      else
        unicode_utf8_ValidString_K2 t4
    else
      (idx tab0 (b3.toNat : Int)).bind fun p23 =>
      (idx tab1 (shD .shr .u8 p23 4)).bind fun p24 =>
      if ((arD .and .u8 p23 7) == 2) = true then
        if (decide ((a2.length : Int) < 2)) = true then
          unicode_utf8_ValidString_K5 a2 true
        else
          (idx a2 1).bind fun b27 =>
          if (decide ((b27.toNat : Int) < p24.m_lo)) = true then
            unicode_utf8_ValidString_K5 a2 true
          else
            (idx a2 1).bind fun b28 =>
            unicode_utf8_ValidString_K5 a2 (decide (p24.m_hi < (b28.toNat : Int)))
      else
        if ((arD .and .u8 p23 7) == 3) = true then
          if (decide ((a2.length : Int) < 3)) = true then
            unicode_utf8_ValidString_K6 a2 true
          else
            (idx a2 1).bind fun b31 =>
            if (decide ((b31.toNat : Int) < p24.m_lo)) = true then
              unicode_utf8_ValidString_K6 a2 true
            else
              (idx a2 1).bind fun b32 =>
              if (decide (p24.m_hi < (b32.toNat : Int))) = true then
                unicode_utf8_ValidString_K6 a2 true
              else
                (idx a2 2).bind fun b33 =>
                if (decide ((b33.toNat : Int) < 128)) = true then
                  unicode_utf8_ValidString_K6 a2 true
                else
                  (idx a2 2).bind fun b34 =>
                  unicode_utf8_ValidString_K6 a2 (decide ((191 : Int) < (b34.toNat : Int)))
        else
          if ((arD .and .u8 p23 7) == 4) = true then
            if (decide ((a2.length : Int) < 4)) = true then
              unicode_utf8_ValidString_K7 a2 true
            else
              (idx a2 1).bind fun b37 =>
              if (decide ((b37.toNat : Int) < p24.m_lo)) = true then
                unicode_utf8_ValidString_K7 a2 true
              else
                (idx a2 1).bind fun b38 =>
                if (decide (p24.m_hi < (b38.toNat : Int))) = true then
                  unicode_utf8_ValidString_K7 a2 true
                else
                  (idx a2 2).bind fun b39 =>
                  if (decide ((b39.toNat : Int) < 128)) = true then
                    unicode_utf8_ValidString_K7 a2 true
                  else
                    (idx a2 2).bind fun b40 =>
                    if (decide ((191 : Int) < (b40.toNat : Int))) = true then
                      unicode_utf8_ValidString_K7 a2 true
                    else
                      (idx a2 3).bind fun b41 =>
                      if (decide ((b41.toNat : Int) < 128)) = true then
                        unicode_utf8_ValidString_K7 a2 true
                      else
                        (idx a2 3).bind fun b42 =>
                        unicode_utf8_ValidString_K7 a2 (decide ((191 : Int) < (b42.toNat : Int)))
          else
            Option.map .inr <|
            some false
  else
    Option.map .inr <|
    unicode_utf8_ValidString_K1 ()
def unicode_utf8_ValidString (y0 : List UInt8) : Option Bool :=
  iter unicode_utf8_ValidString_L1 y0
def slices_IndexFunc_sstring_string_K1 (j1 : Unit) : Option Int :=
  some ((-1) : Int)
def slices_IndexFunc_sstring_string_L1 (y0 : List (List UInt8)) (g1 : (List UInt8) → Option Bool) (a2 : Int) : Option (Int ⊕ Int) :=
  if (decide (a2 < (y0.length : Int))) = true then
    (idx y0 a2).bind fun p3 =>
    (g1 p3).bind fun r4 =>
    if r4 = true then
      Option.map .inr <|
      some a2
    else
      some (.inl (W (a2 + 1)))
  else
    Option.map .inr <|
    slices_IndexFunc_sstring_string_K1 ()
def slices_IndexFunc_sstring_string (y0 : List (List UInt8)) (g1 : (List UInt8) → Option Bool) : Option Int :=
  iter (slices_IndexFunc_sstring_string_L1 y0 g1) 0
def slices_ContainsFunc_sstring_string (y0 : List (List UInt8)) (g1 : (List UInt8) → Option Bool) : Option Bool :=
  (slices_IndexFunc_sstring_string y0 g1).bind fun r1 =>
  some (decide (r1 ≥ 0))
def internal_stringslite_Index (y0 : List UInt8) (y1 : List UInt8) : Option Int :=
  if (if ((y1.length : Int) == 0) = true then true else (y1 == y0)) = true then
    some (0 : Int)
  else
    if ((y1.length : Int) == 1) = true then
      (idx y1 0).bind fun b1 =>
      (indexByteF y0 (b1.toNat : Int)).bind fun r2 =>
      some r2
    else
      if (decide ((y1.length : Int) ≥ (y0.length : Int))) = true then
        some ((-1) : Int)
      else
        none
def internal_stringslite_Cut (y0 : List UInt8) (y1 : List UInt8) : Option ((List UInt8) × (List UInt8) × Bool) :=
  (internal_stringslite_Index y0 y1).bind fun r1 =>
  if (decide (r1 ≥ 0)) = true then
    (sub y0 0 r1).bind fun t2 =>
    (sub y0 (W (r1 + (y1.length : Int))) (y0.length : Int)).bind fun t3 =>
    some (t2, t3, true)
  else
    some (y0, [], false)
def strings_Cut (y0 : List UInt8) (y1 : List UInt8) : Option ((List UInt8) × (List UInt8) × Bool) :=
  (internal_stringslite_Cut y0 y1).bind fun r1 =>
  some (r1.1, r1.2.1, r1.2.2)
def tags_letters_c1 (y0 : Int) (y1 : Int) (y2 : Int) : Option Unit :=
  some ()
def slices_IndexFunc_sbyte_byte_K1 (j1 : Unit) : Option Int :=
  some (-1)
def slices_IndexFunc_sbyte_byte_L1 (y0 : List Int) (y1 : Int) (y2 : Int) (a2 : Int) : Option (Int ⊕ Int) :=
  if (decide (a2 < (y0.length : Int))) = true then
    (idx y0 a2).bind fun p3 =>
    (tags_letters_c1 p3 y1 y2).bind fun r4 =>
    if (if (decide (p3 < y1)) = true then true else (decide (p3 > y2))) = true then
      Option.map .inr <|
      some a2
    else
      some (.inl (W (a2 + 1)))
  else
    Option.map .inr <|
    slices_IndexFunc_sbyte_byte_K1 ()
def slices_IndexFunc_sbyte_byte (y0 : List Int) (y1 : Int) (y2 : Int) : Option Int :=
  iter (slices_IndexFunc_sbyte_byte_L1 y0 y1 y2) 0
def slices_ContainsFunc_sbyte_byte (y0 : List Int) (y1 : Int) (y2 : Int) : Option Bool :=
  (slices_IndexFunc_sbyte_byte y0 y1 y2).bind fun r1 =>
  some (decide (r1 ≥ 0))
def tags_letters (y0 : List UInt8) (y1 : Int) (y2 : Int) : Option Bool :=
  (slices_ContainsFunc_sbyte_byte (bytesI y0) y1 y2).bind fun r2 =>
  some (!r2)
def tags_comment (y0 : List UInt8) : Option Bool :=
  (strings_Cut y0 [61]).bind fun r1 =>
  if (if r1.2.2 = true then (!(r1.1 == [])) else false) = true then
    (tags_letters r1.1 (32 : Int) (125 : Int)).bind fun r2 =>
    if r2 = true then
      (unicode_utf8_ValidString y0).bind fun r3 =>
      some r3
    else
      some false
  else
    some false
def tags_Comments_Write_c1 (y0 : List UInt8) : Option Bool :=
  (tags_comment y0).bind fun r1 =>
  some (!r1)
def tags_low (y0 : Int) : Option (List Int) :=
  some [(IntKind.u8.wrap y0), (IntKind.u8.wrap (shD .shr .i64 y0 8)), (IntKind.u8.wrap (shD .shr .i64 y0 16)), (IntKind.u8.wrap (shD .shr .i64 y0 24))]
def slices_Concat_sbyte_byte_K2 (j3 : (List Int)) : Option (List Int) :=
  some j3
def slices_Concat_sbyte_byte_L1 (y0 : List (List Int)) (a4 : Int × (List Int)) : Option ((Int × (List Int)) ⊕ (List Int)) :=
  if (decide (a4.1 < (y0.length : Int))) = true then
    (idx y0 a4.1).bind fun p5 =>
    (app 1 a4.2 p5).bind fun l6 =>
    some (.inl ((W (a4.1 + 1)), l6))
  else
    Option.map .inr <|
    slices_Concat_sbyte_byte_K2 a4.2
def slices_Concat_sbyte_byte_K1 (y0 : List (List Int)) (j1 : Int) : Option (List Int) :=
  (growF j1).bind fun r2 =>
  iter (slices_Concat_sbyte_byte_L1 y0) (0, r2)
def slices_Concat_sbyte_byte_L2 (y0 : List (List Int)) (a7 : Int × Int) : Option ((Int × Int) ⊕ (List Int)) :=
  if (decide (a7.2 < (y0.length : Int))) = true then
    (idx y0 a7.2).bind fun p8 =>
    if (decide ((W (a7.1 + (p8.length : Int))) < 0)) = true then
      none
    else
      some (.inl ((W (a7.1 + (p8.length : Int))), (W (a7.2 + 1))))
  else
    Option.map .inr <|
    slices_Concat_sbyte_byte_K1 y0 a7.1
def slices_Concat_sbyte_byte (y0 : List (List Int)) : Option (List Int) :=
  iter (slices_Concat_sbyte_byte_L2 y0) (0, 0)
def tags_full (y0 : List Int) : Option ((List Int) × Int) :=
  if (decide ((y0.length : Int) > 16777215)) = true then
    some (([] : List Int), (21 : Int))
  else
    some (y0, (0 : Int))
def tags_Comments_Write_K2 (j4 : (List Int)) : Option ((List Int) × Int) :=
  (tags_full j4).bind fun r5 =>
  some (r5.1, r5.2)
def tags_Comments_Write_L1 (y0 : tags_Comments) (a6 : Int × (List Int)) : Option ((Int × (List Int)) ⊕ ((List Int) × Int)) :=
  if (decide (a6.1 < (y0.L.length : Int))) = true then
    (idx y0.L a6.1).bind fun p7 =>
    (tags_low (p7.length : Int)).bind fun r8 =>
    (app 1 a6.2 r8).bind fun l9 =>
    (app 1 l9 (bytesI p7)).bind fun l10 =>
    some (.inl ((W (a6.1 + 1)), l10))
  else
    Option.map .inr <|
    tags_Comments_Write_K2 a6.2
def tags_Comments_Write_K1 (y0 : tags_Comments) (j3 : (List Int)) : Option ((List Int) × Int) :=
  iter (tags_Comments_Write_L1 y0) (0, j3)
def tags_Comments_Write (y0 : tags_Comments) : Option ((List Int) × Int) :=
  (unicode_utf8_ValidString y0.Vendor).bind fun r1 =>
  if (!r1) = true then
    some (([] : List Int), (12 : Int))
  else
    (slices_ContainsFunc_sstring_string y0.L tags_Comments_Write_c1).bind fun r2 =>
    if r2 = true then
      some (([] : List Int), (12 : Int))
    else
      (tags_low (y0.Vendor.length : Int)).bind fun r11 =>
      (tags_low (y0.L.length : Int)).bind fun r13 =>
      (slices_Concat_sbyte_byte [r11, (bytesI y0.Vendor), r13]).bind fun r14 =>
      tags_Comments_Write_K1 y0 r14
def jetsamlaw11_Bytes_K1 (j1 : Unit) : Option Bool :=
  some true
def jetsamlaw11_Bytes_L1 (y0 : List Int) (y1 : List Int) (a2 : Int) : Option (Int ⊕ Bool) :=
  if (decide (a2 < (y0.length : Int))) = true then
    (idx y0 a2).bind fun p3 =>
    (idx y1 a2).bind fun p4 =>
    if (p3 != p4) = true then
      Option.map .inr <|
      some false
    else
      some (.inl (W (a2 + 1)))
  else
    Option.map .inr <|
    jetsamlaw11_Bytes_K1 ()
def jetsamlaw11_Bytes (y0 : List Int) (y1 : List Int) : Option Bool :=
  if ((y0.length : Int) != (y1.length : Int)) = true then
    some false
  else
    iter (jetsamlaw11_Bytes_L1 y0 y1) 0
def tags_small_c1 (y0 : Int) : Option Int :=
  if (if (decide (y0 ≥ 65)) = true then (decide (y0 ≤ 90)) else false) = true then
    some (IntKind.i32.wrap ((IntKind.i32.wrap (y0 + 97)) - 65))
  else
    some y0
def tags_small (y0 : List UInt8) : Option (List UInt8) :=
  (mapSmallF tags_small_c1 y0).bind fun r1 =>
  some r1
def tags_Comments_Get_K1 (j1 : (List (List UInt8))) : Option (List (List UInt8)) :=
  some j1
def tags_Comments_Get_K2 (a2 : Int × (List (List UInt8))) (j3 : (List (List UInt8))) : Option ((Int × (List (List UInt8))) ⊕ (List (List UInt8))) :=
  some (.inl ((W (a2.1 + 1)), j3))
def tags_Comments_Get_L1 (y0 : tags_Comments) (y1 : List UInt8) (a2 : Int × (List (List UInt8))) : Option ((Int × (List (List UInt8))) ⊕ (List (List UInt8))) :=
  if (decide (a2.1 < (y0.L.length : Int))) = true then
    (idx y0.L a2.1).bind fun p4 =>
    (strings_Cut p4 [61]).bind fun r5 =>
    if r5.2.2 = true then
      (tags_small r5.1).bind fun r6 =>
      (tags_small y1).bind fun r7 =>
      if (r6 == r7) = true then
        (app 16 a2.2 [r5.2.1]).bind fun l8 =>
        tags_Comments_Get_K2 a2 l8
      else
        tags_Comments_Get_K2 a2 a2.2
    else
      tags_Comments_Get_K2 a2 a2.2
  else
    Option.map .inr <|
    tags_Comments_Get_K1 a2.2
def tags_Comments_Get (y0 : tags_Comments) (y1 : List UInt8) : Option (List (List UInt8)) :=
  iter (tags_Comments_Get_L1 y0 y1) (0, [])
def jetsamlaw13_texts_K1 (j1 : Unit) : Option Bool :=
  some true
def jetsamlaw13_texts_L1 (y0 : List (List UInt8)) (y1 : List (List UInt8)) (a2 : Int) : Option (Int ⊕ Bool) :=
  if (decide (a2 < (y0.length : Int))) = true then
    (idx y0 a2).bind fun p3 =>
    (idx y1 a2).bind fun p4 =>
    if (!(p3 == p4)) = true then
      Option.map .inr <|
      some false
    else
      some (.inl (W (a2 + 1)))
  else
    Option.map .inr <|
    jetsamlaw13_texts_K1 ()
def jetsamlaw13_texts (y0 : List (List UInt8)) (y1 : List (List UInt8)) : Option Bool :=
  if ((y0.length : Int) != (y1.length : Int)) = true then
    some false
  else
    iter (jetsamlaw13_texts_L1 y0 y1) 0
def jetsamlaw13_awake : Option Bool :=
  (tags_Comments_Write (⟨[120], [[65, 61, 98]]⟩ : tags_Comments)).bind fun r1 =>
  if (r1.2 == 0) = true then
    (jetsamlaw11_Bytes r1.1 [(1 : Int), (0 : Int), (0 : Int), (0 : Int), (120 : Int), (1 : Int), (0 : Int), (0 : Int), (0 : Int), (3 : Int), (0 : Int), (0 : Int), (0 : Int), (65 : Int), (61 : Int), (98 : Int)]).bind fun r2 =>
    if r2 = true then
      (tags_Comments_Get (⟨[120], [[65, 61, 98]]⟩ : tags_Comments) [97]).bind fun r3 =>
      (jetsamlaw13_texts r3 [[98]]).bind fun r4 =>
      some r4
    else
      some false
  else
    some false
def tags_within_c1 (y0 : Int) (y1 : Int) (y2 : Int) : Option Unit :=
  some ()
def slices_IndexFunc_sint_int_K1 (j1 : Unit) : Option Int :=
  some (-1)
def slices_IndexFunc_sint_int_L1 (y0 : List Int) (y1 : Int) (y2 : Int) (a2 : Int) : Option (Int ⊕ Int) :=
  if (decide (a2 < (y0.length : Int))) = true then
    (idx y0 a2).bind fun p3 =>
    (tags_within_c1 p3 y1 y2).bind fun r4 =>
    if (if (decide (p3 < y1)) = true then true else (decide (p3 > y2))) = true then
      Option.map .inr <|
      some a2
    else
      some (.inl (W (a2 + 1)))
  else
    Option.map .inr <|
    slices_IndexFunc_sint_int_K1 ()
def slices_IndexFunc_sint_int (y0 : List Int) (y1 : Int) (y2 : Int) : Option Int :=
  iter (slices_IndexFunc_sint_int_L1 y0 y1 y2) 0
def slices_ContainsFunc_sint_int (y0 : List Int) (y1 : Int) (y2 : Int) : Option Bool :=
  (slices_IndexFunc_sint_int y0 y1 y2).bind fun r1 =>
  some (decide (r1 ≥ 0))
def tags_within (y0 : Int) (y1 : Int) (y2 : List Int) : Option Bool :=
  (slices_ContainsFunc_sint_int y2 y0 y1).bind fun r1 =>
  some (!r1)
def tags_high_K1 (j2 : (List Int)) : Option (List Int) :=
  some j2
def tags_high_L1 (y0 : Int) (y1 : Int) (l1 : List Int) (a3 : Int × (List Int)) : Option ((Int × (List Int)) ⊕ (List Int)) :=
  if (decide (a3.1 < (l1.length : Int))) = true then
    need (decide ((W (8 * a3.1)) ≥ 0)) <|
    need (decide ((W ((W (y1 - 1)) - a3.1)) ≥ 0)) <|
    need (decide ((W ((W (y1 - 1)) - a3.1)) < (a3.2.length : Int))) <|
    (upd a3.2 (W ((W (y1 - 1)) - a3.1)) (IntKind.u8.wrap (shD .shr .i64 y0 (W (8 * a3.1))))).bind fun l4 =>
    some (.inl ((W (a3.1 + 1)), l4))
  else
    Option.map .inr <|
    tags_high_K1 a3.2
def tags_high (y0 : Int) (y1 : Int) : Option (List Int) :=
  (mks 1 y1 (0 : Int)).bind fun l1 =>
  iter (tags_high_L1 y0 y1 l1) (0, l1)
def tags_Picture_Write_K2 (y0 : tags_Picture) (j6 : (List Int)) : Option ((List Int) × Int) :=
  (app 1 j6 y0.Data).bind fun l7 =>
  (tags_full l7).bind fun r8 =>
  some (r8.1, r8.2)
def tags_Picture_Write_L1 (y0 : tags_Picture) (a9 : Int × (List Int)) : Option ((Int × (List Int)) ⊕ ((List Int) × Int)) :=
  if (decide (a9.1 < 5)) = true then
    (idx [y0.Width, y0.Height, y0.Bits, y0.Colors, (y0.Data.length : Int)] a9.1).bind fun p10 =>
    (tags_high p10 (4 : Int)).bind fun r11 =>
    (app 1 a9.2 r11).bind fun l12 =>
    some (.inl ((W (a9.1 + 1)), l12))
  else
    Option.map .inr <|
    tags_Picture_Write_K2 y0 a9.2
def tags_Picture_Write_K1 (y0 : tags_Picture) (j5 : (List Int)) : Option ((List Int) × Int) :=
  iter (tags_Picture_Write_L1 y0) (0, j5)
def tags_Picture_Write (y0 : tags_Picture) : Option ((List Int) × Int) :=
  (tags_letters y0.Mime (32 : Int) (126 : Int)).bind fun r1 =>
  if (!r1) = true then
    some (([] : List Int), (12 : Int))
  else
    (unicode_utf8_ValidString y0.Text).bind fun r2 =>
    if (!r2) = true then
      some (([] : List Int), (12 : Int))
    else
      (tags_within (0 : Int) (20 : Int) [y0.Kind]).bind fun r3 =>
      if (!r3) = true then
        some (([] : List Int), (10 : Int))
      else
        (tags_within (0 : Int) (4294967295 : Int) [y0.Width, y0.Height, y0.Bits, y0.Colors]).bind fun r4 =>
        if (!r4) = true then
          some (([] : List Int), (10 : Int))
        else
          (tags_high y0.Kind (4 : Int)).bind fun r13 =>
          (tags_high (y0.Mime.length : Int) (4 : Int)).bind fun r14 =>
          (tags_high (y0.Text.length : Int) (4 : Int)).bind fun r16 =>
          (slices_Concat_sbyte_byte [r13, r14, (bytesI y0.Mime), r16, (bytesI y0.Text)]).bind fun r18 =>
          tags_Picture_Write_K1 y0 r18
def jetsamref13_Text_K1 (j1 : Unit) : Option Bool :=
  some true
def jetsamref13_Text_K4 (a2 : Int) (j4 : Int × Int) (j6 : Int) : Option (Int ⊕ Bool) :=
  if (if (if (decide (j6 < j4.2)) = true then true else (decide (j6 > 1114111))) = true then true else (if (decide (j6 ≥ 55296)) = true then (decide (j6 ≤ 57343)) else false)) = true then
    Option.map .inr <|
    some false
  else
    some (.inl (W (a2 + j4.1)))
def jetsamref13_Text_L2 (y0 : List UInt8) (a2 : Int) (j4 : Int × Int) (a7 : Int × Int) : Option ((Int × Int) ⊕ (Int ⊕ Bool)) :=
  if (decide (a7.2 < j4.1)) = true then
    (idx y0 (W (a2 + a7.2))).bind fun b8 =>
    if (decide ((b8.toNat : Int) < 128)) = true then
      Option.map .inr <|
      Option.map .inr <|
      some false
    else
      (idx y0 (W (a2 + a7.2))).bind fun b9 =>
      if (decide ((b9.toNat : Int) > 191)) = true then
        Option.map .inr <|
        Option.map .inr <|
        some false
      else
        (idx y0 (W (a2 + a7.2))).bind fun b10 =>
        some (.inl ((W ((W ((W (64 * a7.1)) + (b10.toNat : Int))) - 128)), (W (a7.2 + 1))))
  else
    Option.map .inr <|
    jetsamref13_Text_K4 a2 j4 a7.1
def jetsamref13_Text_K3 (y0 : List UInt8) (a2 : Int) (j4 : Int × Int) (j5 : Int) : Option (Int ⊕ Bool) :=
  iter (jetsamref13_Text_L2 y0 a2 j4) (j5, 1)
def jetsamref13_Text_K2 (y0 : List UInt8) (a2 : Int) (b3 : UInt8) (j4 : Int × Int) : Option (Int ⊕ Bool) :=
  if (if (j4.1 == 0) = true then true else (decide ((W (a2 + j4.1)) > (y0.length : Int)))) = true then
    Option.map .inr <|
    some false
  else
    if (decide (j4.1 > 1)) = true then
      need (decide (j4.1 ≥ 0)) <|
      need ((shD .shr .i64 128 j4.1) != 0) <|
      jetsamref13_Text_K3 y0 a2 j4 ((b3.toNat : Int).tmod (shD .shr .i64 128 j4.1))
    else
      jetsamref13_Text_K3 y0 a2 j4 (b3.toNat : Int)
def jetsamref13_Text_L1 (y0 : List UInt8) (a2 : Int) : Option (Int ⊕ Bool) :=
  if (decide (a2 < (y0.length : Int))) = true then
    (idx y0 a2).bind fun b3 =>
    if (decide ((b3.toNat : Int) < 128)) = true then
      jetsamref13_Text_K2 y0 a2 b3 (1, 0)
    else
      if (if (decide ((b3.toNat : Int) ≥ 194)) = true then (decide ((b3.toNat : Int) < 224)) else false) = true then
        jetsamref13_Text_K2 y0 a2 b3 (2, 128)
      else
        if (if (decide ((b3.toNat : Int) ≥ 224)) = true then (decide ((b3.toNat : Int) < 240)) else false) = true then
          jetsamref13_Text_K2 y0 a2 b3 (3, 2048)
        else
          if (if (decide ((b3.toNat : Int) ≥ 240)) = true then (decide ((b3.toNat : Int) < 245)) else false) = true then
            jetsamref13_Text_K2 y0 a2 b3 (4, 65536)
          else
            jetsamref13_Text_K2 y0 a2 b3 (0, 0)
  else
    Option.map .inr <|
    jetsamref13_Text_K1 ()
def jetsamref13_Text (y0 : List UInt8) : Option Bool :=
  iter (jetsamref13_Text_L1 y0) 0
def jetsamref12_Big_K1 (j1 : (List Int)) : Option (List Int) :=
  some j1
def jetsamref12_Big_L1 (y0 : Int) (a2 : Int × (List Int)) : Option ((Int × (List Int)) ⊕ (List Int)) :=
  if (decide (a2.1 ≥ 0)) = true then
    need (decide ((W (8 * a2.1)) ≥ 0)) <|
    (app 1 a2.2 [(IntKind.u8.wrap ((shD .shr .i64 y0 (W (8 * a2.1))).tmod 256))]).bind fun l3 =>
    some (.inl ((W (a2.1 - 1)), l3))
  else
    Option.map .inr <|
    jetsamref12_Big_K1 a2.2
def jetsamref12_Big (y0 : Int) (y1 : Int) : Option (List Int) :=
  iter (jetsamref12_Big_L1 y0) ((W (y1 - 1)), [])
def jetsamref13_Picture_K3 (y3 : List Int) (j11 : (List Int)) : Option ((List Int) × Int) :=
  (jetsamref12_Big (y3.length : Int) (4 : Int)).bind fun r12 =>
  (app 1 j11 r12).bind fun l13 =>
  (app 1 l13 y3).bind fun l14 =>
  some (l14, (0 : Int))
def jetsamref13_Picture_L1 (y0 : Nat → Int) (y3 : List Int) (a15 : Int × (List Int)) : Option ((Int × (List Int)) ⊕ ((List Int) × Int)) :=
  if (decide (a15.1 < 5)) = true then
    (idx [(y0 0), (y0 1), (y0 2), (y0 3), (y0 4)] a15.1).bind fun p16 =>
    (jetsamref12_Big p16 (4 : Int)).bind fun r17 =>
    (app 1 a15.2 r17).bind fun l18 =>
    some (.inl ((W (a15.1 + 1)), l18))
  else
    Option.map .inr <|
    jetsamref13_Picture_K3 y3 a15.2
def jetsamref13_Picture_K2 (y0 : Nat → Int) (y1 : List UInt8) (y2 : List UInt8) (y3 : List Int) (j3 : Unit) : Option ((List Int) × Int) :=
  (jetsamref12_Big (y0 0) (4 : Int)).bind fun r4 =>
  (jetsamref12_Big (y1.length : Int) (4 : Int)).bind fun r5 =>
  (app 1 r4 r5).bind fun l6 =>
  (app 1 l6 (bytesI y1)).bind fun l7 =>
  (jetsamref12_Big (y2.length : Int) (4 : Int)).bind fun r8 =>
  (app 1 l7 r8).bind fun l9 =>
  (app 1 l9 (bytesI y2)).bind fun l10 =>
  iter (jetsamref13_Picture_L1 y0 y3) (1, l10)
def jetsamref13_Picture_L2 (y0 : Nat → Int) (y1 : List UInt8) (y2 : List UInt8) (y3 : List Int) (a19 : Int) : Option (Int ⊕ ((List Int) × Int)) :=
  if (decide (a19 < 5)) = true then
    (idx [(y0 0), (y0 1), (y0 2), (y0 3), (y0 4)] a19).bind fun p20 =>
    if (decide (p20 < 0)) = true then
      Option.map .inr <|
      some (([] : List Int), (10 : Int))
    else
      (idx [(y0 0), (y0 1), (y0 2), (y0 3), (y0 4)] a19).bind fun p21 =>
      if (decide (p21 > 4294967295)) = true then
        Option.map .inr <|
        some (([] : List Int), (10 : Int))
      else
        if (a19 == 0) = true then
          (idx [(y0 0), (y0 1), (y0 2), (y0 3), (y0 4)] a19).bind fun p22 =>
          if (decide (p22 > 20)) = true then
            Option.map .inr <|
            some (([] : List Int), (10 : Int))
          else
            some (.inl (W (a19 + 1)))
        else
          some (.inl (W (a19 + 1)))
  else
    Option.map .inr <|
    jetsamref13_Picture_K2 y0 y1 y2 y3 ()
def jetsamref13_Picture_K1 (y0 : Nat → Int) (y1 : List UInt8) (y2 : List UInt8) (y3 : List Int) (j1 : Unit) : Option ((List Int) × Int) :=
  (jetsamref13_Text y2).bind fun r2 =>
  if (!r2) = true then
    some (([] : List Int), (12 : Int))
  else
    iter (jetsamref13_Picture_L2 y0 y1 y2 y3) 0
def jetsamref13_Picture_L3 (y0 : Nat → Int) (y1 : List UInt8) (y2 : List UInt8) (y3 : List Int) (a23 : Int) : Option (Int ⊕ ((List Int) × Int)) :=
  if (decide (a23 < (y1.length : Int))) = true then
    (idx y1 a23).bind fun b24 =>
    if (decide ((b24.toNat : Int) < 32)) = true then
      Option.map .inr <|
      some (([] : List Int), (12 : Int))
    else
      (idx y1 a23).bind fun b25 =>
      if (decide ((b25.toNat : Int) > 126)) = true then
        Option.map .inr <|
        some (([] : List Int), (12 : Int))
      else
        some (.inl (W (a23 + 1)))
  else
    Option.map .inr <|
    jetsamref13_Picture_K1 y0 y1 y2 y3 ()
def jetsamref13_Picture (y0 : Nat → Int) (y1 : List UInt8) (y2 : List UInt8) (y3 : List Int) : Option ((List Int) × Int) :=
  iter (jetsamref13_Picture_L3 y0 y1 y2 y3) 0
def tags_reader_take (y0 : Int) (y1 : tags_reader) : Option ((List Int) × (List Int) × Bool) :=
  if (if (decide (y0 < 0)) = true then true else (decide (y0 > (y1.m_b.length : Int)))) = true then
    some ([], [], true)
  else
    (sub y1.m_b 0 y0).bind fun l1 =>
    (sub y1.m_b y0 (y1.m_b.length : Int)).bind fun l2 =>
    some (l1, l2, y1.m_end)
def tags_reader_high_K1 (j1 : Int × (List Int) × Bool × (List Int) × Bool) : Option (Int × (List Int) × Bool) :=
  some (j1.1, j1.2.1, j1.2.2.1)
def tags_reader_high_L1 (r2 : (List Int) × (List Int) × Bool) (a3 : Int × Int) : Option ((Int × Int) ⊕ (Int × (List Int) × Bool)) :=
  if (decide (a3.2 < (r2.1.length : Int))) = true then
    (idx r2.1 a3.2).bind fun p4 =>
    some (.inl ((arD .or .i64 (shD .shl .i64 a3.1 8) p4), (W (a3.2 + 1))))
  else
    Option.map .inr <|
    tags_reader_high_K1 (a3.1, r2.2.1, r2.2.2, r2.2.1, r2.2.2)
def tags_reader_high (y0 : Int) (y1 : tags_reader) : Option (Int × (List Int) × Bool) :=
  (tags_reader_take y0 y1).bind fun r2 =>
  iter (tags_reader_high_L1 r2) (0, 0)
def tags_reader_four (y0 : tags_reader) : Option (Int × (List Int) × Bool) :=
  (tags_reader_high (4 : Int) y0).bind fun r1 =>
  some (r1.1, r1.2.1, r1.2.2)
def tags_reader_text (y0 : tags_reader) : Option ((List UInt8) × (List Int) × Bool) :=
  (tags_reader_four y0).bind fun r1 =>
  if r1.2.2 = true then
    some ([], r1.2.1, r1.2.2)
  else
    (tags_reader_take r1.1 (⟨r1.2.1, r1.2.2, y0.m_bad⟩ : tags_reader)).bind fun r2 =>
    some ((bstr r2.1), r2.2.1, r2.2.2)
def tags_reader_over (y0 : tags_reader) : Option Int :=
  if y0.m_end = true then
    some 11
  else
    if (if y0.m_bad = true then true else (decide ((y0.m_b.length : Int) > 0))) = true then
      some 12
    else
      some 0
def tags_ReadPicture (y0 : List Int) : Option (tags_Picture × Int) :=
  (tags_reader_four (⟨y0, false, false⟩ : tags_reader)).bind fun r1 =>
  (tags_reader_text (⟨r1.2.1, r1.2.2, false⟩ : tags_reader)).bind fun r2 =>
  (tags_reader_text (⟨r2.2.1, r2.2.2, false⟩ : tags_reader)).bind fun r3 =>
  (tags_reader_four (⟨r3.2.1, r3.2.2, false⟩ : tags_reader)).bind fun r4 =>
  (tags_reader_four (⟨r4.2.1, r4.2.2, false⟩ : tags_reader)).bind fun r5 =>
  (tags_reader_four (⟨r5.2.1, r5.2.2, false⟩ : tags_reader)).bind fun r6 =>
  (tags_reader_four (⟨r6.2.1, r6.2.2, false⟩ : tags_reader)).bind fun r7 =>
  (tags_reader_text (⟨r7.2.1, r7.2.2, false⟩ : tags_reader)).bind fun r8 =>
  (tags_reader_over (⟨r8.2.1, r8.2.2, false⟩ : tags_reader)).bind fun r10 =>
  if (r10 != 0) = true then
    some ((⟨(0 : Int), [], [], (0 : Int), (0 : Int), (0 : Int), (0 : Int), ([] : List Int)⟩ : tags_Picture), r10)
  else
    (tags_Picture_Write (⟨r1.1, r2.1, r3.1, r4.1, r5.1, r6.1, r7.1, (bytesI r8.1)⟩ : tags_Picture)).bind fun r11 =>
    if (r11.2 != 0) = true then
      some ((⟨(0 : Int), [], [], (0 : Int), (0 : Int), (0 : Int), (0 : Int), ([] : List Int)⟩ : tags_Picture), r11.2)
    else
      some ((⟨r1.1, r2.1, r3.1, r4.1, r5.1, r6.1, r7.1, (bytesI r8.1)⟩ : tags_Picture), (0 : Int))
def jetsamref13_High_K1 (j1 : Int) : Option Int :=
  some j1
def jetsamref13_High_L1 (y0 : List Int) (y1 : Int) (y2 : Int) (a2 : Int × Int) : Option ((Int × Int) ⊕ Int) :=
  if (decide (a2.2 < y2)) = true then
    (idx y0 (W (y1 + a2.2))).bind fun p3 =>
    some (.inl ((W ((W (256 * a2.1)) + p3)), (W (a2.2 + 1))))
  else
    Option.map .inr <|
    jetsamref13_High_K1 a2.1
def jetsamref13_High (y0 : List Int) (y1 : Int) (y2 : Int) : Option Int :=
  if (decide ((W (y1 + y2)) > (y0.length : Int))) = true then
    some ((-1) : Int)
  else
    iter (jetsamref13_High_L1 y0 y1 y2) (0, 0)
def jetsamref13_ReadPicture_K1 (y0 : List Int) (t5 : List UInt8) (t7 : List UInt8) (j8 : Int × Int × Int × Int × Int × Int) : Option ((Nat → Int) × (List UInt8) × (List UInt8) × (List Int) × Int) :=
  (jetsamref13_High y0 j8.1 (4 : Int)).bind fun r9 =>
  if (if (decide (r9 < 0)) = true then true else (decide ((W ((W (j8.1 + 4)) + r9)) > (y0.length : Int)))) = true then
    some ((arrn [(0 : Int), (0 : Int), (0 : Int), (0 : Int), (0 : Int)]), [], [], ([] : List Int), (11 : Int))
  else
    if (decide ((W ((W (j8.1 + 4)) + r9)) < (y0.length : Int))) = true then
      some ((arrn [(0 : Int), (0 : Int), (0 : Int), (0 : Int), (0 : Int)]), [], [], ([] : List Int), (12 : Int))
    else
      (jetsamref13_Picture (arrn [j8.2.1, j8.2.2.1, j8.2.2.2.1, j8.2.2.2.2.1, j8.2.2.2.2.2]) t5 t7 ([] : List Int)).bind fun r10 =>
      if (r10.2 != 0) = true then
        some ((arrn [(0 : Int), (0 : Int), (0 : Int), (0 : Int), (0 : Int)]), [], [], ([] : List Int), r10.2)
      else
        (sub y0 (W (j8.1 + 4)) (y0.length : Int)).bind fun l11 =>
        some ((arrn [j8.2.1, j8.2.2.1, j8.2.2.2.1, j8.2.2.2.2.1, j8.2.2.2.2.2]), t5, t7, l11, (0 : Int))
def jetsamref13_ReadPicture_L1 (y0 : List Int) (t5 : List UInt8) (t7 : List UInt8) (a12 : Int × Int × Int × Int × Int × Int × Int) : Option ((Int × Int × Int × Int × Int × Int × Int) ⊕ ((Nat → Int) × (List UInt8) × (List UInt8) × (List Int) × Int)) :=
  if (decide (a12.2.1 < 5)) = true then
    (jetsamref13_High y0 a12.1 (4 : Int)).bind fun r13 =>
    if (a12.2.1 == 0) = true then
      some (.inl ((W (a12.1 + 4)), (W (a12.2.1 + 1)), r13, a12.2.2.2.1, a12.2.2.2.2.1, a12.2.2.2.2.2.1, a12.2.2.2.2.2.2))
    else
      if (a12.2.1 == 1) = true then
        some (.inl ((W (a12.1 + 4)), (W (a12.2.1 + 1)), a12.2.2.1, r13, a12.2.2.2.2.1, a12.2.2.2.2.2.1, a12.2.2.2.2.2.2))
      else
        if (a12.2.1 == 2) = true then
          some (.inl ((W (a12.1 + 4)), (W (a12.2.1 + 1)), a12.2.2.1, a12.2.2.2.1, r13, a12.2.2.2.2.2.1, a12.2.2.2.2.2.2))
        else
          if (a12.2.1 == 3) = true then
            some (.inl ((W (a12.1 + 4)), (W (a12.2.1 + 1)), a12.2.2.1, a12.2.2.2.1, a12.2.2.2.2.1, r13, a12.2.2.2.2.2.2))
          else
            if (a12.2.1 == 4) = true then
              some (.inl ((W (a12.1 + 4)), (W (a12.2.1 + 1)), a12.2.2.1, a12.2.2.2.1, a12.2.2.2.2.1, a12.2.2.2.2.2.1, r13))
            else
              none
  else
    Option.map .inr <|
    jetsamref13_ReadPicture_K1 y0 t5 t7 (a12.1, a12.2.2.1, a12.2.2.2.1, a12.2.2.2.2.1, a12.2.2.2.2.2.1, a12.2.2.2.2.2.2)
def jetsamref13_ReadPicture (y0 : List Int) : Option ((Nat → Int) × (List UInt8) × (List UInt8) × (List Int) × Int) :=
  (jetsamref13_High y0 (0 : Int) (4 : Int)).bind fun r1 =>
  (jetsamref13_High y0 (4 : Int) (4 : Int)).bind fun r2 =>
  if (if (decide (r2 < 0)) = true then true else (decide ((W (8 + r2)) > (y0.length : Int)))) = true then
    some ((arrn [(0 : Int), (0 : Int), (0 : Int), (0 : Int), (0 : Int)]), [], [], ([] : List Int), (11 : Int))
  else
    (jetsamref13_High y0 (W (8 + r2)) (4 : Int)).bind fun r3 =>
    if (if (decide (r3 < 0)) = true then true else (decide ((W ((W ((W (8 + r2)) + 4)) + r3)) > (y0.length : Int)))) = true then
      some ((arrn [(0 : Int), (0 : Int), (0 : Int), (0 : Int), (0 : Int)]), [], [], ([] : List Int), (11 : Int))
    else
      (sub y0 8 (W (8 + r2))).bind fun l4 =>
      (sub y0 (W ((W (8 + r2)) + 4)) (W ((W ((W (8 + r2)) + 4)) + r3))).bind fun l6 =>
      iter (jetsamref13_ReadPicture_L1 y0 (bstr l4) (bstr l6)) ((W ((W ((W (8 + r2)) + 4)) + r3)), 1, r1, 0, 0, 0, 0)
def jetsamlaw13_picture (y0 : tags_Picture) (y1 : tags_Picture) : Option Bool :=
  if (if (if (if (if (if (if (y0.Kind == y1.Kind) = true then (y0.Mime == y1.Mime) else false) = true then (y0.Text == y1.Text) else false) = true then (y0.Width == y1.Width) else false) = true then (y0.Height == y1.Height) else false) = true then (y0.Bits == y1.Bits) else false) = true then (y0.Colors == y1.Colors) else false) = true then
    (jetsamlaw11_Bytes y0.Data y1.Data).bind fun r1 =>
    some r1
  else
    some false
def jetsamlaw13_TagsPictures (y0 : tags_Picture) (y1 : List Int) : Option Bool :=
  if (if (if (if (decide ((y0.Mime.length : Int) > 200)) = true then true else (decide ((y0.Text.length : Int) > 200))) = true then true else (decide ((y0.Data.length : Int) > 200))) = true then true else (decide ((y1.length : Int) > 500))) = true then
    (jetsamlaw13_awake).bind fun r1 =>
    some r1
  else
    (tags_Picture_Write y0).bind fun r2 =>
    (jetsamref13_Picture (arrn [y0.Kind, y0.Width, y0.Height, y0.Bits, y0.Colors]) y0.Mime y0.Text y0.Data).bind fun r3 =>
    (jetsamlaw11_Bytes r2.1 r3.1).bind fun r4 =>
    if (if (!r4) = true then true else (r2.2 != r3.2)) = true then
      some false
    else
      (tags_ReadPicture y1).bind fun r5 =>
      (jetsamref13_ReadPicture y1).bind fun r6 =>
      if (r5.2 == r6.2.2.2.2) = true then
        (jetsamlaw13_picture r5.1 (⟨(r6.1 0), r6.2.1, r6.2.2.1, (r6.1 1), (r6.1 2), (r6.1 3), (r6.1 4), r6.2.2.2.1⟩ : tags_Picture)).bind fun r7 =>
        if r7 = true then
          (jetsamlaw13_awake).bind fun r8 =>
          some r8
        else
          some false
      else
        some false
end Go.Vg
