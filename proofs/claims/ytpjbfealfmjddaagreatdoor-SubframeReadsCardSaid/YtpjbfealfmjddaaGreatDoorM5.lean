/- The plain laws: reading a subframe, inverted, and its bits -/
import Derived.Test.YtpjbfealfmjddaaGreatDoorM4
import Derived.Test.YtpjbfealfmjddaaGreatDoorM3
set_option maxRecDepth 4000
set_option linter.all false
set_option linter.unusedVariables false
set_option linter.unusedSimpArgs false
namespace Go.Vg
section
variable {b : List Int} {pos : Nat}
theorem RRead_inv {block skip : Nat} (h1 : 1 ≤ block) (h2 : block ≤ 65535) (hs : skip ≤ 32) (hb : Bytes8 b) (hbl : b.length < 2 ^ 20) (hp : pos ≤ 8 * b.length) :
    ∃ (d : List Int) (m o : Int) (ps bs : List Int) (c : Int) (p' : Nat), rice_Read (block : Int) (skip : Int) ⟨⟨(pos : Int)⟩, b⟩ = some (d, m, o, ps, bs, c, (p' : Int)) ∧ p' ≤ 8 * b.length ∧ (c = 0 ∨ Code c) ∧ (c = 0 → RiceIs b pos block skip d ⟨m, o, ps, bs⟩ (p' : Int)) := by
  unfold rice_Read
  obtain ⟨c0, g1, g2⟩ := head_spec 0 0 (block : Int) (skip : Int)
  have hc0 : c0 ≠ 1 := by
    unfold rice_head at g1
    simp only [ite_or] at g1
    rw [if_neg (by simp only [Bool.or_eq_true, decide_eq_true_eq]; omega), if_neg (by decide), need_ok (by decide)] at g1
    split at g1
    · cases g1; decide
    · rw [need_ok (by decide)] at g1
      split at g1 <;> (cases g1; decide)
  rw [g1]
  simp only [Option.bind_some]
  rw [if_neg (by simpa using hc0)]
  simp only [bits_Reader_At, Option.bind_some]
  obtain ⟨d, m, o, ps, bs, c, e, p', k1, k2, k3, k4⟩ := rread_inv (pos := pos) h1 h2 hs hb hbl hp
  rw [k1]
  simp only [Option.bind_some]
  rcases (Decidable.em (c = 0)).symm with hc | hc
  · rw [if_pos (by simpa using hc)]
    unfold bits_Reader_Seek
    rw [W_id (x := (b.length : Int) * 8) (by omega) (by omega), ite_or, if_neg (by simp only [Bool.or_eq_true, decide_eq_true_eq]; omega)]
    exact ⟨_, _, _, _, _, c, pos, rfl, hp, k3, fun h => absurd h hc⟩
  · rw [if_neg (by simpa using hc)]
    subst hc
    exact ⟨_, _, _, _, _, 0, p', rfl, k2, .inl rfl, k4⟩

theorem restore_inv {q : predict_Linear} {a d : List Int} (hq : LinOk q) (ha : a.length = q.Coefs.length) (hd : d.length < 2 ^ 20) :
    ∃ c l', predict_Restore q a d = some (c, l') ∧ (c = 0 ∨ c = 10) ∧ l'.length ≤ a.length + d.length ∧ (c = 0 → l'.length = a.length + d.length ∧ l'.take a.length = a ∧ MayP l' ∧ ∀ i x, i + q.Coefs.length < l'.length → l'[q.Coefs.length + i]? = some x → ∃ t, predict_Linear_told q (l'.take (q.Coefs.length + i)) = some t ∧ d[i]? = some (W (x - t))) := by
  unfold predict_Restore slices_Clone_sint_int_x2
  have hql := hq.len
  obtain ⟨c0, h0, h0'⟩ := pcheck_spec q (by omega)
  rw [h0, h0'.2 hq]
  simp only [Option.bind_some]
  rw [if_neg (by decide), if_neg (by rw [ha]; simp), app_ok (by simp; omega)]
  simp only [Option.bind_some, List.nil_append]
  obtain ⟨mb, m1, m2⟩ := may_spec (l := a) (by omega)
  rw [m1]
  simp only [Option.bind_some]
  cases mb with
  | false => exact ⟨10, [], rfl, .inr rfl, Nat.zero_le _, fun h => (nomatch h)⟩
  | true =>
  rw [if_neg (by decide)]
  have hm : MayP a := m2.1 rfl
  refine Exists.elim (iter_for (step := predict_Restore_L1 q d) d.length (fun i s => s.1 = (i : Int) ∧ s.2.length = a.length + i ∧ s.2.take a.length = a ∧ MayP s.2 ∧ ∀ j x, j < i → s.2[q.Coefs.length + j]? = some x → ∃ t, predict_Linear_told q (s.2.take (q.Coefs.length + j)) = some t ∧ d[j]? = some (W (x - t)))
    (fun r => (r.1 = 0 ∨ r.1 = 10) ∧ r.2.length ≤ a.length + d.length ∧ (r.1 = 0 → r.2.length = a.length + d.length ∧ r.2.take a.length = a ∧ MayP r.2 ∧ ∀ i x, i + q.Coefs.length < r.2.length → r.2[q.Coefs.length + i]? = some x → ∃ t, predict_Linear_told q (r.2.take (q.Coefs.length + i)) = some t ∧ d[i]? = some (W (x - t)))) (by omega) (fun i s hi hs => ?_) (fun s hs => ?_) (a0 := (0, a)) ⟨rfl, rfl, List.take_length, hm, fun j x hj => absurd hj (Nat.not_lt_zero _)⟩) (fun r hr => ⟨r.1, r.2, hr.1, hr.2.1, hr.2.2.1, hr.2.2.2⟩)
  · obtain ⟨s1, s2, s3, s4, s5⟩ := hs
    unfold predict_Restore_L1
    rw [s1, if_pos (by simpa using hi), idx_nat hi]
    simp only [Option.bind_some]
    obtain ⟨t, t1, t2, t3⟩ := told_spec hq (by omega) (by omega) s4
    rw [t1]
    simp only [Option.bind_some]
    rw [W_id (x := -4294967296 - t) (by omega) (by omega), W_id (x := 4294967296 - t) (by omega) (by omega), ite_or]
    by_cases hbad : d[i] < -4294967296 - t ∨ d[i] ≥ 4294967296 - t
    · right
      rw [if_pos (by simpa only [Bool.or_eq_true, decide_eq_true_eq] using hbad)]
      unfold predict_Restore_K1
      exact ⟨_, rfl, .inr rfl, Nat.zero_le _, fun h => (nomatch h)⟩
    · left
      rw [if_neg (by simpa only [Bool.or_eq_true, decide_eq_true_eq] using hbad), app_ok (by simp; omega)]
      simp only [Option.bind_some]
      have ew : W (d[i] + t) = d[i] + t := W_id (by omega) (by omega)
      rw [ew]
      refine ⟨_, rfl, W_succ (by omega), by simp; omega, ?_, fun x hx => ?_, fun j x hj hx => ?_⟩
      · show (s.2 ++ [d[i] + t]).take a.length = a
        rw [List.take_append_of_le_length (by omega)]; exact s3
      · rcases List.mem_append.1 hx with h | h
        · exact s4 x h
        · rw [List.mem_singleton] at h
          omega
      · have hx : (s.2 ++ [d[i] + t])[q.Coefs.length + j]? = some x := hx
        show ∃ t', predict_Linear_told q ((s.2 ++ [d[i] + t]).take (q.Coefs.length + j)) = some t' ∧ _
        rw [List.take_append_of_le_length (by omega)]
        rcases Nat.lt_or_ge j i with hji | hji
        · rw [List.getElem?_append_left (by omega)] at hx
          exact s5 j x hji hx
        · have hji' : j = i := by omega
          subst hji'
          rw [List.getElem?_append_right (by omega), show q.Coefs.length + j - s.2.length = 0 by omega] at hx
          have hx : some (d[j] + t) = some x := hx
          cases hx
          refine ⟨t, by rw [List.take_of_length_le (by omega)]; exact t1, ?_⟩
          rw [List.getElem?_eq_getElem hi, W_id (by omega) (by omega)]
          congr 1
          omega
  · obtain ⟨s1, s2, s3, s4, s5⟩ := hs
    unfold predict_Restore_L1 predict_Restore_K1
    rw [s1, if_neg (by simp)]
    simp only [Option.map_some]
    rw [if_neg (by decide)]
    exact ⟨_, rfl, .inl rfl, by show s.2.length ≤ _; omega, fun _ => ⟨s2, s3, s4, fun i x hi hx => s5 i x (by have : i + q.Coefs.length < s.2.length := hi; omega) hx⟩⟩

/-- The samples with their noughts, whatever they are. -/
theorem read_K2_all {w : Nat} {l' : List Int} {r1 : Int × Int × Int × Int × Int} {j4 : Int × Int × Int × Int × (List Int) × Int × Int × (List Int) × (List Int) × (List Int)} (hj : j4.2.2.2.2.2.2.2.2.2 = l') (hr : r1.2.2.1 = (w : Int)) (hl : l'.length < 2 ^ 40) :
    subframe_reader_read_K2 r1 j4 = subframe_reader_read_K3 r1 j4 (l'.map fun x => shD .shl .i64 x (w : Int)) := by
  unfold subframe_reader_read_K2
  have hK : ∃ R, subframe_reader_read_K3 r1 j4 (l'.map fun x => shD .shl .i64 x (w : Int)) = some R := ⟨_, rfl⟩
  obtain ⟨R, hR⟩ := hK
  rw [hR, hj]
  generalize hlm : (l'.map fun x => shD .shl .i64 x (w : Int)) = l at *
  have hlen : l.length = l'.length := by rw [← hlm, List.length_map]
  refine Exists.elim (iter_for (step := subframe_reader_read_L1 r1 j4) l'.length (fun i a => a = ((i : Int), l.take i ++ l'.drop i)) (fun r => r = R) (by omega) (fun i a hi ha => ?_) (fun a ha => ?_) (a0 := (0, l')) (by simp)) (fun r hr => by rw [← hr.2]; exact hr.1)
  · subst ha
    left
    unfold subframe_reader_read_L1
    have hil : i < l.length := by omega
    have hlen2 : (l.take i ++ l'.drop i).length = l'.length := by simp; omega
    have hget : (l.take i ++ l'.drop i)[i]? = some l'[i] := by
      rw [List.getElem?_append_right (by simp; omega), List.length_take, Nat.min_eq_left (by omega), Nat.sub_self, List.getElem?_drop]
      exact List.getElem?_eq_getElem hi
    have hli : shD .shl .i64 l'[i] (w : Int) = l[i] := by
      have : l[i]? = some (shD .shl .i64 l'[i] (w : Int)) := by rw [← hlm, List.getElem?_map, List.getElem?_eq_getElem hi]; rfl
      rw [List.getElem?_eq_getElem hil] at this
      exact (Option.some.inj this).symm
    rw [hj, if_pos (by simpa using hi), need_ok (by simp), need_ok (by rw [hlen2]; simpa using hi), idx_ok hget]
    simp only [Option.bind_some]
    rw [hr, need_ok (by simp), need_ok (by simp), need_ok (by rw [hlen2]; simpa using hi), hli]
    unfold upd
    simp only [Option.bind_some]
    refine ⟨_, rfl, ?_⟩
    rw [W_succ (by omega)]
    refine congrArg (fun z => (((i + 1 : Nat) : Int), z)) ?_
    rw [Int.toNat_natCast, List.set_append_right _ _ (by simp; omega), List.length_take, Nat.min_eq_left (by omega), Nat.sub_self, List.drop_eq_getElem_cons hi, List.set_cons_zero, List.take_succ_eq_append_getElem hil, List.append_assoc]
    rfl
  · subst ha
    unfold subframe_reader_read_L1
    rw [hj, if_neg (by simp)]
    rw [List.drop_length, List.append_nil, ← hlen, List.take_length, hR]
    exact ⟨_, rfl, rfl⟩
end
end Go.Vg

namespace Go.Vg
section
variable {b : List Int} {pos : Nat}
/-- What subframe.Read tells where there was no error. -/
structure ReadIs (b : List Int) (pos n : Nat) (depth : Int) (p : subframe_Plan) (l l' d : List Int) (p' : Int) : Prop where
  ok : SubOk p depth l l' d
  len : l.length = n
  pars : p.Rice.Params.length ≤ 2 ^ 15
  step : Step b pos 0 (subBits p depth l' d) 0 p'
def planOf (r : List Int × Int × Int × Int × Int × Int × List Int × Int × Int × List Int × List Int × Int × Int) : subframe_Plan :=
  ⟨r.2.1, r.2.2.1, r.2.2.2.1, ⟨r.2.2.2.2.1, r.2.2.2.2.2.1, r.2.2.2.2.2.2.1⟩, ⟨r.2.2.2.2.2.2.2.1, r.2.2.2.2.2.2.2.2.1, r.2.2.2.2.2.2.2.2.2.1, r.2.2.2.2.2.2.2.2.2.2.1⟩⟩
/-- An answer of the reading. -/
def Good (b : List Int) (pos n : Nat) (depth : Int) (r : List Int × Int × Int × Int × Int × Int × List Int × Int × Int × List Int × List Int × Int × Int) : Prop :=
  ∃ p' : Nat, r.2.2.2.2.2.2.2.2.2.2.2.2 = (p' : Int) ∧ p' ≤ 8 * b.length ∧ (r.2.2.2.2.2.2.2.2.2.2.2.1 = 0 ∨ Code r.2.2.2.2.2.2.2.2.2.2.2.1) ∧ (r.2.2.2.2.2.2.2.2.2.2.2.1 = 0 → ∃ l' d, ReadIs b pos n depth (planOf r) r.1 l' d (p' : Int))

/-- All that must be so of a plan with its samples. -/
structure PreOk (n : Nat) (depth : Int) (p : subframe_Plan) (l' d : List Int) : Prop where
  head : HeadIs p depth
  len : l'.length = n
  lin : p.Kind < 3 → p.Linear.Precision = 0 ∧ p.Linear.Shift = 0 ∧ p.Linear.Coefs = []
  rice : p.Kind < 2 → p.Rice.Method = 0 ∧ p.Rice.Order = 0 ∧ p.Rice.Params = [] ∧ p.Rice.Bits = []
  coefs : p.Kind = 3 → (p.Linear.Coefs.length : Int) = p.Order
  fit : ∀ x, x ∈ l' → EscOk (depth - p.Wasted).toNat x
  same : p.Kind = 0 → ∀ x, x ∈ l' → l'[0]? = some x
  coded : 2 ≤ p.Kind → ∃ q z, CodedOk p l' d q z
theorem PreOk.shl {n : Nat} {depth : Int} {p : subframe_Plan} {l' d : List Int} (h : PreOk n depth p l' d) (hd1 : 4 ≤ depth) (hd2 : depth ≤ 33) (x : Int) (hx : x ∈ l') :
    shD .shl .i64 x p.Wasted = x * 2 ^ p.Wasted.toNat ∧ -(2 : Int) ^ (depth.toNat - 1) ≤ x * 2 ^ p.Wasted.toNat ∧ x * 2 ^ p.Wasted.toNat < (2 : Int) ^ (depth.toNat - 1) := by
  have w1 := h.head.w1; have w2 := h.head.w2
  obtain ⟨w, hw⟩ := Int.eq_ofNat_of_zero_le w1
  have ew : p.Wasted.toNat = w := by omega
  rw [ew, hw]
  have hf := h.fit x hx
  rcases hf with ⟨h0, _⟩ | ⟨_, _, f1, f2⟩
  · omega
  have e : (2 : Int) ^ (depth.toNat - 1) = 2 ^ ((depth - p.Wasted).toNat - 1) * 2 ^ w := by
    rw [← Int.pow_add]; congr 1; omega
  have hp := pow_posI w
  have hb : (2 : Int) ^ (depth.toNat - 1) ≤ 2 ^ 32 := by
    have := pow_le (show depth.toNat - 1 ≤ 32 by omega)
    have hc := pow_cast (depth.toNat - 1)
    omega
  have g1 : -(2 : Int) ^ (depth.toNat - 1) ≤ x * 2 ^ w := by
    rw [e, ← Int.neg_mul]
    exact Int.mul_le_mul_of_nonneg_right f1 (Int.le_of_lt hp)
  have g2 : x * 2 ^ w < (2 : Int) ^ (depth.toNat - 1) := by
    rw [e]
    exact Int.mul_lt_mul_of_pos_right f2 hp
  refine ⟨shl_int (by omega) (by omega) (by omega), g1, g2⟩
theorem PreOk.sub {n : Nat} {depth : Int} {p : subframe_Plan} {l' d : List Int} (h : PreOk n depth p l' d) (hd1 : 4 ≤ depth) (hd2 : depth ≤ 33) (hn1 : 1 ≤ n) (hn2 : n ≤ 65535) :
    SubOk p depth (l'.map fun x => shD .shl .i64 x p.Wasted) l' d := by
  have hp := pow_posI p.Wasted.toNat
  have hall := h.shl hd1 hd2
  have hd := h.head
  have hln := h.len
  refine ⟨hd1, hd2, by simp; omega, by simp; omega, ⟨hd.k1, hd.k2, hd.w1, hd.w2, hd.o1, hd.o2, hd.ofix, hd.oplain, h.lin, h.rice, h.coefs, hd.olin⟩, ?_, fun y hy => ?_, fun y hy => ?_, h.same, h.coded⟩
  · rw [List.map_map]
    refine (List.map_id' l').symm.trans (List.map_congr_left fun x hx => ?_)
    show x = shD .shl .i64 x p.Wasted / 2 ^ p.Wasted.toNat
    rw [(hall x hx).1, Int.mul_ediv_cancel _ (by omega)]
  · obtain ⟨x, hx, rfl⟩ := List.mem_map.1 hy
    rw [(hall x hx).1, Int.mul_ediv_cancel _ (by omega)]
  · obtain ⟨x, hx, rfl⟩ := List.mem_map.1 hy
    rw [(hall x hx).1]
    exact (hall x hx).2
theorem good_K2 {n w : Nat} {depth kind order e0 at0 e : Int} {p' : Nat} {q : predict_Linear} {rp : rice_Plan} {l' : List Int} (hd1 : 4 ≤ depth) (hd2 : depth ≤ 33) (hn1 : 1 ≤ n) (hn2 : n ≤ 65535) (hl : l'.length < 2 ^ 40) (he : e = 0 ∨ Code e) (hp' : p' ≤ 8 * b.length)
    (h : e = 0 → ∃ d, PreOk n depth ⟨kind, order, (w : Int), q, rp⟩ l' d ∧ rp.Params.length ≤ 2 ^ 15 ∧ Step b pos 0 (subBits ⟨kind, order, (w : Int), q, rp⟩ depth l' d) 0 (p' : Int)) :
    ∃ r, subframe_reader_read_K2 (kind, order, (w : Int), e0, at0) (e, (p' : Int), q.Precision, q.Shift, q.Coefs, rp.Method, rp.Order, rp.Params, rp.Bits, l') = some r ∧ Good b pos n depth r := by
  rw [read_K2_all (w := w) rfl rfl hl]
  refine ⟨_, rfl, p', rfl, hp', he, fun h0 => ?_⟩
  obtain ⟨d, h1, h2, h3⟩ := h h0
  refine ⟨l', d, h1.sub hd1 hd2 hn1 hn2, ?_, h2, h3⟩
  show (l'.map _).length = n
  rw [List.length_map]
  exact h1.len
end
end Go.Vg

namespace Go.Vg
theorem fixed_lin {n : Nat} (h : n ≤ 4) {q : predict_Linear} (hq : predict_Fixed (n : Int) = some (q, 0)) : LinOk q := by
  have key : ∀ cs : List Int, cs.length ≤ 32 → (∀ x, x ∈ cs → -8 ≤ x ∧ x < 8) → LinOk ⟨4, 0, cs⟩ := fun cs h1 h2 => ⟨h1, (show (1 : Int) ≤ 4 by decide), (show (4 : Int) ≤ 15 by decide), (show (0 : Int) ≤ 0 by decide), (show (0 : Int) ≤ 15 by decide), h2⟩
  rcases (show n = 0 ∨ n = 1 ∨ n = 2 ∨ n = 3 ∨ n = 4 by omega) with rfl | rfl | rfl | rfl | rfl
  · have : some ((⟨4, 0, []⟩ : predict_Linear), (0 : Int)) = some (q, 0) := hq
    cases this; exact key _ (by decide) (by decide)
  · have : some ((⟨4, 0, [1]⟩ : predict_Linear), (0 : Int)) = some (q, 0) := hq
    cases this; exact key _ (by decide) (by decide)
  · have : some ((⟨4, 0, [2, -1]⟩ : predict_Linear), (0 : Int)) = some (q, 0) := hq
    cases this; exact key _ (by decide) (by decide)
  · have : some ((⟨4, 0, [3, -3, 1]⟩ : predict_Linear), (0 : Int)) = some (q, 0) := hq
    cases this; exact key _ (by decide) (by decide)
  · have : some ((⟨4, 0, [4, -6, 4, -1]⟩ : predict_Linear), (0 : Int)) = some (q, 0) := hq
    cases this; exact key _ (by decide) (by decide)
theorem how_lin {kind order : Int} {w : Int} {q : predict_Linear} {rp : rice_Plan} {o : Nat} (ho : order = (o : Int)) (hk : kind = 2 ∧ o ≤ 4 ∨ kind = 3 ∧ LinOk q ∧ q.Coefs.length = o) : ∃ q', subframe_how ⟨kind, order, w, q, rp⟩ = some q' ∧ q'.Coefs.length = o ∧ LinOk q' := by
  unfold subframe_how
  rcases hk with ⟨rfl, h4⟩ | ⟨rfl, h1, h2⟩
  · obtain ⟨q', h, h'⟩ := fixed_some h4
    rw [if_pos (by rfl)]
    simp only [ho, h, Option.bind_some]
    exact ⟨q', rfl, h', fixed_lin h4 h⟩
  · rw [if_neg (by show ¬ ((3 : Int) == 2) = true; decide)]
    exact ⟨q, rfl, h2, h1⟩
section
variable {b : List Int} {pos : Nat}
theorem good_K5 {n w : Nat} {depth kind order e0 at0 e : Int} {p' : Nat} {q : predict_Linear} {rp : rice_Plan} {l' : List Int} {x y : Int} (hd1 : 4 ≤ depth) (hd2 : depth ≤ 33) (hn1 : 1 ≤ n) (hn2 : n ≤ 65535) (hl : l'.length < 2 ^ 40) (he : e = 0 ∨ Code e) (hp' : p' ≤ 8 * b.length)
    (h : e = 0 → ∃ d, PreOk n depth ⟨kind, order, (w : Int), q, rp⟩ l' d ∧ rp.Params.length ≤ 2 ^ 15 ∧ Step b pos 0 (subBits ⟨kind, order, (w : Int), q, rp⟩ depth l' d) 0 (p' : Int)) :
    ∃ r, subframe_reader_read_K5 (kind, order, (w : Int), e0, at0) (x, y, q.Precision, q.Shift, q.Coefs) (e, (p' : Int), rp.Method, rp.Order, rp.Params, rp.Bits, l') = some r ∧ Good b pos n depth r :=
  good_K2 hd1 hd2 hn1 hn2 hl he hp' h
theorem good_K4 {n w o : Nat} {depth kind order e0 at0 e : Int} {pp : Nat} {q : predict_Linear} {y3 : bits_Reader} {j3 : Int × Int × List Int} (hd1 : 4 ≤ depth) (hd2 : depth ≤ 33) (hn1 : 1 ≤ n) (hn2 : n ≤ 65535) (hb : Bytes8 b) (hbl : b.length < 2 ^ 20) (hy : y3.m_b = b) (ha : j3.2.2.length ≤ 65535) (he : e = 0 ∨ Code e) (hp' : pp ≤ 8 * b.length) (hk : kind = 2 ∨ kind = 3) (ho : order = (o : Int))
    (h : e = 0 → HeadIs ⟨kind, order, (w : Int), q, ⟨0, 0, [], []⟩⟩ depth ∧ j3.2.2.length = o ∧ (kind = 2 → q = ⟨0, 0, []⟩) ∧ (kind = 3 → LinOk q ∧ q.Coefs.length = o) ∧ Step b pos 0 (bitsOf 7 (kindN ⟨kind, order, (w : Int), q, ⟨0, 0, [], []⟩⟩) ++ (wasteBits w ++ (j3.2.2.flatMap (escBits (depth - (w : Int)).toNat) ++ (if kind = 2 then [] else linBits q)))) 0 (pp : Int)) :
    ∃ r, subframe_reader_read_K4 (n : Int) depth y3 (kind, order, (w : Int), e0, at0) j3 (e, (pp : Int), q.Precision, q.Shift, q.Coefs) = some r ∧ Good b pos n depth r := by
  unfold subframe_reader_read_K4
  rcases (Decidable.em (e = 0)).symm with hez | hez
  · rw [if_pos (by simpa using hez)]
    exact good_K2 (rp := ⟨0, 0, [], []⟩) hd1 hd2 hn1 hn2 (by omega) he hp' (fun h => absurd h hez)
  subst hez
  rw [if_neg (by simp)]
  obtain ⟨hh, ha2, hq2, hq3, hst⟩ := h rfl
  have ho32 : o ≤ 32 := by have : order ≤ 32 := hh.o2; omega
  obtain ⟨d, m, ro, ps, bs, c, p2, k1, k2, k3, k4⟩ := RRead_inv (block := n) (skip := o) (pos := pp) hn1 hn2 ho32 hb hbl hp'
  simp only [hy, ho, k1, Option.bind_some]
  unfold subframe_reader_read_K6
  rcases (Decidable.em (c = 0)).symm with hc | hc
  · rw [if_neg (by simpa using hc)]
    unfold subframe_reader_read_K7
    rw [if_neg (by simpa using hc)]
    obtain ⟨e', w1, _, w3, _⟩ := wrong_is (is := false) (c := 10) (e := c) (y := ⟨⟨(p2 : Int)⟩, y3.m_b⟩) (by decide)
    obtain rfl := w3 hc
    simp only [w1, Option.bind_some]
    exact good_K5 (rp := ⟨m, ro, ps, bs⟩) hd1 hd2 hn1 hn2 (by omega) k3 k2 (fun h => absurd h hc)
  subst hc
  rw [if_pos (by rfl)]
  obtain ⟨r1, r2, ⟨z, r3⟩, r4⟩ := k4 rfl
  obtain ⟨q', g1, g2, g3⟩ := how_lin (w := (w : Int)) (q := q) (rp := ⟨m, ro, ps, bs⟩) (kind := kind) (order := order) ho (by
    rcases hk with hk | hk
    · left; exact ⟨hk, by have : order ≤ 4 := hh.ofix hk; omega⟩
    · right; exact ⟨hk, hq3 hk⟩)
  have g1' := g1
  rw [ho] at g1
  simp only [g1, Option.bind_some]
  obtain ⟨c2, l', s1, s2, s3, s4⟩ := restore_inv (a := j3.2.2) (d := d) g3 (by omega) (by omega)
  simp only [s1, Option.bind_some]
  unfold subframe_reader_read_K7
  rcases (Decidable.em (c2 = 0)).symm with hc | hc
  · rw [if_neg (by simpa using hc)]
    obtain ⟨e', w1, _, w3, _⟩ := wrong_is (is := false) (c := 10) (e := c2) (y := ⟨⟨(p2 : Int)⟩, y3.m_b⟩) (by decide)
    obtain rfl := w3 hc
    simp only [w1, Option.bind_some]
    exact good_K5 (rp := ⟨m, ro, ps, bs⟩) hd1 hd2 hn1 hn2 (by omega) (s2.imp_right .inl) k2 (fun h => absurd h hc)
  subst hc
  obtain ⟨t1, t2, t3, t4⟩ := s4 rfl
  rw [if_pos (by rfl)]
  have hw2 : (w : Int) < depth := hh.w2
  have hdw : W (depth - (w : Int)) = ((depth - (w : Int)).toNat : Int) := by rw [W_id (by omega) (by omega)]; omega
  obtain ⟨bb, f1, f2⟩ := fits_spec (n := (depth - (w : Int)).toNat) (l := l') (by omega) (by omega) (by omega)
  simp only [hdw, f1, Option.bind_some, lett]
  obtain ⟨e', w1, w2, _, w4⟩ := wrong_is (is := !bb) (c := 10) (e := 0) (y := ⟨⟨(p2 : Int)⟩, y3.m_b⟩) (by decide)
  simp only [w1, Option.bind_some]
  rw [← ho]
  refine good_K5 (rp := ⟨m, ro, ps, bs⟩) hd1 hd2 hn1 hn2 (by omega) ((w4 rfl).imp_right .inl) k2 (fun h0 => ?_)
  have hbb : bb = true := by have := (w2.1 h0).2; simpa using this
  have hfit := f2.1 hbb
  have hln : l'.length = n := by omega
  have hkge : 2 ≤ kind := by omega
  have hcd : CodedOk ⟨kind, order, (w : Int), q, ⟨m, ro, ps, bs⟩⟩ l' d q' z :=
    ⟨g1', by show (q'.Coefs.length : Int) = order; omega, g3, t3, by omega, by omega, t4, by show rice_Size ⟨m, ro, ps, bs⟩ order d = _; rw [ho]; exact r3⟩
  refine ⟨d, ⟨⟨hh.k1, hh.k2, hh.w1, hh.w2, hh.o1, hh.o2, hh.ofix, hh.oplain, hh.olin⟩, hln, fun h => ?_, fun h => ?_, fun h => ?_, fun x hx => .inr ⟨by show 1 ≤ (depth - (w : Int)).toNat; omega, by show (depth - (w : Int)).toNat ≤ 48; omega, hfit x hx⟩, fun h => ?_, fun _ => ⟨q', z, hcd⟩⟩, r2, ?_⟩
  · have hk2 : kind = 2 := by have : kind < 3 := h; omega
    show q.Precision = 0 ∧ q.Shift = 0 ∧ q.Coefs = []
    rw [hq2 hk2]; exact ⟨rfl, rfl, rfl⟩
  · have : kind < 2 := h; omega
  · show (q.Coefs.length : Int) = order
    have := (hq3 h).2; omega
  · have : kind = 0 := h; omega
  · have e := hst.trans (y := planBits ⟨m, ro, ps, bs⟩ d o) (fun q2 hq2 => by
      obtain rfl : pp = q2 := by omega
      exact r4)
    refine e.conv fun _ => ?_
    have hpl : plainN ⟨kind, order, (w : Int), q, ⟨m, ro, ps, bs⟩⟩ l'.length = j3.2.2.length := by
      unfold plainN
      show (if kind = 0 then 1 else if kind = 1 then l'.length else order.toNat) = _
      rw [if_neg (by omega), if_neg (by omega)]; omega
    unfold subBits codeB
    rw [hpl, t2]
    show _ = bitsOf 7 (kindN ⟨kind, order, (w : Int), q, ⟨0, 0, [], []⟩⟩) ++ (wasteBits (w : Int).toNat ++ (j3.2.2.flatMap (escBits (depth - (w : Int)).toNat) ++ (if kind < 2 then [] else if kind = 2 then planBits ⟨m, ro, ps, bs⟩ d order.toNat else linBits q ++ planBits ⟨m, ro, ps, bs⟩ d order.toNat)))
    rw [if_neg (show ¬ kind < 2 by omega), ho, Int.toNat_natCast, Int.toNat_natCast]
    by_cases hk2 : kind = 2
    · rw [if_pos hk2, if_pos hk2, List.append_nil]; simp only [List.append_assoc]
    · rw [if_neg hk2, if_neg hk2]; simp only [List.append_assoc]
end
end Go.Vg

namespace Go.Vg
section
variable {b : List Int} {pos : Nat}
theorem Step.code' {e e' p' : Int} {x : List Bool} (h : Step b pos e x e' p') (he : e = 0 ∨ Code e) : e' = 0 ∨ Code e' := by
  obtain ⟨q, hq, a1, a2, a3, a4⟩ := h
  by_cases h0 : e = 0
  · have := a3 h0
    unfold Code
    omega
  · rw [a2 h0]; exact he
theorem good_K2z {n w : Nat} {depth kind order e0 at0 e : Int} {pp : Nat} {l' : List Int} (hd1 : 4 ≤ depth) (hd2 : depth ≤ 33) (hn1 : 1 ≤ n) (hn2 : n ≤ 65535) (hl : l'.length < 2 ^ 40) (he : e = 0 ∨ Code e) (hp' : pp ≤ 8 * b.length)
    (h : e = 0 → ∃ d, PreOk n depth ⟨kind, order, (w : Int), ⟨0, 0, []⟩, ⟨0, 0, [], []⟩⟩ l' d ∧ Step b pos 0 (subBits ⟨kind, order, (w : Int), ⟨0, 0, []⟩, ⟨0, 0, [], []⟩⟩ depth l' d) 0 (pp : Int)) :
    ∃ r, subframe_reader_read_K2 (kind, order, (w : Int), e0, at0) (e, (pp : Int), 0, 0, [], 0, 0, [], [], l') = some r ∧ Good b pos n depth r := by
  have key : ∀ (q : predict_Linear) (rp : rice_Plan), rp.Params = [] → (e = 0 → ∃ d, PreOk n depth ⟨kind, order, (w : Int), q, rp⟩ l' d ∧ Step b pos 0 (subBits ⟨kind, order, (w : Int), q, rp⟩ depth l' d) 0 (pp : Int)) → ∃ r, subframe_reader_read_K2 (kind, order, (w : Int), e0, at0) (e, (pp : Int), q.Precision, q.Shift, q.Coefs, rp.Method, rp.Order, rp.Params, rp.Bits, l') = some r ∧ Good b pos n depth r := fun q rp hr h => good_K2 hd1 hd2 hn1 hn2 hl he hp' (fun h0 => by
    obtain ⟨d, h1, h2⟩ := h h0
    exact ⟨d, h1, by rw [hr]; exact Nat.zero_le _, h2⟩)
  exact key ⟨0, 0, []⟩ ⟨0, 0, [], []⟩ rfl h
theorem plain_bits {n w : Nat} {depth kind order : Int} {l' a : List Int} (hln : l'.length = n) (hk : kind < 2) (ha : l'.take (plainN ⟨kind, order, (w : Int), ⟨0, 0, []⟩, ⟨0, 0, [], []⟩⟩ n) = a) :
    bitsOf 7 (kindN ⟨kind, order, (w : Int), ⟨0, 0, []⟩, ⟨0, 0, [], []⟩⟩) ++ (wasteBits w ++ a.flatMap (escBits (depth - (w : Int)).toNat)) = subBits ⟨kind, order, (w : Int), ⟨0, 0, []⟩, ⟨0, 0, [], []⟩⟩ depth l' [] := by
  unfold subBits codeB
  rw [hln, ha, if_pos hk, List.append_nil]
  show _ = bitsOf 7 (kindN ⟨kind, order, (w : Int), ⟨0, 0, []⟩, ⟨0, 0, [], []⟩⟩) ++ (wasteBits (w : Int).toNat ++ a.flatMap (escBits (depth - (w : Int)).toNat))
  rw [Int.toNat_natCast]
theorem good_K1 {n w o : Nat} {depth kind order e0 at0 e : Int} {pp : Nat} {y3 : bits_Reader} {a : List Int} (hd1 : 4 ≤ depth) (hd2 : depth ≤ 33) (hn1 : 1 ≤ n) (hn2 : n ≤ 65535) (hb : Bytes8 b) (hbl : b.length < 2 ^ 20) (hy : y3.m_b = b) (ha : a.length ≤ 65535) (he : e = 0 ∨ Code e) (hp' : pp ≤ 8 * b.length) (ho : order = (o : Int))
    (hh : HeadIs ⟨kind, order, (w : Int), ⟨0, 0, []⟩, ⟨0, 0, [], []⟩⟩ depth) (ha0 : kind = 0 → a.length = 1)
    (h : e = 0 → a.length = plainN ⟨kind, order, (w : Int), ⟨0, 0, []⟩, ⟨0, 0, [], []⟩⟩ n ∧ (∀ x, x ∈ a → EscOk (depth - (w : Int)).toNat x) ∧ Step b pos 0 (bitsOf 7 (kindN ⟨kind, order, (w : Int), ⟨0, 0, []⟩, ⟨0, 0, [], []⟩⟩) ++ (wasteBits w ++ a.flatMap (escBits (depth - (w : Int)).toNat))) 0 (pp : Int)) :
    ∃ r, subframe_reader_read_K1 (n : Int) depth y3 (kind, order, (w : Int), e0, at0) (e, (pp : Int), a) = some r ∧ Good b pos n depth r := by
  have k1 : 0 ≤ kind := hh.k1
  have k2 : kind ≤ 3 := hh.k2
  have ho32 : order ≤ 32 := hh.o2
  unfold subframe_reader_read_K1
  have plain : kind < 2 → ∀ l' : List Int, l'.length = n → (e = 0 → (∀ x, x ∈ l' → EscOk (depth - (w : Int)).toNat x) ∧ (kind = 0 → ∀ x, x ∈ l' → l'[0]? = some x) ∧ l'.take (plainN ⟨kind, order, (w : Int), ⟨0, 0, []⟩, ⟨0, 0, [], []⟩⟩ n) = a) →
      ∃ r, subframe_reader_read_K2 (kind, order, (w : Int), e0, at0) (e, (pp : Int), 0, 0, [], 0, 0, [], [], l') = some r ∧ Good b pos n depth r := by
    intro hk l' hln hl
    refine good_K2z hd1 hd2 hn1 hn2 (by omega) he hp' (fun h0 => ?_)
    obtain ⟨g1, g2, g3⟩ := h h0
    obtain ⟨m1, m2, m3⟩ := hl h0
    refine ⟨[], ⟨hh, hln, fun _ => ⟨rfl, rfl, rfl⟩, fun _ => ⟨rfl, rfl, rfl, rfl⟩, fun h3 => ?_, m1, m2, fun h2 => ?_⟩, g3.conv fun _ => plain_bits hln hk m3⟩
    · have : kind = 3 := h3; omega
    · have : 2 ≤ kind := h2; omega
  rcases (show kind = 0 ∨ kind = 1 ∨ kind = 2 ∨ kind = 3 by omega) with hk | hk | hk | hk
  · rw [if_pos (by simpa using hk)]
    have hal := ha0 hk
    obtain ⟨x, hx⟩ : ∃ x, a = [x] := by
      cases a with
      | nil => cases hal
      | cons x tl =>
        cases tl with
        | nil => exact ⟨x, rfl⟩
        | cons y tl => simp at hal
    have hrep : slices_Repeat_sint_int a (n : Int) = some (List.replicate n x) := by rw [hx]; exact repeat_of (by omega) hn1
    have hpl : plainN ⟨kind, order, (w : Int), ⟨0, 0, []⟩, ⟨0, 0, [], []⟩⟩ n = 1 := by unfold plainN; exact if_pos hk
    obtain ⟨r, r1, r2⟩ := plain (by omega) (List.replicate n x) (by simp) (fun h0 => ⟨fun y hy => by
      rw [List.eq_of_mem_replicate hy]
      exact (h h0).2.1 x (by rw [hx]; simp), fun _ y hy => by
      rw [List.eq_of_mem_replicate hy, List.getElem?_replicate, if_pos (by omega)], by
      rw [hpl, List.take_replicate, Nat.min_eq_left hn1, hx]
      rfl⟩)
    exact ⟨r, (congrArg (fun z => Option.bind z fun r21 => subframe_reader_read_K2 (kind, order, (w : Int), e0, at0) (e, (pp : Int), 0, 0, [], 0, 0, [], [], r21)) hrep).trans r1, r2⟩
  · rw [if_neg (by simp [hk]), if_neg (by simp [hk]), if_neg (by simp [hk])]
    rcases (Decidable.em (e = 0)).symm with hez | hez
    · exact good_K2z (l' := a) hd1 hd2 hn1 hn2 (by omega) he hp' (fun h0 => absurd h0 hez)
    have hpn : plainN ⟨kind, order, (w : Int), ⟨0, 0, []⟩, ⟨0, 0, [], []⟩⟩ n = n := by
      unfold plainN
      show (if kind = 0 then 1 else if kind = 1 then n else order.toNat) = _
      rw [if_neg (by omega), if_pos hk]
    refine plain (by omega) a (by rw [(h hez).1, hpn]) (fun h0 => ⟨(h h0).2.1, fun h9 => by omega, ?_⟩)
    rw [hpn, List.take_of_length_le (by rw [(h h0).1, hpn]; exact Nat.le_refl _)]
  · rw [if_neg (by simp [hk]), if_neg (by simp [hk]), if_pos (by simpa using hk)]
    refine good_K4 (q := ⟨0, 0, []⟩) (o := o) hd1 hd2 hn1 hn2 hb hbl hy ha he hp' (.inl hk) ho (fun h0 => ?_)
    obtain ⟨g1, g2, g3⟩ := h h0
    refine ⟨hh, ?_, fun _ => rfl, fun h3 => by omega, ?_⟩
    · rw [g1]
      unfold plainN
      show (if kind = 0 then 1 else if kind = 1 then n else order.toNat) = _
      rw [if_neg (by omega), if_neg (by omega)]; omega
    · rw [if_pos hk, List.append_nil]; exact g3
  · rw [if_neg (by simp [hk]), if_pos (by simpa using hk)]
    obtain ⟨q, e', p', m1, m2, m3⟩ := linear_inv (order := o) (e := e) (pos := pp) (by omega) hb hbl hp'
    rw [ho, hy]
    simp only [m1, Option.bind_some]
    have hec := m2.code' he
    have m2' := m2
    obtain ⟨p2, rfl, m4, _⟩ := m2
    rw [← ho]
    refine good_K4 (q := q) (o := o) hd1 hd2 hn1 hn2 hb hbl hy ha hec m4 (.inr hk) ho (fun h0 => ?_)
    have hez := m2'.zero h0
    obtain ⟨g1, g2, g3⟩ := h hez
    subst hez
    refine ⟨⟨hh.k1, hh.k2, hh.w1, hh.w2, hh.o1, hh.o2, hh.ofix, hh.oplain, hh.olin⟩, ?_, fun h2 => by omega, fun _ => m3 h0, ?_⟩
    · show a.length = o
      rw [g1]
      unfold plainN
      show (if kind = 0 then 1 else if kind = 1 then n else order.toNat) = _
      rw [if_neg (by omega), if_neg (by omega)]; omega
    · rw [if_neg (by omega)]
      subst h0
      have e := g3.trans (y := linBits q) (fun q2 hq2 => by
        obtain rfl : pp = q2 := by omega
        exact m2')
      refine e.conv fun _ => ?_
      simp only [List.append_assoc]
      rfl
theorem read_inv {n : Nat} {depth : Int} (hd1 : 4 ≤ depth) (hd2 : depth ≤ 33) (hn1 : 1 ≤ n) (hn2 : n ≤ 65535) (hb : Bytes8 b) (hbl : b.length < 2 ^ 20) (hp : pos ≤ 8 * b.length) :
    ∃ r, subframe_reader_read (n : Int) depth 0 ⟨⟨(pos : Int)⟩, b⟩ = some r ∧ Good b pos n depth r := by
  unfold subframe_reader_read
  obtain ⟨kind, order, w, e, p', h1, h2⟩ := head_inv (pos := pos) hd1 hb hbl hp
  rw [h1]
  simp only [Option.bind_some]
  obtain ⟨h3, h4⟩ := h2 ⟨kind, order, (w : Int), ⟨0, 0, []⟩, ⟨0, 0, [], []⟩⟩ rfl rfl rfl
  have h3' := h3
  have hec := h3.code' (.inl rfl)
  obtain ⟨at0, rfl, a1, _⟩ := h3
  rcases (Decidable.em (e = 0)).symm with hez | hez
  · rw [if_pos (by simpa using hez)]
    exact ⟨_, rfl, at0, rfl, a1, hec, fun h => absurd h hez⟩
  subst hez
  rw [if_neg (by simp)]
  have hh := h4 rfl
  have k1 : 0 ≤ kind := hh.k1
  have k2 : kind ≤ 3 := hh.k2
  have o1 : 0 ≤ order := hh.o1
  have o32 : order ≤ 32 := hh.o2
  have hw2 : (w : Int) < depth := hh.w2
  obtain ⟨o, ho⟩ := Int.eq_ofNat_of_zero_le o1
  have hidx : idx [(1 : Int), (n : Int), order, order] kind = some (plainN ⟨kind, order, (w : Int), ⟨0, 0, []⟩, ⟨0, 0, [], []⟩⟩ n : Int) ∧ plainN ⟨kind, order, (w : Int), ⟨0, 0, []⟩, ⟨0, 0, [], []⟩⟩ n ≤ 65535 := by
    show idx [(1 : Int), (n : Int), order, order] kind = some ((if kind = 0 then 1 else if kind = 1 then n else order.toNat : Nat) : Int) ∧ (if kind = 0 then 1 else if kind = 1 then n else order.toNat) ≤ 65535
    rcases (show kind = 0 ∨ kind = 1 ∨ kind = 2 ∨ kind = 3 by omega) with rfl | rfl | rfl | rfl
    · exact ⟨rfl, by rw [if_pos rfl]; omega⟩
    · exact ⟨rfl, hn2⟩
    · exact ⟨by show some order = some ((order.toNat : Nat) : Int); congr 1; omega, by show order.toNat ≤ 65535; omega⟩
    · exact ⟨by show some order = some ((order.toNat : Nat) : Int); congr 1; omega, by show order.toNat ≤ 65535; omega⟩
  obtain ⟨hidx, hN⟩ := hidx
  rw [hidx]
  simp only [Option.bind_some]
  have hN0 : kind = 0 → plainN ⟨kind, order, (w : Int), ⟨0, 0, []⟩, ⟨0, 0, [], []⟩⟩ n = 1 := fun h => by unfold plainN; rw [if_pos h]
  generalize hNN : plainN ⟨kind, order, (w : Int), ⟨0, 0, []⟩, ⟨0, 0, [], []⟩⟩ n = N at *
  have hdw : W (depth - (w : Int)) = ((depth - (w : Int)).toNat : Int) := by rw [W_id (by omega) (by omega)]; omega
  refine iter_for (step := subframe_reader_read_L2 (n : Int) depth ⟨⟨(pos : Int)⟩, b⟩ (kind, order, (w : Int), 0, (at0 : Int)) (N : Int)) N (fun i a => ∃ q : Nat, a = ((i : Int), 0, (q : Int), a.2.2.2) ∧ q ≤ 8 * b.length ∧ a.2.2.2.length = i ∧ (∀ x, x ∈ a.2.2.2 → EscOk (depth - (w : Int)).toNat x) ∧ Step b pos 0 (bitsOf 7 (kindN ⟨kind, order, (w : Int), ⟨0, 0, []⟩, ⟨0, 0, [], []⟩⟩) ++ (wasteBits w ++ a.2.2.2.flatMap (escBits (depth - (w : Int)).toNat))) 0 (q : Int))
    (Good b pos n depth) (by omega) (fun i a hi ha => ?_) (fun a ha => ?_) (a0 := (0, 0, (at0 : Int), [])) ⟨at0, rfl, a1, rfl, (fun x hx => by cases hx), by simpa using h3'⟩
  · obtain ⟨q, g1, g2, g3, g4, g5⟩ := ha
    rw [g1]
    unfold subframe_reader_read_L2
    rw [if_pos (by simpa using hi)]
    simp only [lett, hdw]
    obtain ⟨x, e', p', m1, m2, m3, m4⟩ := ssigned_inv (n := (depth - (w : Int)).toNat) (e := 0) (pos := q) hb hbl (by omega) g2
    simp only [m1, Option.bind_some]
    rw [app_ok (by simp; omega)]
    simp only [Option.bind_some]
    have hec := m2.code' (.inl rfl)
    have m2' := m2
    obtain ⟨q2, rfl, m5, _⟩ := m2
    rcases (Decidable.em (e' = 0)).symm with hez | hez
    · right
      rw [if_pos (by simpa using hez)]
      obtain ⟨r, r1, r2⟩ := good_K1 (pos := pos) (y3 := ⟨⟨(pos : Int)⟩, b⟩) (a := a.2.2.2 ++ [x]) (e := e') (e0 := 0) (at0 := (at0 : Int)) hd1 hd2 hn1 hn2 hb hbl rfl (by simp; omega) hec m5 ho hh (fun h0 => by have := hN0 h0; rw [List.length_append, List.length_singleton]; omega) (fun h0 => absurd h0 hez)
      rw [r1]
      exact ⟨_, rfl, r2⟩
    · left
      subst hez
      rw [if_neg (by simp)]
      refine ⟨_, rfl, q2, ?_, m5, by simp; omega, fun y hy => ?_, ?_⟩
      · rw [W_succ (by omega)]
      · rcases List.mem_append.1 hy with h | h
        · exact g4 y h
        · rw [List.mem_singleton] at h; subst h; exact m3 rfl
      · have := g5.trans (y := escBits (depth - (w : Int)).toNat x) (fun q2 hq2 => by
          obtain rfl : q = q2 := by omega
          exact m2')
        simpa only [List.flatMap_append, List.flatMap_cons, List.flatMap_nil, List.append_nil, List.append_assoc] using this
  · obtain ⟨q, g1, g2, g3, g4, g5⟩ := ha
    rw [g1]
    unfold subframe_reader_read_L2
    rw [if_neg (by simp)]
    obtain ⟨r, r1, r2⟩ := good_K1 (pos := pos) (y3 := ⟨⟨(pos : Int)⟩, b⟩) (a := a.2.2.2) (e := 0) (e0 := 0) (at0 := (at0 : Int)) hd1 hd2 hn1 hn2 hb hbl rfl (by omega) (.inl rfl) g2 ho hh (fun h0 => by have := hN0 h0; omega) (fun _ => ⟨by rw [hNN]; exact g3, g4, g5⟩)
    rw [r1]
    exact ⟨_, rfl, r2⟩
theorem Read_inv {n : Nat} {depth : Int} (hd1 : 4 ≤ depth) (hd2 : depth ≤ 33) (hn1 : 1 ≤ n) (hn2 : n ≤ 65535) (hb : Bytes8 b) (hbl : b.length < 2 ^ 20) (hp : pos ≤ 8 * b.length) :
    ∃ l kind order w pr sh cs m o ps bs c at_, subframe_Read (n : Int) depth ⟨⟨(pos : Int)⟩, b⟩ = some (l, kind, order, w, pr, sh, cs, m, o, ps, bs, c, at_) ∧
      ((Code c ∧ l = [] ∧ at_ = (pos : Int)) ∨ (c = 0 ∧ ∃ p' : Nat, at_ = (p' : Int) ∧ ∃ l' d, ReadIs b pos n depth ⟨kind, order, w, ⟨pr, sh, cs⟩, ⟨m, o, ps, bs⟩⟩ l l' d (p' : Int))) := by
  unfold subframe_Read
  have s0 : subframe_sizes (n : Int) depth = some 0 := by
    unfold subframe_sizes
    rw [ite_or, ite_or, ite_or, if_neg (by simp only [Bool.or_eq_true, decide_eq_true_eq]; omega)]
  rw [s0]
  simp only [Option.bind_some]
  rw [if_neg (by decide)]
  simp only [bits_Reader_At, Option.bind_some]
  obtain ⟨r, r1, p', r2, r3, r4, r5⟩ := read_inv (pos := pos) hd1 hd2 hn1 hn2 hb hbl hp
  rw [r1]
  simp only [Option.bind_some]
  rcases (Decidable.em (r.2.2.2.2.2.2.2.2.2.2.2.1 = 0)).symm with hc | hc
  · rw [if_pos (by simpa using hc)]
    unfold bits_Reader_Seek
    rw [W_id (x := (b.length : Int) * 8) (by omega) (by omega), ite_or, if_neg (by simp only [Bool.or_eq_true, decide_eq_true_eq]; omega)]
    exact ⟨_, _, _, _, _, _, _, _, _, _, _, _, _, rfl, .inl ⟨r4.resolve_left hc, rfl, rfl⟩⟩
  · rw [if_neg (by simpa using hc)]
    exact ⟨_, _, _, _, _, _, _, _, _, _, _, _, _, rfl, .inr ⟨rfl, p', r2, r5 hc⟩⟩
end
end Go.Vg

namespace Go.Vg

theorem rput_U {n : Nat} {v : Int} (hn : n ≤ 48) (h1 : 0 ≤ v) (h2 : v < 2 ^ n) : jetsamref01_Put (n : Int) v false = some (0, b01 (bitsOf n v.toNat)) := by
  unfold jetsamref01_Put
  rw [if_neg (by rw [ite_or, Bool.or_eq_true, decide_eq_true_eq, decide_eq_true_eq]; omega)]
  have hN := number_un (l := bitsOf n (sgn n v)) (by rw [bitsOf_length]; exact hn)
  have hlen : (b01 (bitsOf n (sgn n v))).length = n := by rw [b01_length, bitsOf_length]
  have hs : sgn n v = v.toNat := by unfold sgn; rw [Int.emod_eq_of_lt h1 h2]
  refine put_loop (v := v) hn (fun i l hl => ?_) ?_
  · unfold jetsamref01_Put_L1
    rw [if_pos (by simp), need_ok (by simp), app_ok (by simp; omega)]
    rfl
  · unfold jetsamref01_Put_L1 jetsamref01_Put_K1
    rw [if_neg (by simp)]
    simp only [hN, Option.bind_some]
    rw [if_neg (by rw [(putU_val hn).2 ⟨h1, h2⟩]; simp), app_ok (by rw [List.length_nil, hlen]; omega), ← hs]
    rfl
theorem rput2_S {n : Nat} {v : Int} {y : List Int} (hn : n ≤ 48) (hv : EscOk n v) (hy : y.length < 2 ^ 40) : jetsamref01_Put_x2 (n : Int) v true y = some (0, y ++ b01 (escBits n v)) := by
  unfold jetsamref01_Put_x2
  rw [if_neg (by rw [ite_or, Bool.or_eq_true, decide_eq_true_eq, decide_eq_true_eq]; omega)]
  have hN := number_sg (l := bitsOf n (sgn n v)) (by rw [bitsOf_length]; exact hn)
  have hlen : (b01 (bitsOf n (sgn n v))).length = n := by rw [b01_length, bitsOf_length]
  refine put_loop (v := v) hn (fun i l hl => ?_) ?_
  · unfold jetsamref01_Put_x2_L1
    rw [if_pos (by simp), need_ok (by simp), app_ok (by simp; omega)]
    rfl
  · unfold jetsamref01_Put_x2_L1 jetsamref01_Put_x2_K1
    rw [if_neg (by simp)]
    simp only [hN, Option.bind_some]
    rw [if_neg (by rw [(putS_val hn).2 hv]; simp), app_ok (by rw [hlen]; omega)]
    rfl
theorem runary_y {n : Nat} {y : List Int} (hn : n ≤ 65536) (hy : y.length < 2 ^ 40) : jetsamref01_Unary (n : Int) y = some (0, y ++ b01 (List.replicate n false ++ [true])) := by
  unfold jetsamref01_Unary
  rw [if_neg (by rw [ite_or, Bool.or_eq_true, decide_eq_true_eq, decide_eq_true_eq]; omega)]
  refine Exists.elim (iter_for (step := jetsamref01_Unary_L1 (n : Int)) n (fun i a => a = ((i : Int), y ++ b01 (List.replicate i false))) (fun r => r = (0, y ++ b01 (List.replicate n false ++ [true]))) (by omega) (fun i a hi ha => ?_) (fun a ha => ?_) (a0 := (0, y)) (by simp [b01])) (fun r hr => by rw [hr.1, hr.2])
  · subst ha
    left
    unfold jetsamref01_Unary_L1
    rw [if_pos (by simpa using hi), app_ok (by simp only [List.length_append, b01_length, List.length_replicate, List.length_singleton]; omega)]
    simp only [Option.bind_some]
    refine ⟨_, rfl, ?_⟩
    rw [W_succ (by omega), List.replicate_succ', b01_append, ← List.append_assoc]
    rfl
  · subst ha
    unfold jetsamref01_Unary_L1 jetsamref01_Unary_K1
    rw [if_neg (by simp), app_ok (by simp only [List.length_append, b01_length, List.length_replicate, List.length_singleton]; omega)]
    refine ⟨_, rfl, ?_⟩
    rw [b01_append, ← List.append_assoc]
    rfl
theorem rhead_spec (m o b s : Int) : ∃ c, jetsamref05_Head m o b s = some c ∧ (c = 0 ↔ HeadOk m o b s) := by
  unfold jetsamref05_Head
  simp only [ite_or]
  by_cases h1 : (b < 1 ∨ b > 65535) ∨ s < 0 ∨ s > 32
  · rw [if_pos (by simp only [Bool.or_eq_true, decide_eq_true_eq]; omega)]
    exact ⟨_, rfl, fun h => (nomatch h), fun h => by have := h.b1; have := h.b2; have := h.s1; have := h.s2; omega⟩
  rw [if_neg (by simp only [Bool.or_eq_true, decide_eq_true_eq]; omega)]
  by_cases h2 : (m < 0 ∨ m > 1) ∨ o < 0 ∨ o > 15
  · rw [if_pos (by simp only [Bool.or_eq_true, decide_eq_true_eq]; omega)]
    exact ⟨_, rfl, fun h => (nomatch h), fun h => by have := h.m1; have := h.m2; have := h.o1; have := h.o2; omega⟩
  rw [if_neg (by simp only [Bool.or_eq_true, decide_eq_true_eq]; omega)]
  obtain ⟨p, rfl⟩ := Int.eq_ofNat_of_zero_le (show 0 ≤ o by omega)
  obtain ⟨n, rfl⟩ := Int.eq_ofNat_of_zero_le (show 0 ≤ b by omega)
  obtain ⟨k, rfl⟩ := Int.eq_ofNat_of_zero_le (show 0 ≤ s by omega)
  have hp : (2 : Nat) ^ p ≤ 2 ^ 15 := pow_le (by omega)
  have h0 : 0 < (2 : Nat) ^ p := Nat.pow_pos (by omega)
  have hne : ((((2 ^ p : Nat) : Int)) != 0) = true := by rw [bne_iff_ne]; omega
  have e1 : (n : Int).tmod ((2 ^ p : Nat) : Int) = ((n % 2 ^ p : Nat) : Int) := rfl
  have e2 : (n : Int).tdiv ((2 ^ p : Nat) : Int) = ((n / 2 ^ p : Nat) : Int) := rfl
  have hq : n / 2 ^ p ≤ n := Nat.div_le_self _ _
  rw [need_ok (by simp), pow_shl (by omega), need_ok hne, e1, need_ok (by simp), need_ok hne, e2]
  have e3 : W (((n / 2 ^ p : Nat) : Int)) = ((n / 2 ^ p : Nat) : Int) := by
    generalize n / 2 ^ p = q at *
    exact W_id (by omega) (by omega)
  rw [e3]
  by_cases h3 : n % 2 ^ p = 0
  · rw [if_neg (by simp [h3])]
    have hdc : ((n / 2 ^ p : Nat) : Int) ≤ (k : Int) ↔ ¬ k < n / 2 ^ p := by
      generalize n / 2 ^ p = q
      omega
    by_cases h4 : k < n / 2 ^ p
    · rw [if_neg (by rw [decide_eq_true_eq, hdc]; exact fun h => h h4)]
      exact ⟨_, rfl, fun _ => ⟨by omega, by omega, by omega, by omega, by omega, by omega, by omega, by omega, h3, h4⟩, fun _ => rfl⟩
    · rw [if_pos (by rw [decide_eq_true_eq, hdc]; exact h4)]
      exact ⟨_, rfl, fun h => (nomatch h), fun h => absurd h.mo h4⟩
  · rw [if_pos (by simp; exact_mod_cast h3)]
    exact ⟨_, rfl, fun h => (nomatch h), fun h => absurd h.dv h3⟩
theorem rcheck5_conv {p : jetsamref05_Plan} {m : Nat} {b s : Int} (hm : m ≤ 1) (hM : p.Method = (m : Int)) (hh : HeadOk p.Method p.Order b s) (h1 : p.Params.length = 2 ^ p.Order.toNat) (h2 : p.Bits.length = 2 ^ p.Order.toNat)
    (hp : ∀ i : Nat, i < p.Params.length → ∃ par n, idx p.Params (i : Int) = some par ∧ idx p.Bits (i : Int) = some n ∧ ParOk m par n) : jetsamref05_Check p b s = some 0 := by
  unfold jetsamref05_Check
  obtain ⟨c0, h0, h0'⟩ := rhead_spec p.Method p.Order b s
  rw [h0, h0'.2 hh]
  simp only [Option.bind_some]
  obtain ⟨o, ho⟩ := Int.eq_ofNat_of_zero_le hh.o1
  have ho2 := hh.o2
  have hpl : (2 : Nat) ^ o ≤ 2 ^ 15 := pow_le (by omega)
  have hg : decide (p.Order ≥ 0) = true := by rw [ho]; simp
  rw [ho, Int.toNat_natCast] at h1 h2
  rw [if_neg (by decide), need_ok hg, need_ok hg, ho, pow_shl (by omega), h1, h2]
  unfold jetsamref05_Check_K1
  rw [if_neg (by simp), if_neg (by simp)]
  refine Exists.elim (iter_for (step := jetsamref05_Check_L1 p) p.Params.length (fun i a => a = (i : Int)) (fun r => r = 0) (by omega) (fun i a hi ha => ?_) (fun a ha => ?_) (a0 := 0) rfl) (fun r hr => by rw [hr.1, hr.2])
  · subst ha
    left
    obtain ⟨par, n, g1, g2, g3⟩ := hp i hi
    unfold jetsamref05_Check_L1 jetsamref05_Check_K3 jetsamref05_Check_K4
    have e14 : W (14 + W (16 * (m : Int))) = 14 + 16 * (m : Int) := by rw [W_id (x := 16 * (m : Int)) (by omega) (by omega), W_id (by omega) (by omega)]
    rw [if_pos (by simpa using hi), hM, e14, g1, g2]
    simp only [Option.bind_some]
    have hes : escN m = 15 + 16 * m := by rcases (show m = 0 ∨ m = 1 by omega) with rfl | rfl <;> rfl
    rcases g3 with ⟨rfl, n0, n31⟩ | ⟨p0, p1, rfl⟩
    · rw [if_pos (by rfl), if_pos (by simpa using n0), if_neg (by decide), if_neg (by simp; omega)]
      exact ⟨_, rfl, W_succ (by omega)⟩
    · rw [if_neg (by rw [beq_iff_eq]; omega), if_pos (by simpa using p0), if_pos (by rw [decide_eq_true_eq]; omega), if_neg (by decide)]
      exact ⟨_, rfl, W_succ (by omega)⟩
  · subst ha
    unfold jetsamref05_Check_L1 jetsamref05_Check_K2
    rw [if_neg (by simp)]
    exact ⟨_, rfl, rfl⟩
end Go.Vg

namespace Go.Vg

theorem rpart_is {m : Int} {o skip at_ n : Nat} {ps bs : List Int} (hskip : skip ≤ 32) (hn : n < 2 ^ 20) (hat : at_ ≤ n) (ho : o ≤ 15) (hmo : skip < (n + skip) / 2 ^ o) :
    jetsamref05_part ⟨m, (o : Int), ps, bs⟩ ((n + skip : Nat) : Int) (skip : Int) (at_ : Int) = some (((at_ + skip) / ((n + skip) / 2 ^ o) : Nat) : Int) := by
  have hp : 0 < (2 : Nat) ^ o := Nat.pow_pos (by omega)
  have hpl : (2 : Nat) ^ o ≤ 2 ^ 15 := pow_le ho
  unfold jetsamref05_part
  have hne : ((((2 ^ o : Nat) : Int)) != 0) = true := by rw [bne_iff_ne]; omega
  have e1 : ((n + skip : Nat) : Int).tdiv ((2 ^ o : Nat) : Int) = (((n + skip) / 2 ^ o : Nat) : Int) := rfl
  have hq : (n + skip) / 2 ^ o ≤ n + skip := Nat.div_le_self _ _
  have e2 : W (((n + skip) / 2 ^ o : Nat) : Int) = (((n + skip) / 2 ^ o : Nat) : Int) := by
    generalize (n + skip) / 2 ^ o = q at *
    exact W_id (by omega) (by omega)
  have hne2 : ((((n + skip) / 2 ^ o : Nat) : Int) != 0) = true := by
    rw [bne_iff_ne]
    generalize (n + skip) / 2 ^ o = q at *
    omega
  have e3 : W ((at_ : Int) + (skip : Int)) = ((at_ + skip : Nat) : Int) := by rw [W_id (by omega) (by omega)]; omega
  rw [need_ok (by simp), pow_shl (by omega), need_ok hne, e1, e2, need_ok hne2, e3]
  have e4 : ((at_ + skip : Nat) : Int).tdiv (((n + skip) / 2 ^ o : Nat) : Int) = (((at_ + skip) / ((n + skip) / 2 ^ o) : Nat) : Int) := rfl
  have hq2 : (at_ + skip) / ((n + skip) / 2 ^ o) ≤ at_ + skip := Nat.div_le_self _ _
  rw [e4]
  generalize (at_ + skip) / ((n + skip) / 2 ^ o) = q at *
  rw [W_id (by omega) (by omega)]

theorem rone_ok {m : Nat} {par n : Int} {xs : List Int} (hm : m ≤ 1) (h : PartOk m par n xs) {v : Int} (hv : v ∈ xs) : jetsamref05_one v par n = some (b01 (bitsF par n v), true) ∧ (bitsF par n v).length ≤ 65600 := by
  have hE := escN_le hm
  unfold bitsF
  rcases h with ⟨rfl, n0, n1, hall⟩ | ⟨p0, p1, rfl, hall⟩
  · obtain ⟨k, rfl⟩ := Int.eq_ofNat_of_zero_le n0
    obtain ⟨l, b, h1, h2, h3⟩ := rone_raw (v := v) (n := k) (by omega)
    have he := hall v hv
    rw [Int.toNat_natCast] at he
    have hr : InR v := by
      unfold InR
      rcases he with ⟨_, rfl⟩ | ⟨_, _, h3, h4⟩
      · decide
      · have e : (2 : Nat) ^ (k - 1) ≤ 2 ^ 30 := pow_le (by omega)
        have ec := pow_cast (k - 1)
        omega
    have hb := h2.2 ⟨hr, he⟩
    rw [if_pos rfl, h1, h3 hb, hb, Int.toNat_natCast, escBits_length]
    exact ⟨rfl, by omega⟩
  · obtain ⟨k, rfl⟩ := Int.eq_ofNat_of_zero_le p0
    obtain ⟨l, b, h1, h2, h3⟩ := rone_code (v := v) (k := k) (by omega)
    have he := hall v hv
    rw [Int.toNat_natCast] at he
    have hb := h2.2 ⟨⟨he.1, he.2.1⟩, he.2.2⟩
    rw [if_neg (by omega), h1, h3 hb, hb, Int.toNat_natCast, codeBits_length]
    exact ⟨rfl, by have := he.2.2; omega⟩
/-- The residuals of a part are put. -/
theorem rmine2 {m : Int} {M o skip k : Nat} {ps bs d y : List Int} {a5 : Int × Int × List Int} {par n : Int} (hM : M ≤ 1) (hskip : skip ≤ 32) (hd : d.length < 2 ^ 17) (ho : o ≤ 15) (hdv : (d.length + skip) % 2 ^ o = 0) (hmo : skip < (d.length + skip) / 2 ^ o) (hk : k < 2 ^ o) (h1 : a5.1 = ((k * ((d.length + skip) / 2 ^ o) - skip : Nat) : Int)) (h2 : a5.2.1 = (k : Int))
    (hp : idx ps (k : Int) = some par) (hn : idx bs (k : Int) = some n) (hok : PartOk M par n (partXs d ((d.length + skip) / 2 ^ o) skip k)) (hy : y.length < 2 ^ 40) :
    iter (jetsamref05_Bits_L2 ⟨m, (o : Int), ps, bs⟩ (skip : Int) d a5) (a5.1, y) = some (.inl ((((k + 1) * ((d.length + skip) / 2 ^ o) - skip : Nat) : Int), ((k + 1 : Nat) : Int), y ++ b01 ((partXs d ((d.length + skip) / 2 ^ o) skip k).flatMap (bitsF par n)))) := by
  have hpp : 0 < (2 : Nat) ^ o := Nat.pow_pos (by omega)
  have hpl : (2 : Nat) ^ o ≤ 2 ^ 15 := pow_le ho
  have hb : 2 ^ o * ((d.length + skip) / 2 ^ o) = d.length + skip := by have := Nat.div_add_mod (d.length + skip) (2 ^ o); omega
  have hle : (k + 1) * ((d.length + skip) / 2 ^ o) ≤ 2 ^ o * ((d.length + skip) / 2 ^ o) := Nat.mul_le_mul_right _ hk
  have hsucc : (k + 1) * ((d.length + skip) / 2 ^ o) = k * ((d.length + skip) / 2 ^ o) + (d.length + skip) / 2 ^ o := Nat.succ_mul ..
  have e0 : W ((d.length : Int) + (skip : Int)) = ((d.length + skip : Nat) : Int) := by rw [W_id (by omega) (by omega)]; omega
  have hpart : ∀ at_ : Nat, at_ ≤ d.length → jetsamref05_part ⟨m, (o : Int), ps, bs⟩ ((d.length + skip : Nat) : Int) (skip : Int) (at_ : Int) = some (((at_ + skip) / ((d.length + skip) / 2 ^ o) : Nat) : Int) := fun at_ hat => rpart_is hskip (by omega) hat ho hmo
  generalize hs : (d.length + skip) / 2 ^ o = s at *
  have hs0 : 0 < s := by omega
  have hxl : (partXs d s skip k).length = ((k + 1) * s - skip) - (k * s - skip) := by
    unfold partXs
    rw [List.length_take, List.length_drop]
    omega
  have hget : ∀ i (h : i < (partXs d s skip k).length), (partXs d s skip k)[i] = d[k * s - skip + i]'(by omega) := by
    intro i h
    apply Option.some.inj
    rw [← List.getElem?_eq_getElem h, ← List.getElem?_eq_getElem]
    unfold partXs
    rw [List.getElem?_take, if_pos (by omega), List.getElem?_drop]
  have hflen : ∀ i, ((((partXs d s skip k).take i).flatMap (bitsF par n))).length ≤ ((partXs d s skip k).take i).length * 65600 := fun i => flatMap_len fun x hx => (rone_ok hM hok (List.mem_of_mem_take hx)).2
  refine Exists.elim (iter_for (step := jetsamref05_Bits_L2 ⟨m, (o : Int), ps, bs⟩ (skip : Int) d a5) (partXs d s skip k).length (fun i a => a = (((k * s - skip + i : Nat) : Int), y ++ b01 (((partXs d s skip k).take i).flatMap (bitsF par n)))) (fun r => r = .inl ((((k + 1) * s - skip : Nat) : Int), ((k + 1 : Nat) : Int), y ++ b01 ((partXs d s skip k).flatMap (bitsF par n)))) (by omega) (fun i a hi ha => ?_) (fun a ha => ?_) (a0 := (a5.1, y)) (by rw [h1]; simp [b01])) (fun r hr => by rw [hr.1, hr.2])
  · subst ha
    left
    unfold jetsamref05_Bits_L2
    have hlt : k * s - skip + i < d.length := by omega
    rw [if_pos (by rw [decide_eq_true_eq]; simp only; omega), e0, h2]
    simp only [hpart _ (Nat.le_of_lt hlt), Option.bind_some]
    have hdiv : (k * s - skip + i + skip) / s = k := by
      rw [Nat.div_eq_iff hs0]
      rw [hxl] at hi
      constructor
      · omega
      · have : (k + 1) * s = k * s + s := Nat.succ_mul ..
        omega
    rw [hdiv, if_pos (by simp), idx_nat hlt, hp, hn]
    simp only [Option.bind_some]
    obtain ⟨g1, g2⟩ := rone_ok hM hok (List.getElem_mem hi)
    rw [hget i hi] at g1 g2
    have h3 := hflen i
    have h4 : ((partXs d s skip k).take i).length ≤ d.length := by rw [List.length_take]; omega
    have h5 : ((partXs d s skip k).take i).length * 65600 ≤ d.length * 65600 := Nat.mul_le_mul_right _ h4
    rw [g1]
    simp only [Option.bind_some]
    rw [if_neg (by decide), app_ok (by simp only [List.length_append, b01_length]; omega)]
    simp only [Option.bind_some]
    refine ⟨_, rfl, ?_⟩
    rw [W_succ (by omega), List.take_succ_eq_append_getElem hi, hget i hi, List.flatMap_append, b01_append, ← List.append_assoc]
    simp only [List.flatMap_cons, List.flatMap_nil, List.append_nil]
    rfl
  · subst ha
    unfold jetsamref05_Bits_L2 jetsamref05_Bits_K2
    have hend : k * s - skip + (partXs d s skip k).length = (k + 1) * s - skip := by rw [hxl]; omega
    have ew : W ((k : Int) + 1) = ((k + 1 : Nat) : Int) := W_succ (by omega)
    rw [hend, List.take_length]
    by_cases hlt : (k + 1) * s - skip < d.length
    · rw [if_pos (by rw [decide_eq_true_eq]; simp only; omega), e0, h2]
      simp only [hpart _ (Nat.le_of_lt hlt), Option.bind_some]
      have hdiv : ((k + 1) * s - skip + skip) / s = k + 1 := by
        rw [show (k + 1) * s - skip + skip = (k + 1) * s by omega, Nat.mul_div_cancel _ hs0]
      rw [hdiv, if_neg (by rw [beq_iff_eq]; omega), ew]
      exact ⟨_, rfl, rfl⟩
    · rw [if_neg (by rw [decide_eq_true_eq]; simp only; omega), h2, ew]
      exact ⟨_, rfl, rfl⟩
theorem partBits_F {m : Nat} {par n : Int} {xs : List Int} (h : PartOk m par n xs) : partBits m par n xs = (if par < 0 then bitsOf (4 + m) (escN m) ++ bitsOf 5 n.toNat else bitsOf (4 + m) par.toNat) ++ xs.flatMap (bitsF par n) := by
  unfold partBits
  rcases h with ⟨rfl, n0, n1, hall⟩ | ⟨p0, p1, rfl, hall⟩
  · rw [if_pos rfl, if_pos (by decide), List.append_assoc]
    have : bitsF (-1) n = escBits n.toNat := by funext v; unfold bitsF; rw [if_pos rfl]
    rw [this]
  · rw [if_neg (by omega), if_neg (by omega)]
    have : bitsF par 0 = codeBits par.toNat := by funext v; unfold bitsF; rw [if_neg (by omega)]
    rw [this]
/-- The reference's bits of a plan. -/
theorem rbits_is {p : rice_Plan} {d : List Int} {skip : Nat} {z : Int} (hs : skip ≤ 32) (h2 : d.length + skip ≤ 65535) (hl : p.Params.length < 2 ^ 40) (hz : rice_Size p (skip : Int) d = some (z, 0)) :
    jetsamref05_Check ⟨p.Method, p.Order, p.Params, p.Bits⟩ ((d.length + skip : Nat) : Int) (skip : Int) = some 0 ∧ jetsamref05_Bits ⟨p.Method, p.Order, p.Params, p.Bits⟩ (skip : Int) d = some (b01 (planBits p d skip), 0) := by
  have hplen := plan_len hs (by omega) hl hz
  obtain ⟨hk, a1, a2, a3, a4⟩ := plan_all hs (by omega) hl hz
  have hh := hk.head
  obtain ⟨m, hm, hM⟩ := Method_nat hh
  obtain ⟨o, ho⟩ := Int.eq_ofNat_of_zero_le hh.o1
  have ho2 := hh.o2
  have hpo : (2 : Nat) ^ o ≤ 2 ^ 15 := pow_le (by omega)
  have eM : p.Method.toNat = m := by omega
  have eO : p.Order.toNat = o := by omega
  have hchk : jetsamref05_Check ⟨p.Method, p.Order, p.Params, p.Bits⟩ ((d.length + skip : Nat) : Int) (skip : Int) = some 0 :=
    rcheck5_conv (p := ⟨p.Method, p.Order, p.Params, p.Bits⟩) hm hM hh hk.len1 hk.len2 (by have := hk.par; rw [eM] at this; exact this)
  refine ⟨hchk, ?_⟩
  have hdv := hh.dv
  have hmo := hh.mo
  simp only [Int.toNat_natCast] at hdv hmo
  rw [eO] at hdv hmo
  have hlp : p.Params.length = 2 ^ o := by have := hk.len1; rw [eO] at this; exact this
  have hlb : p.Bits.length = 2 ^ o := by have := hk.len2; rw [eO] at this; exact this
  have e0 : W ((d.length : Int) + (skip : Int)) = ((d.length + skip : Nat) : Int) := by rw [W_id (by omega) (by omega)]; omega
  unfold jetsamref05_Bits
  rw [e0, hchk]
  simp only [Option.bind_some]
  have hput2 : jetsamref01_Put 2 p.Method false = some (0, b01 (bitsOf 2 m)) := by
    have := rput_U (n := 2) (v := p.Method) (by omega) (by omega) (by rw [hM]; omega)
    rw [eM] at this
    exact this
  have hput4 : ∀ y : List Int, y.length < 2 ^ 40 → jetsamref01_Put_x2 4 p.Order false y = some (0, y ++ b01 (bitsOf 4 o)) := fun y hy => by
    have := rput2_U (n := 4) (v := p.Order) (y := y) (by omega) (by omega) (by have h16 : (2 : Int) ^ 4 = 16 := (by decide); omega) hy
    rw [eO] at this
    exact this
  rw [if_neg (by decide), hput2]
  simp only [Option.bind_some]
  rw [hput4 _ (by rw [b01_length, bitsOf_length]; decide)]
  simp only [Option.bind_some]
  rw [← b01_append]
  have hqlen : (planParts p d skip).length = 2 ^ o := by unfold planParts; rw [List.length_map, List.length_range, eO]
  have hpb : planBits p d skip = bitsOf 2 m ++ bitsOf 4 o ++ (planParts p d skip).flatMap (Part.bits m) := by
    unfold planBits riceBits
    rw [eM, eO, List.append_assoc]
  have hbl : ∀ k, (bitsOf 2 m ++ bitsOf 4 o ++ ((planParts p d skip).take k).flatMap (Part.bits m)).length < 2 ^ 39 := by
    intro k
    have : (((planParts p d skip).take k).flatMap (Part.bits m)).length ≤ ((planParts p d skip).flatMap (Part.bits m)).length := by
      have := congrArg (fun l => (List.flatMap (Part.bits m) l).length) (List.take_append_drop k (planParts p d skip))
      simp only [List.flatMap_append, List.length_append] at this
      omega
    rw [hpb] at hplen
    simp only [List.length_append, bitsOf_length] at hplen ⊢
    omega
  refine Exists.elim (iter_for (step := jetsamref05_Bits_L1 ⟨p.Method, p.Order, p.Params, p.Bits⟩ (skip : Int) d) (2 ^ o) (fun k a => a = (((k * ((d.length + skip) / 2 ^ o) - skip : Nat) : Int), (k : Int), b01 (bitsOf 2 m ++ bitsOf 4 o ++ ((planParts p d skip).take k).flatMap (Part.bits m)))) (fun r => r = (b01 (planBits p d skip), 0)) (by omega) (fun k a hk' ha => ?_) (fun a ha => ?_) (a0 := (0, 0, b01 (bitsOf 2 m ++ bitsOf 4 o))) (by simp)) (fun r hr => by rw [hr.1, hr.2])
  · subst ha
    left
    have hkl : k < (planParts p d skip).length := by omega
    obtain ⟨⟨b1, b2, b3, b4, b5⟩, b6⟩ := a4 _ (List.getElem_mem hkl)
    have hq : (planParts p d skip)[k] = ⟨(Int.ofNat k, ⟨max 0 (Int.ofNat (k * ((d.length + skip) / 2 ^ o)) - Int.ofNat skip), Int.ofNat ((k + 1) * ((d.length + skip) / 2 ^ o)) - Int.ofNat skip⟩), p.Params.getD k 0, p.Bits.getD k 0, partXs d ((d.length + skip) / 2 ^ o) skip k⟩ := by
      unfold planParts
      simp only [List.getElem_map, List.getElem_range, eO]
    have hbits : ((planParts p d skip).take (k + 1)).flatMap (Part.bits m) = ((planParts p d skip).take k).flatMap (Part.bits m) ++ partBits m (p.Params.getD k 0) (p.Bits.getD k 0) (partXs d ((d.length + skip) / 2 ^ o) skip k) := by
      rw [List.take_succ_eq_append_getElem hkl, List.flatMap_append, hq]
      simp only [List.flatMap_cons, List.flatMap_nil, List.append_nil]
      rfl
    have hb1 := hbl k
    have hb2 := hbl (k + 1)
    rw [hq] at b1 b2 b5
    rw [eM] at b5
    have c1 : idx p.Params (k : Int) = some (p.Params.getD k 0) := b1
    have c2 : idx p.Bits (k : Int) = some (p.Bits.getD k 0) := b2
    have c5 : PartOk m (p.Params.getD k 0) (p.Bits.getD k 0) (partXs d ((d.length + skip) / 2 ^ o) skip k) := b5
    clear b1 b2 b3 b4 b5 b6
    have hpf := partBits_F c5
    rw [hbits, hpf] at hb2
    rw [hbits, hpf]
    generalize hpar : p.Params.getD k 0 = par at *
    generalize hnn : p.Bits.getD k 0 = n at *
    generalize hpre : bitsOf 2 m ++ bitsOf 4 o ++ ((planParts p d skip).take k).flatMap (Part.bits m) = pre at *
    have hpre2 : ∀ t, bitsOf 2 m ++ bitsOf 4 o ++ (((planParts p d skip).take k).flatMap (Part.bits m) ++ t) = pre ++ t := fun t => by rw [← hpre]; simp only [List.append_assoc]
    rw [hpre2] at hb2 ⊢
    have mine : ∀ y : List Int, y.length < 2 ^ 40 → jetsamref05_Bits_K3 ⟨p.Method, p.Order, p.Params, p.Bits⟩ (skip : Int) d (((k * ((d.length + skip) / 2 ^ o) - skip : Nat) : Int), (k : Int), b01 pre) y = some (.inl ((((k + 1) * ((d.length + skip) / 2 ^ o) - skip : Nat) : Int), ((k + 1 : Nat) : Int), y ++ b01 ((partXs d ((d.length + skip) / 2 ^ o) skip k).flatMap (bitsF par n)))) := fun y hy => by
      unfold jetsamref05_Bits_K3
      rw [ho]
      exact rmine2 (a5 := (((k * ((d.length + skip) / 2 ^ o) - skip : Nat) : Int), (k : Int), b01 pre)) hm hs (by omega) (by omega) hdv hmo hk' rfl rfl c1 c2 c5 hy
    unfold jetsamref05_Bits_L1
    have e4 : W (4 + p.Method) = ((4 + m : Nat) : Int) := by rw [W_id (by omega) (by omega)]; omega
    rw [if_pos (by simp only; rw [hlp, decide_eq_true_eq]; omega)]
    simp only [c1, c2, Option.bind_some, e4]
    have hp4 : (2 : Nat) ^ (4 + m) ≤ 2 ^ 5 := pow_le (by omega)
    have hp40 : 0 < (2 : Nat) ^ (4 + m) := Nat.pow_pos (by omega)
    have hpc := pow_cast (4 + m)
    rcases c5 with ⟨hp1, n0, n1, hall⟩ | ⟨p0, p1, hn0, hall⟩
    · have hE : W (((2 ^ (4 + m) : Nat) : Int) - 1) = (escN m : Int) := by
        unfold escN
        rw [W_id (by omega) (by omega)]
        omega
      have hEl := escN_lt m
      rw [if_pos (by rw [hp1]; decide), need_ok (by rw [decide_eq_true_eq]; omega), pow_shl (by omega), hE]
      simp only [lett]
      rw [rput2_U (by omega) (by omega) (by omega) (by rw [b01_length]; omega)]
      simp only [Option.bind_some]
      have h5 : ∀ y : List Int, y.length < 2 ^ 40 → jetsamref01_Put_x2 5 n false y = some (0, y ++ b01 (bitsOf 5 n.toNat)) := fun y hy => rput2_U (n := 5) (v := n) (y := y) (by omega) n0 (by have h32 : (2 : Int) ^ 5 = 32 := (by decide); omega) hy
      rw [h5 _ (by rw [List.length_append, b01_length, b01_length, bitsOf_length]; omega)]
      simp only [Option.bind_some]
      rw [mine _ (by simp only [List.length_append, b01_length, bitsOf_length]; omega)]
      refine ⟨_, rfl, ?_⟩
      rw [if_pos (by omega), Int.toNat_natCast]
      simp only [b01_append, List.append_assoc]
    · have hEl := escN_lt m
      rw [if_neg (by simpa using p0)]
      simp only [lett]
      rw [rput2_U (by omega) p0 (by omega) (by rw [b01_length]; omega)]
      simp only [Option.bind_some]
      rw [mine _ (by simp only [List.length_append, b01_length, bitsOf_length]; omega)]
      refine ⟨_, rfl, ?_⟩
      rw [if_neg (by omega)]
      simp only [b01_append, List.append_assoc]
  · subst ha
    unfold jetsamref05_Bits_L1 jetsamref05_Bits_K1
    rw [if_neg (by simp only; rw [hlp, decide_eq_true_eq]; omega), List.take_of_length_le (by omega), ← hpb]
    exact ⟨_, rfl, rfl⟩
end Go.Vg

namespace Go.Vg

def fixedC (o : Nat) : List Int := match o with
  | 0 => [] | 1 => [1] | 2 => [2, -1] | 3 => [3, -3, 1] | _ => [4, -6, 4, -1]
theorem fixed_is {o : Nat} (h : o ≤ 4) : predict_Fixed (o : Int) = some (⟨4, 0, fixedC o⟩, 0) ∧ (fixedC o).length = o ∧ jetsamref07_Coefs (o : Int) = some ⟨4, 0, fixedC o⟩ := by
  rcases (show o = 0 ∨ o = 1 ∨ o = 2 ∨ o = 3 ∨ o = 4 by omega) with rfl | rfl | rfl | rfl | rfl <;> exact ⟨rfl, rfl, rfl⟩
def P7 (p : subframe_Plan) : jetsamref07_Plan := ⟨p.Kind, p.Order, p.Wasted, ⟨p.Linear.Precision, p.Linear.Shift, p.Linear.Coefs⟩, ⟨p.Rice.Method, p.Rice.Order, p.Rice.Params, p.Rice.Bits⟩⟩
theorem plain7 (p : subframe_Plan) : jetsamlaw07_Plain p = some (P7 p) := rfl
section
variable {p : subframe_Plan} {depth : Int} {l l' d : List Int}
theorem rshape_is (h : ShapeOk p depth) (hd : depth ≤ 33) : jetsamref07_shape (P7 p) depth = some 0 := by
  have := h.k1; have := h.k2; have := h.w1; have := h.w2; have := h.o1; have := h.o2
  have hlin := h.lin; have hrice := h.rice; have hcoefs := h.coefs
  have hofix := h.ofix; have hopl := h.oplain; have hol := h.olin
  have key : ∀ lo hi : Int, lo ≤ p.Order → p.Order ≤ hi → jetsamref07_shape_K2 (P7 p) (lo, hi) = some 0 := by
    intro lo hi h1 h2
    unfold jetsamref07_shape_K2
    rw [ite_or, if_neg (by rw [Bool.or_eq_true, decide_eq_true_eq, decide_eq_true_eq]; show ¬ (p.Order < lo ∨ p.Order > hi); omega)]
    have c2 : (if decide ((P7 p).Kind < 3) = true then (if (if ((P7 p).Linear.Precision != 0) = true then true else ((P7 p).Linear.Shift != 0)) = true then true else (((P7 p).Linear.Coefs.length : Int) != 0)) else false) = false := by
      by_cases hk : p.Kind < 3
      · obtain ⟨a1, a2, a3⟩ := hlin hk
        simp [P7, a1, a2, a3]
      · rw [if_neg (by rw [decide_eq_true_eq]; exact hk)]
    have c3 : (if decide ((P7 p).Kind < 2) = true then (if (if (if ((P7 p).Rice.Method != 0) = true then true else ((P7 p).Rice.Order != 0)) = true then true else (((P7 p).Rice.Params.length : Int) != 0)) = true then true else (((P7 p).Rice.Bits.length : Int) != 0)) else false) = false := by
      by_cases hk : p.Kind < 2
      · obtain ⟨a1, a2, a3, a4⟩ := hrice hk
        simp [P7, a1, a2, a3, a4]
      · rw [if_neg (by rw [decide_eq_true_eq]; exact hk)]
    have c4 : (if ((P7 p).Kind == 3) = true then (((P7 p).Linear.Coefs.length : Int) != (P7 p).Order) else false) = false := by
      by_cases hk : p.Kind = 3
      · rw [if_pos (by rw [beq_iff_eq]; exact hk), bne_eq_false_iff_eq]
        exact hcoefs hk
      · rw [if_neg (by rw [beq_iff_eq]; exact hk)]
    rw [c2, c3, c4, if_neg (by decide), if_neg (by decide), if_neg (by decide)]
  unfold jetsamref07_shape
  rw [ite_or, ite_or, ite_or, if_neg (by simp only [Bool.or_eq_true, decide_eq_true_eq]; show ¬ (((p.Kind < 0 ∨ p.Kind > 3) ∨ p.Wasted < 0) ∨ p.Wasted ≥ depth); omega)]
  unfold jetsamref07_shape_K1
  rcases (show p.Kind = 0 ∨ p.Kind = 1 ∨ p.Kind = 2 ∨ p.Kind = 3 by omega) with hk | hk | hk | hk
  · rw [if_neg (by rw [beq_iff_eq]; show ¬ p.Kind = 2; omega), if_neg (by rw [beq_iff_eq]; show ¬ p.Kind = 3; omega)]
    exact key 0 0 (by omega) (by have := hopl (by omega); omega)
  · rw [if_neg (by rw [beq_iff_eq]; show ¬ p.Kind = 2; omega), if_neg (by rw [beq_iff_eq]; show ¬ p.Kind = 3; omega)]
    exact key 0 0 (by omega) (by have := hopl (by omega); omega)
  · rw [if_pos (by rw [beq_iff_eq]; exact hk), if_neg (by rw [beq_iff_eq]; show ¬ p.Kind = 3; omega)]
    exact key 0 4 (by omega) (hofix hk)
  · rw [if_neg (by rw [beq_iff_eq]; show ¬ p.Kind = 2; omega), if_pos (by rw [beq_iff_eq]; exact hk)]
    exact key 1 32 (hol hk) (by omega)
theorem coded_resid {q : predict_Linear} {z : Int} (hl : l'.length < 2 ^ 20) (hc : CodedOk p l' d q z) : d = residL q.Coefs q.Shift.toNat l' := by
  have hle := hc.le
  have hdl := hc.dlen
  have hL := hc.lin
  have s1 := hL.s1; have s2 := hL.s2
  apply List.ext_getElem?
  intro i
  by_cases hi : i + q.Coefs.length < l'.length
  · have hx : l'[q.Coefs.length + i]? = some l'[q.Coefs.length + i] := List.getElem?_eq_getElem (by omega)
    obtain ⟨t, t1, t2⟩ := hc.told i _ hi hx
    have htl : (l'.take (q.Coefs.length + i)).length = q.Coefs.length + i := by rw [List.length_take]; omega
    rw [told_acc (s := q.Shift.toNat) (by omega) (by omega) (by omega) (by omega)] at t1
    cases t1
    rw [t2, residL_get hi, getD_some (by omega)]
  · rw [List.getElem?_eq_none (by omega), List.getElem?_eq_none (by rw [residL_len]; omega)]
theorem s_K9 {q : predict_Linear} {z : Int} {b2 : Bool} {pre : List Bool} (hl : l'.length ≤ 65535) (ho0 : 0 ≤ p.Order) (ho : p.Order ≤ 32) (hR : p.Rice.Params.length ≤ 2 ^ 15) (hc : CodedOk p l' d q z) (hpre : pre.length < 2 ^ 39) :
    jetsamref07_Bits_K9 (P7 p) (l', b2) (q.Precision, q.Shift, q.Coefs) (b01 pre) = some (b01 (pre ++ planBits p.Rice d p.Order.toNat), 0) := by
  unfold jetsamref07_Bits_K9
  have hres := rresid_spec (q := ⟨q.Precision, q.Shift, q.Coefs⟩) (p := q) (l := l') rfl rfl rfl (by omega) hc.lin hc.le hc.may
  rw [← coded_resid (by omega) hc] at hres
  simp only [hres, Option.bind_some]
  obtain ⟨o, hoo⟩ := Int.eq_ofNat_of_zero_le ho0
  have eo : p.Order.toNat = o := by omega
  have hz := hc.size
  rw [hoo] at hz
  have hdl := hc.dlen; have hcl := hc.len; have hle := hc.le
  obtain ⟨_, hb⟩ := rbits_is (p := p.Rice) (d := d) (skip := o) (by omega) (by omega) (by omega) hz
  have hpl := plan_len (p := p.Rice) (d := d) (skip := o) (by omega) (by omega) (by omega) hz
  have hb' : jetsamref05_Bits (P7 p).Rice (P7 p).Order d = some (b01 (planBits p.Rice d o), 0) := by
    have : (P7 p).Order = (o : Int) := hoo
    rw [this]
    exact hb
  simp only [hb', Option.bind_some]
  rw [if_neg (by decide), app_ok (by rw [b01_length, b01_length]; omega), eo, b01_append]
  rfl
end
end Go.Vg

namespace Go.Vg
section
variable {p : subframe_Plan} {depth : Int} {l l' d : List Int}
theorem s_coefs {q : predict_Linear} {z : Int} {b2 : Bool} {pre : List Bool} (hl : l'.length ≤ 65535) (ho0 : 0 ≤ p.Order) (ho : p.Order ≤ 32) (hR : p.Rice.Params.length ≤ 2 ^ 15) (hc : CodedOk p l' d q z) (hpre : pre.length < 2 ^ 38) :
    iter (jetsamref07_Bits_L1 (P7 p) (l', b2) (q.Precision, q.Shift, q.Coefs)) (0, b01 pre) = some (b01 (pre ++ (q.Coefs.flatMap (escBits q.Precision.toNat) ++ planBits p.Rice d p.Order.toNat)), 0) := by
  have hL := hc.lin
  have := hL.len; have h1 := hL.p1; have h2 := hL.p2
  obtain ⟨n, hn⟩ := Int.eq_ofNat_of_zero_le (show 0 ≤ q.Precision by omega)
  have en : q.Precision.toNat = n := by omega
  have hfit : ∀ x, x ∈ q.Coefs → EscOk n x := fun x hx => by
    have hf := hL.fit x hx
    rw [en] at hf
    exact .inr ⟨by omega, by omega, hf.1, hf.2⟩
  rw [en]
  refine Exists.elim (iter_for (step := jetsamref07_Bits_L1 (P7 p) (l', b2) (q.Precision, q.Shift, q.Coefs)) q.Coefs.length (fun i a => a = ((i : Int), b01 (pre ++ (q.Coefs.take i).flatMap (escBits n)))) (fun r => r = (b01 (pre ++ (q.Coefs.flatMap (escBits n) ++ planBits p.Rice d p.Order.toNat)), 0)) (by omega) (fun i a hi ha => ?_) (fun a ha => ?_) (a0 := (0, b01 pre)) (by simp)) (fun r hr => by rw [hr.1, hr.2])
  · subst ha
    left
    unfold jetsamref07_Bits_L1
    have hlen : (q.Coefs.take i).length * n ≤ 32 * 15 := Nat.mul_le_mul (by simp; omega) (by omega)
    rw [if_pos (by simpa using hi)]
    simp only [idx_nat hi, Option.bind_some, hn]
    rw [rput2_S (by omega) (hfit _ (List.getElem_mem hi)) (by rw [b01_length, List.length_append, esc_flat_len]; omega)]
    simp only [Option.bind_some]
    refine ⟨_, rfl, ?_⟩
    rw [W_succ (by omega), List.take_succ_eq_append_getElem hi, List.flatMap_append, ← b01_append, List.append_assoc]
    simp only [List.flatMap_cons, List.flatMap_nil, List.append_nil]
  · subst ha
    unfold jetsamref07_Bits_L1
    have hlen : q.Coefs.length * n ≤ 32 * 15 := Nat.mul_le_mul (by omega) (by omega)
    rw [if_neg (by simp), List.take_length]
    simp only [s_K9 hl ho0 ho hR hc (show (pre ++ q.Coefs.flatMap (escBits n)).length < 2 ^ 39 by rw [List.length_append, esc_flat_len]; omega), List.append_assoc]
    exact ⟨_, rfl, rfl⟩
theorem s_K8 {q : predict_Linear} {b2 : Bool} {pre : List Bool} (h : SubOk p depth l l' d) (hR : p.Rice.Params.length ≤ 2 ^ 15) (hq : 2 ≤ p.Kind → ∃ z, CodedOk p l' d q z) (hpre : pre.length < 2 ^ 37) :
    jetsamref07_Bits_K8 (P7 p) (l', b2) (q.Precision, q.Shift, q.Coefs) (b01 pre) = some (b01 (pre ++ codeB p d), 0) := by
  have hs := h.shape
  have k1 := hs.k1; have k2 := hs.k2; have o1 := hs.o1; have o2 := hs.o2
  have hln := h.len; have n2 := h.n2
  unfold jetsamref07_Bits_K8 codeB
  by_cases hk : p.Kind < 2
  · rw [if_pos (by rw [decide_eq_true_eq]; exact hk), if_pos hk, List.append_nil]
  rw [if_neg (by rw [decide_eq_true_eq]; exact hk), if_neg hk]
  obtain ⟨z, hc⟩ := hq (by omega)
  by_cases hk2 : p.Kind = 2
  · rw [if_neg (by rw [beq_iff_eq]; show ¬ p.Kind = 3; omega), if_pos hk2]
    exact s_K9 (by omega) o1 o2 hR hc (by omega)
  · have hk3 : p.Kind = 3 := by omega
    rw [if_pos (by rw [beq_iff_eq]; exact hk3), if_neg hk2]
    have hql : q = p.Linear := by
      have hh := hc.how
      unfold subframe_how at hh
      rw [if_neg (by rw [beq_iff_eq]; exact hk2)] at hh
      exact (Option.some.inj hh).symm
    have hL := hc.lin
    have p1 := hL.p1; have p2 := hL.p2; have s1 := hL.s1; have s2 := hL.s2
    have e1 : W (q.Precision - 1) = ((q.Precision.toNat - 1 : Nat) : Int) := by rw [W_id (by omega) (by omega)]; omega
    have hp4 : ∀ y : List Int, y.length < 2 ^ 40 → jetsamref01_Put_x2 4 ((q.Precision.toNat - 1 : Nat) : Int) false y = some (0, y ++ b01 (bitsOf 4 (q.Precision.toNat - 1))) := fun y hy => rput2_U (n := 4) (v := ((q.Precision.toNat - 1 : Nat) : Int)) (y := y) (by omega) (by omega) (by have h16 : (2 : Int) ^ 4 = 16 := (by decide); omega) hy
    have hp5 : ∀ y : List Int, y.length < 2 ^ 40 → jetsamref01_Put_x2 5 q.Shift true y = some (0, y ++ b01 (escBits 5 q.Shift)) := fun y hy => rput2_S (n := 5) (v := q.Shift) (y := y) (by omega) (.inr ⟨by omega, by omega, by simp; omega, by simp; omega⟩) hy
    simp only [lett, e1]
    rw [hp4 _ (by rw [b01_length]; omega)]
    simp only [Option.bind_some]
    rw [hp5 _ (by simp only [List.length_append, b01_length, bitsOf_length]; omega)]
    simp only [Option.bind_some]
    rw [← b01_append, ← b01_append, s_coefs (by omega) o1 o2 hR hc (by simp only [List.length_append, bitsOf_length, escBits_length]; omega)]
    rw [← hql]
    unfold linBits
    simp only [List.append_assoc]
theorem s_K7 {q : predict_Linear} {b2 : Bool} {pre : List Bool} (h : SubOk p depth l l' d) (hR : p.Rice.Params.length ≤ 2 ^ 15) (hq : 2 ≤ p.Kind → ∃ z, CodedOk p l' d q z) (hpre : pre.length < 2 ^ 36) :
    jetsamref07_Bits_K7 (P7 p) depth (l', b2) (b01 pre) (plainN p l'.length : Int) (q.Precision, q.Shift, q.Coefs) () = some (b01 (pre ++ ((l'.take (plainN p l'.length)).flatMap (escBits (depth - p.Wasted).toNat) ++ codeB p d)), 0) := by
  obtain ⟨hd1, hd2, hd3⟩ := h.deep
  have hfit := h.fit
  have hpl := h.plain.1
  have hln := h.len; have n2 := h.n2
  unfold jetsamref07_Bits_K7
  generalize hN : plainN p l'.length = N at *
  have hlen : ∀ i, ((l'.take i).flatMap (escBits (depth - p.Wasted).toNat)).length ≤ 65535 * 33 := fun i => by
    rw [esc_flat_len]
    exact Nat.mul_le_mul (by rw [List.length_take]; omega) hd2
  refine Exists.elim (iter_for (step := jetsamref07_Bits_L2 (P7 p) depth (l', b2) (N : Int) (q.Precision, q.Shift, q.Coefs)) N (fun i a => a = ((i : Int), b01 (pre ++ (l'.take i).flatMap (escBits (depth - p.Wasted).toNat)))) (fun r => r = (b01 (pre ++ ((l'.take N).flatMap (escBits (depth - p.Wasted).toNat) ++ codeB p d)), 0)) (by omega) (fun i a hi ha => ?_) (fun a ha => ?_) (a0 := (0, b01 pre)) (by simp)) (fun r hr => by rw [hr.1, hr.2])
  · subst ha
    left
    unfold jetsamref07_Bits_L2
    have hil : i < l'.length := by omega
    have hd3' : W (depth - (P7 p).Wasted) = ((depth - p.Wasted).toNat : Int) := hd3
    have hl2 := hlen i
    rw [if_pos (by simpa using hi)]
    simp only [idx_nat hil, Option.bind_some, lett, hd3']
    rw [rput2_S (by omega) (hfit _ (List.getElem_mem hil)) (by rw [b01_length, List.length_append]; omega)]
    simp only [Option.bind_some]
    refine ⟨_, rfl, ?_⟩
    rw [W_succ (by omega), List.take_succ_eq_append_getElem hil, List.flatMap_append, ← b01_append, List.append_assoc]
    simp only [List.flatMap_cons, List.flatMap_nil, List.append_nil]
  · subst ha
    unfold jetsamref07_Bits_L2
    have hl2 := hlen N
    rw [if_neg (by simp)]
    simp only [s_K8 h hR hq (show (pre ++ (l'.take N).flatMap (escBits (depth - p.Wasted).toNat)).length < 2 ^ 37 by rw [List.length_append]; omega), List.append_assoc]
    exact ⟨_, rfl, rfl⟩
theorem s_K5 {b2 : Bool} {pre : List Bool} (h : SubOk p depth l l' d) (hR : p.Rice.Params.length ≤ 2 ^ 15) (hpre : pre.length < 2 ^ 36) :
    jetsamref07_Bits_K5 (P7 p) depth (l', b2) (b01 pre) (plainN p l'.length : Int) = some (b01 (pre ++ ((l'.take (plainN p l'.length)).flatMap (escBits (depth - p.Wasted).toNat) ++ codeB p d)), 0) := by
  have hs := h.shape
  have k1 := hs.k1; have k2 := hs.k2; have o1 := hs.o1; have o2 := hs.o2
  have hln := h.len; have n2 := h.n2
  have key : ∀ q : predict_Linear, (2 ≤ p.Kind → ∃ z, CodedOk p l' d q z) → jetsamref07_Bits_K6 (P7 p) depth (l', b2) (b01 pre) (plainN p l'.length : Int) (q.Precision, q.Shift, q.Coefs) = some (b01 (pre ++ ((l'.take (plainN p l'.length)).flatMap (escBits (depth - p.Wasted).toNat) ++ codeB p d)), 0) := by
    intro q hq
    have h7 := s_K7 (b2 := b2) h hR hq hpre
    unfold jetsamref07_Bits_K6
    by_cases hk : p.Kind > 1
    · rw [if_pos (by rw [decide_eq_true_eq]; exact hk)]
      obtain ⟨z, hc⟩ := hq (by omega)
      have hchk6 := rcheck6_conv (q := ⟨q.Precision, q.Shift, q.Coefs⟩) (p := q) rfl rfl rfl hc.lin
      rw [hchk6]
      simp only [Option.bind_some]
      rw [if_pos (by rfl)]
      obtain ⟨o, hoo⟩ := Int.eq_ofNat_of_zero_le o1
      have hz := hc.size
      rw [hoo] at hz
      have hdl := hc.dlen; have hcl := hc.len; have hle := hc.le
      have hb := (rbits_is (p := p.Rice) (d := d) (skip := o) (by omega) (by omega) (by omega) hz).1
      have e1 : d.length + o = l'.length := by omega
      rw [e1] at hb
      have hb' : jetsamref05_Check (P7 p).Rice (l'.length : Int) (P7 p).Order = some 0 := by
        have : (P7 p).Order = (o : Int) := hoo
        rw [this]
        exact hb
      simp only [hb', Option.bind_some]
      unfold jetsamref07_Bits_K10
      rw [if_neg (by decide)]
      exact h7
    · rw [if_neg (by rw [decide_eq_true_eq]; exact hk)]
      exact h7
  unfold jetsamref07_Bits_K5
  by_cases hk2 : p.Kind = 2
  · rw [if_pos (by rw [beq_iff_eq]; exact hk2)]
    obtain ⟨o, hoo⟩ := Int.eq_ofNat_of_zero_le o1
    have ho4 := hs.ofix hk2
    obtain ⟨f1, f2, f3⟩ := fixed_is (o := o) (by omega)
    have hoo' : (P7 p).Order = (o : Int) := hoo
    rw [hoo', f3]
    simp only [Option.bind_some]
    refine key ⟨4, 0, fixedC o⟩ (fun _ => ?_)
    obtain ⟨q, z, hc⟩ := h.coded (by omega)
    have hh := hc.how
    unfold subframe_how at hh
    rw [if_pos (by rw [beq_iff_eq]; exact hk2), hoo, f1] at hh
    have hqe : (⟨4, 0, fixedC o⟩ : predict_Linear) = q := Option.some.inj hh
    rw [hqe]
    exact ⟨z, hc⟩
  · rw [if_neg (by rw [beq_iff_eq]; exact hk2)]
    refine key p.Linear (fun hk => ?_)
    obtain ⟨q, z, hc⟩ := h.coded hk
    have hh := hc.how
    unfold subframe_how at hh
    rw [if_neg (by rw [beq_iff_eq]; exact hk2)] at hh
    have hqe : p.Linear = q := Option.some.inj hh
    rw [hqe]
    exact ⟨z, hc⟩
theorem s_K3 {b2 : Bool} {pre : List Bool} (h : SubOk p depth l l' d) (hR : p.Rice.Params.length ≤ 2 ^ 15) (hpre : pre.length < 2 ^ 36) :
    jetsamref07_Bits_K3 (P7 p) depth (l', b2) (b01 pre) = some (b01 (pre ++ ((l'.take (plainN p l'.length)).flatMap (escBits (depth - p.Wasted).toNat) ++ codeB p d)), 0) := by
  have hs := h.shape
  have k1 := hs.k1; have k2 := hs.k2; have o1 := hs.o1; have o2 := hs.o2
  have hln := h.len; have n2 := h.n2; have n1 := h.n1
  have h5 := s_K5 (b2 := b2) h hR hpre
  have k4 : ∀ j : Int, (p.Kind ≠ 1 → j = (plainN p l'.length : Int)) → jetsamref07_Bits_K4 (P7 p) depth (l', b2) (b01 pre) j = some (b01 (pre ++ ((l'.take (plainN p l'.length)).flatMap (escBits (depth - p.Wasted).toNat) ++ codeB p d)), 0) := by
    intro j hj
    unfold jetsamref07_Bits_K4
    by_cases hk : p.Kind = 1
    · rw [if_pos (by rw [beq_iff_eq]; exact hk)]
      have : plainN p l'.length = l'.length := by unfold plainN; rw [if_neg (by omega), if_pos hk]
      rw [this] at h5 ⊢
      exact h5
    · rw [if_neg (by rw [beq_iff_eq]; exact hk), hj hk]
      exact h5
  unfold jetsamref07_Bits_K3
  by_cases hk0 : p.Kind = 0
  · rw [if_pos (by rw [beq_iff_eq]; exact hk0)]
    have hp1 : plainN p l'.length = 1 := by unfold plainN; rw [if_pos hk0]
    have h4 := k4 1 (fun _ => by rw [hp1]; rfl)
    refine Exists.elim (iter_for (step := jetsamref07_Bits_L3 (P7 p) depth (l', b2) (b01 pre)) l'.length (fun i a => a = (i : Int)) (fun r => r = (b01 (pre ++ ((l'.take (plainN p l'.length)).flatMap (escBits (depth - p.Wasted).toNat) ++ codeB p d)), 0)) (by omega) (fun i a hi ha => ?_) (fun a ha => ?_) (a0 := 0) rfl) (fun r hr => by rw [hr.1, hr.2])
    · subst ha
      left
      unfold jetsamref07_Bits_L3
      have hsm := h.same hk0 _ (List.getElem_mem hi)
      rw [if_pos (by simpa using hi)]
      have h00 : idx l' (0 : Int) = some l'[i] := idx_ok (i := 0) hsm
      simp only [idx_nat hi, h00, Option.bind_some]
      rw [if_neg (by simp)]
      exact ⟨_, rfl, W_succ (by omega)⟩
    · subst ha
      unfold jetsamref07_Bits_L3
      rw [if_neg (by simp)]
      simp only [h4]
      exact ⟨_, rfl, rfl⟩
  · rw [if_neg (by rw [beq_iff_eq]; exact hk0)]
    refine k4 _ (fun hk1 => ?_)
    unfold plainN
    rw [if_neg hk0, if_neg hk1]
    show p.Order = _
    omega
theorem sbits_is (h : SubOk p depth l l' d) (hR : p.Rice.Params.length ≤ 2 ^ 15) : jetsamref07_Bits (P7 p) depth l = some (b01 (subBits p depth l' d), 0) := by
  have hs := h.shape
  have k1 := hs.k1; have k2 := hs.k2; have o1 := hs.o1; have o2 := hs.o2; have w1 := hs.w1; have w2 := hs.w2
  have hln := h.len; have n2 := h.n2; have n1 := h.n1; have d1 := h.d1; have d2 := h.d2
  unfold jetsamref07_Bits
  rw [ite_or, ite_or, ite_or, if_neg (by simp only [Bool.or_eq_true, decide_eq_true_eq]; omega), rshape_is hs d2]
  simp only [Option.bind_some]
  rw [if_neg (by decide)]
  obtain ⟨w, hw⟩ := Int.eq_ofNat_of_zero_le w1
  have ew : p.Wasted.toNat = w := by omega
  have hfits := h.fits
  obtain ⟨n, hn⟩ := Int.eq_ofNat_of_zero_le (show 0 ≤ depth by omega)
  have en : depth.toNat = n := by omega
  have hrange : ∀ x, x ∈ l → -1099511627776 ≤ x ∧ x ≤ 1099511627776 := fun x hx => by
    have hf := hfits x hx
    have e := pow_le (show depth.toNat - 1 ≤ 32 by omega)
    have ec := pow_cast (depth.toNat - 1)
    omega
  obtain ⟨m, bb, r1, r2, r3⟩ := rless_spec (n := w) (l := l) (by omega) (by omega) hrange
  have hbb : bb = true := r3.2 (fun x hx => dv_iff.2 (by have := h.back x hx; rw [ew] at this; exact this))
  have hm : m = l' := by rw [r2 hbb, h.less, ew]
  have hless : jetsamref07_Less (P7 p).Wasted l = some (l', true) := by
    have : (P7 p).Wasted = (w : Int) := hw
    rw [this, r1, hbb, hm]
  obtain ⟨fb, f1, f2⟩ := rfits_spec (n := n) (l := l) (by omega) (by omega) (by omega)
  have hfb : fb = true := f2.2 (by rw [← en]; exact hfits)
  have hfit : jetsamref07_Fits depth l = some true := by rw [hn, f1, hfb]
  simp only [hless, hfit, Option.bind_some]
  rw [if_neg (by decide)]
  have hkn := h.kind.1
  have k2' : jetsamref07_Bits_K2 (P7 p) depth (l', true) (kindN p : Int) = some (b01 (subBits p depth l' d), 0) := by
    unfold jetsamref07_Bits_K2
    have hput7 : jetsamref01_Put 7 (kindN p : Int) false = some (0, b01 (bitsOf 7 (kindN p))) := by
      have := rput_U (n := 7) (v := (kindN p : Int)) (by omega) (by omega) (by have h128 : (2 : Int) ^ 7 = 128 := (by decide); omega)
      rw [Int.toNat_natCast] at this
      exact this
    rw [hput7]
    simp only [Option.bind_some]
    unfold subBits
    by_cases hw0 : p.Wasted = 0
    · rw [if_pos (by rw [beq_iff_eq]; exact hw0), app_ok (by rw [b01_length, bitsOf_length]; decide)]
      simp only [Option.bind_some]
      have e : b01 (bitsOf 7 (kindN p)) ++ [0] = b01 (bitsOf 7 (kindN p) ++ wasteBits p.Wasted.toNat) := by
        rw [b01_append]
        unfold wasteBits
        rw [if_pos (by omega)]
        rfl
      rw [e, s_K3 h hR (by have := waste_len p.Wasted.toNat; rw [List.length_append, bitsOf_length]; omega), List.append_assoc]
    · rw [if_neg (by rw [beq_iff_eq]; exact hw0), app_ok (by rw [b01_length, bitsOf_length]; decide)]
      simp only [Option.bind_some, lett]
      have e1 : W ((P7 p).Wasted - 1) = ((p.Wasted.toNat - 1 : Nat) : Int) := by
        have : (P7 p).Wasted = p.Wasted := rfl
        rw [this, W_id (by omega) (by omega)]; omega
      rw [e1, runary_y (by omega) (by rw [List.length_append, b01_length, bitsOf_length]; decide)]
      simp only [Option.bind_some]
      have e : b01 (bitsOf 7 (kindN p)) ++ [1] ++ b01 (List.replicate (p.Wasted.toNat - 1) false ++ [true]) = b01 (bitsOf 7 (kindN p) ++ wasteBits p.Wasted.toNat) := by
        unfold wasteBits
        rw [if_neg (by omega)]
        simp only [b01_append, List.append_assoc]
        rfl
      rw [e, s_K3 h hR (by have := waste_len p.Wasted.toNat; rw [List.length_append, bitsOf_length]; omega), List.append_assoc]
  unfold jetsamref07_Bits_K1
  have hP : (P7 p).Kind = p.Kind := rfl
  have hPo : (P7 p).Order = p.Order := rfl
  rw [hP, hPo]
  unfold kindN at k2'
  rcases (show p.Kind = 0 ∨ p.Kind = 1 ∨ p.Kind = 2 ∨ p.Kind = 3 by omega) with hk | hk | hk | hk
  · rw [if_pos hk] at k2'
    rw [if_neg (by rw [beq_iff_eq]; omega), if_neg (by rw [beq_iff_eq]; omega), hk]
    exact k2'
  · rw [if_neg (by omega), if_pos hk] at k2'
    rw [if_neg (by rw [beq_iff_eq]; omega), if_neg (by rw [beq_iff_eq]; omega), hk]
    exact k2'
  · rw [if_neg (by omega), if_neg (by omega), if_pos hk] at k2'
    have e : W (8 + p.Order) = ((8 + p.Order.toNat : Nat) : Int) := by rw [W_id (by omega) (by omega)]; omega
    rw [if_pos (by rw [beq_iff_eq]; omega), if_neg (by rw [beq_iff_eq]; omega), e]
    exact k2'
  · rw [if_neg (by omega), if_neg (by omega), if_neg (by omega)] at k2'
    have e : W (31 + p.Order) = ((31 + p.Order.toNat : Nat) : Int) := by rw [W_id (by omega) (by omega)]; omega
    rw [if_neg (by rw [beq_iff_eq]; omega), if_pos (by rw [beq_iff_eq]; omega), e]
    exact k2'
end
end Go.Vg

namespace Go.Vg

theorem clone2 {l : List Int} (h : l.length < 2 ^ 40) : slices_Clone_sbyte_byte_x2 l = some l := by
  unfold slices_Clone_sbyte_byte_x2
  rw [app_ok (by simp; omega)]; rfl
theorem bits8 {y0 acc : List Int} {i v : Nat} (h : y0[i]? = some (v : Int)) (hi : i < 2 ^ 40) (hacc : acc.length < 2 ^ 39) :
    iter (jetsamref01_Bits_L2 y0 ((i : Int), acc)) (7, acc) = some (.inl (((i + 1 : Nat) : Int), acc ++ b01 (bitsOf 8 v))) := by
  refine Exists.elim (iter_for (step := jetsamref01_Bits_L2 y0 ((i : Int), acc)) 8 (fun k a => a = (7 - (k : Int), acc ++ b01 ((bitsOf 8 v).take k))) (fun r => r = .inl (((i + 1 : Nat) : Int), acc ++ b01 (bitsOf 8 v))) (by omega) (fun k a hk ha => ?_) (fun a ha => ?_) (a0 := (7, acc)) (by simp [b01])) (fun r hr => by rw [hr.1, hr.2])
  · subst ha
    left
    unfold jetsamref01_Bits_L2
    have e1 : (7 : Int) - (k : Int) = ((8 - 1 - k : Nat) : Int) := by omega
    have hkl : k < (bitsOf 8 v).length := by rw [bitsOf_length]; exact hk
    rw [e1, if_pos (by simp), idx_ok h]
    simp only [Option.bind_some]
    rw [need_ok (by simp), app_ok (by simp only [List.length_append, b01_length, List.length_take, List.length_singleton]; omega)]
    simp only [Option.bind_some]
    refine ⟨_, rfl, ?_⟩
    have e2 : W (((8 - 1 - k : Nat) : Int) - 1) = 7 - ((k + 1 : Nat) : Int) := by rw [W_id (by omega) (by omega)]; omega
    rw [e2, List.take_succ_eq_append_getElem hkl, b01_append, ← List.append_assoc]
    refine congrArg (fun z => (7 - ((k + 1 : Nat) : Int), acc ++ b01 ((bitsOf 8 v).take k) ++ z)) ?_
    have e3 := bitsOf_get (n := 8) (v := v) hk
    rw [List.getElem?_eq_getElem hkl] at e3
    rw [Option.some.inj e3, shr_int _ (by omega), and_one]
    have hv : (v : Int) / 2 ^ (8 - 1 - k) % 2 = ((v / 2 ^ (8 - 1 - k) % 2 : Nat) : Int) := by
      rw [Int.natCast_emod, Int.natCast_ediv, pow_cast]
      rfl
    rw [hv]
    rcases Nat.mod_two_eq_zero_or_one (v / 2 ^ (8 - 1 - k)) with h | h <;> rw [h] <;> rfl
  · subst ha
    unfold jetsamref01_Bits_L2 jetsamref01_Bits_K2
    rw [if_neg (by rw [decide_eq_true_eq]; show ¬ ((7 : Int) - ((8 : Nat) : Int) ≥ 0); omega), List.take_of_length_le (by rw [bitsOf_length]; omega)]
    simp only
    rw [W_succ (by omega)]
    exact ⟨_, rfl, rfl⟩
theorem rbits01 {b : List Int} (hb : Bytes8 b) (hl : b.length < 2 ^ 30) : jetsamref01_Bits b = some (b01 (bitsB b)) := by
  unfold jetsamref01_Bits
  refine Exists.elim (iter_for (step := jetsamref01_Bits_L1 b) b.length (fun i a => a = ((i : Int), b01 (bitsB (b.take i)))) (fun r => r = b01 (bitsB b)) (by omega) (fun i a hi ha => ?_) (fun a ha => ?_) (a0 := (0, [])) rfl) (fun r hr => by rw [hr.1, hr.2])
  · subst ha
    left
    unfold jetsamref01_Bits_L1
    obtain ⟨h0, _⟩ := hb i b[i] (List.getElem?_eq_getElem hi)
    obtain ⟨v, hv⟩ := Int.eq_ofNat_of_zero_le h0
    rw [if_pos (by simpa using hi)]
    simp only
    rw [bits8 (v := v) (by rw [List.getElem?_eq_getElem hi, hv]) (by omega) (by rw [b01_length, bitsB_length, List.length_take]; omega)]
    refine ⟨_, rfl, ?_⟩
    have e : bitsB (b.take (i + 1)) = bitsB (b.take i) ++ bitsOf 8 v := by
      rw [List.take_succ_eq_append_getElem hi]
      unfold bitsB
      rw [List.flatMap_append, hv]
      simp
    rw [e, b01_append]
  · subst ha
    unfold jetsamref01_Bits_L1 jetsamref01_Bits_K1
    rw [if_neg (by simp), List.take_length]
    exact ⟨_, rfl, rfl⟩
theorem seek_pos {b : List Int} (hl : b.length < 2 ^ 30) (x : Int) : ∃ (c : Int) (pos : Nat), bits_Reader_Seek x ⟨⟨0⟩, b⟩ = some (c, (pos : Int)) ∧ pos ≤ 8 * b.length := by
  unfold bits_Reader_Seek
  rw [W_id (x := (b.length : Int) * 8) (by omega) (by omega), ite_or]
  by_cases h : x < 0 ∨ x > (b.length : Int) * 8
  · rw [if_pos (by simpa only [Bool.or_eq_true, decide_eq_true_eq] using h)]
    exact ⟨_, 0, rfl, Nat.zero_le _⟩
  · rw [if_neg (by simpa only [Bool.or_eq_true, decide_eq_true_eq] using h)]
    obtain ⟨q, rfl⟩ := Int.eq_ofNat_of_zero_le (show 0 ≤ x by omega)
    exact ⟨_, q, rfl, by omega⟩
theorem Read_arg {n depth : Int} {y : bits_Reader} (h : ¬ (4 ≤ depth ∧ depth ≤ 33 ∧ 1 ≤ n ∧ n ≤ 65535)) : subframe_Read n depth y = some ([], 0, 0, 0, 0, 0, [], 0, 0, [], [], 1, y.m_place.m_at) := by
  unfold subframe_Read subframe_sizes
  rw [ite_or, ite_or, ite_or, if_pos (by simp only [Bool.or_eq_true, decide_eq_true_eq]; omega)]
  rfl
theorem code_or {c : Int} (h : Code c) : (if (if (if (c == 13) = true then true else (c == 12)) = true then true else (c == 10)) = true then true else (c == 11)) = true := by
  unfold Code at h
  rcases h with rfl | rfl | rfl | rfl <;> rfl
theorem law_SubframeReads {y0 : List Int} (hb : Bytes8 y0) (y1 : Int) (y2 : Arr2 Int) : jetsamlaw07_SubframeReads y0 y1 y2 = some true := by
  unfold jetsamlaw07_SubframeReads
  simp only [awake_ok, Option.bind_some]
  by_cases hl : (y0.length : Int) > 200
  · rw [if_pos (by rw [decide_eq_true_eq]; exact hl)]
  rw [if_neg (by rw [decide_eq_true_eq]; exact hl)]
  simp only [bits_NewReader, clone2 (l := y0) (by omega), Option.bind_some]
  obtain ⟨c0, pos, hseek, hpos⟩ := seek_pos (b := y0) (by omega) y1
  simp only [hseek, bits_Reader_At, Option.bind_some]
  by_cases h100 : y2.a0 > 100
  · rw [if_pos (by rw [decide_eq_true_eq]; exact h100)]
    by_cases h65 : y2.a0 ≤ 65535
    · rw [if_pos (by rw [decide_eq_true_eq]; exact h65)]
    rw [if_neg (by rw [decide_eq_true_eq]; exact h65)]
    rw [Read_arg (by omega)]
    simp only [Option.bind_some]
    rw [if_neg (by rw [decide_eq_true_eq]; omega), if_pos (by rw [decide_eq_true_eq]; omega), if_pos (by rfl), if_pos (by simp)]
  rw [if_neg (by rw [decide_eq_true_eq]; exact h100)]
  by_cases hbad : ¬ (4 ≤ y2.a1 ∧ y2.a1 ≤ 33 ∧ 1 ≤ y2.a0 ∧ y2.a0 ≤ 65535)
  · rw [Read_arg hbad]
    simp only [Option.bind_some]
    by_cases h1 : y2.a0 < 1
    · rw [if_pos (by rw [decide_eq_true_eq]; omega), if_pos (by rfl), if_pos (by simp)]
    rw [if_neg (by rw [decide_eq_true_eq]; omega), if_neg (by rw [decide_eq_true_eq]; omega)]
    by_cases h2 : y2.a1 < 4
    · rw [if_pos (by rw [decide_eq_true_eq]; omega), if_pos (by rfl), if_pos (by simp)]
    rw [if_neg (by rw [decide_eq_true_eq]; omega), if_pos (by rw [decide_eq_true_eq]; omega), if_pos (by rfl), if_pos (by simp)]
  obtain ⟨hd1, hd2, hn1, hn2⟩ := Classical.not_not.1 hbad
  obtain ⟨n, hn⟩ := Int.eq_ofNat_of_zero_le (show 0 ≤ y2.a0 by omega)
  obtain ⟨l, kind, order, w, pr, sh, cs, m, o, ps, bs, c, at_, hr, hcase⟩ := Read_inv (b := y0) (pos := pos) (n := n) (depth := y2.a1) hd1 hd2 (by omega) (by omega) hb (by omega) hpos
  rw [← hn] at hr
  simp only [hr, Option.bind_some]
  rw [if_neg (by rw [decide_eq_true_eq]; omega), if_neg (by rw [decide_eq_true_eq]; omega), if_neg (by rw [decide_eq_true_eq]; omega), if_neg (by rw [decide_eq_true_eq]; omega)]
  rcases hcase with ⟨hc, rfl, rfl⟩ | ⟨rfl, p', rfl, l', d, hR⟩
  · have hc0 : c ≠ 0 := by unfold Code at hc; omega
    rw [if_pos (by rw [bne_iff_ne]; exact hc0), if_pos (by rw [if_pos (code_or hc)]; rfl), if_pos (by simp)]
  · rw [if_neg (by decide)]
    obtain ⟨q, hq, a1, _, _, a4⟩ := hR.step
    obtain rfl : p' = q := by omega
    obtain ⟨_, b1, b2⟩ := a4 rfl
    have hlen : l.length = n := hR.len
    have hbl := bitsB_length y0
    have hsub : sub (b01 (bitsB y0)) (pos : Int) (p' : Int) = some (b01 (subBits ⟨kind, order, w, ⟨pr, sh, cs⟩, ⟨m, o, ps, bs⟩⟩ y2.a1 l' d)) := by
      rw [sub_ok (by omega) (by rw [b01_length]; omega)]
      unfold b01
      rw [← List.map_drop, ← List.map_take, b2, List.take_left' (by omega)]
    rw [rbits01 hb (by omega), plain7]
    simp only [Option.bind_some]
    rw [sbits_is hR.ok hR.pars]
    simp only [Option.bind_some, hsub, b01_length]
    rw [if_pos (by rfl), if_pos (by rw [beq_iff_eq]; omega), if_pos (by rw [W_id (by omega) (by omega), beq_iff_eq]; omega), if_pos (by rw [decide_eq_true_eq]; omega), ints_same _ (by rw [b01_length]; omega)]
    rfl

/-- What reads as bytes is bytes. -/
theorem bytes_of_RD {w : World} {F : Nat → Prop} {v : Value} {l : List Int} (h : RD w F v (.sl 1 (fun n : Int => V.int .u8 (.v n)) l)) : Bytes8 l := by
  intro i x hx
  cases h with
  | nilsl _ sz hx2 =>
    simp [V.elems] at hx2
    rw [hx2.2] at hx
    simp at hx
  | slice _ sz es hx2 hnn a c hc hl hs hF hb hsz cv hone hcv hr =>
    simp only [V.elems, Option.some.injEq, Prod.mk.injEq] at hx2
    obtain ⟨_, rfl⟩ := hx2
    have he : (l.map fun n : Int => V.int .u8 (.v n))[i]? = some (.int .u8 (.v x)) := by rw [List.getElem?_map, hx]; rfl
    have := hr i _ he 0 (.int .u8 (.v x)) (by simp [cells])
    generalize cv i 0 = z at this
    cases this with
    | nilsl _ _ h9 => simp [V.elems] at h9
    | slice _ _ _ h9 => simp [V.elems] at h9
    | int _ _ n hh hk =>
      have hxn : x = n := hh
      rw [has_iff] at hk
      simp only [lo, hi] at hk
      omega
end Go.Vg
