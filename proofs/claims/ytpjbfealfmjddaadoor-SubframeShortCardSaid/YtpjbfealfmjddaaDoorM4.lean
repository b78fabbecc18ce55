/- The best plan: the plain reckoning. -/
import Derived.Test.YtpjbfealfmjddaaDoorM3
set_option maxRecDepth 4000
set_option linter.all false
set_option linter.unusedVariables false
set_option linter.unusedSimpArgs false
namespace Go.Vg

/-- May a residual be in a part? -/
def OneOk (par n v : Int) : Prop := -2147483648 < v ∧ v < 2147483648 ∧ (par = -1 → ∃ w, rice_width v = some w ∧ w ≤ n) ∧ (0 ≤ par → foldN v / 2 ^ par.toNat ≤ 65536)
/-- How many bits it has there. -/
def oneLen (par n v : Int) : Int := if par = -1 then n else ((foldN v / 2 ^ par.toNat + 1 + par.toNat : Nat) : Int)
theorem one_spec {v par n : Int} (hp : par = -1 ∨ 0 ≤ par ∧ par ≤ 31) : ∃ c b, rice_one v par n = some (c, b) ∧ (b = true ↔ OneOk par n v) ∧ (b = true → c = oneLen par n v) := by
  unfold rice_one
  by_cases hv : -2147483648 < v ∧ v < 2147483648
  · rw [fold_spec (by omega) (by omega)]
    have e1 : decide (-2147483648 < v) = true := decide_eq_true hv.1
    have e2 : decide (v < 2147483648) = true := decide_eq_true hv.2
    simp only [Option.bind_some, e1, e2]
    rw [if_neg (by decide)]
    rcases hp with rfl | ⟨h0, h31⟩
    · rw [if_pos (by rfl)]
      obtain ⟨w, hw, _⟩ := width_spec hv.1 hv.2
      rw [hw]
      refine ⟨_, _, rfl, ?_, fun _ => rfl⟩
      rw [decide_eq_true_eq]
      exact ⟨fun h => ⟨hv.1, hv.2, fun _ => ⟨w, hw, h⟩, fun h => by omega⟩, fun h => by
        obtain ⟨w', h1, h2⟩ := h.2.2.1 rfl
        rw [hw] at h1; cases h1; exact h2⟩
    · obtain ⟨k, rfl⟩ := Int.eq_ofNat_of_zero_le h0
      rw [if_neg (by simp), need_ok (by simp), need_ok (by simp), shr_nat (by omega)]
      have hlt : foldN v < 4294967296 := by unfold foldN; split <;> omega
      have hle : foldN v / 2 ^ k ≤ foldN v := Nat.div_le_self _ _
      refine ⟨_, _, rfl, ?_, fun _ => ?_⟩
      · rw [decide_eq_true_eq]
        unfold OneOk
        simp only [Int.toNat_natCast]
        exact ⟨fun h => ⟨hv.1, hv.2, fun h => by omega, fun _ => by omega⟩, fun h => by have := h.2.2.2 (by omega); omega⟩
      · unfold oneLen
        rw [if_neg (by omega), Int.toNat_natCast]
        generalize foldN v / 2 ^ k = q at *
        rw [W_id (x := (q : Int) + 1) (by omega) (by omega), W_id (by omega) (by omega)]
        omega
  · obtain ⟨f, hf⟩ := fold_flag v
    rw [hf]
    have e : (decide (-2147483648 < v) && decide (v < 2147483648)) = false := by
      rw [Bool.and_eq_false_iff]
      by_cases h1 : -2147483648 < v
      · exact .inr (decide_eq_false fun h2 => hv ⟨h1, h2⟩)
      · exact .inl (decide_eq_false h1)
    simp only [Option.bind_some, e]
    rw [if_pos (by decide)]
    exact ⟨_, _, rfl, ⟨fun h => (nomatch h), fun h => absurd ⟨h.1, h.2.1⟩ hv⟩, fun h => (nomatch h)⟩
def sumL (par n : Int) (xs : List Int) : Int := (xs.map (oneLen par n)).sum
theorem oneLen_le {par n v : Int} (hp : par = -1 ∨ 0 ≤ par ∧ par ≤ 31) (hn : 0 ≤ n) (hn2 : n ≤ 31) (h : OneOk par n v) : 0 ≤ oneLen par n v ∧ oneLen par n v ≤ 65568 := by
  unfold oneLen
  split
  · omega
  · have := h.2.2.2 (by omega)
    generalize foldN v / 2 ^ par.toNat = q at *
    omega
theorem sumL_le {par n : Int} {xs : List Int} (hp : par = -1 ∨ 0 ≤ par ∧ par ≤ 31) (hn : 0 ≤ n) (hn2 : n ≤ 31) (h : ∀ v, v ∈ xs → OneOk par n v) : 0 ≤ sumL par n xs ∧ sumL par n xs ≤ 65568 * xs.length := by
  induction xs with
  | nil => simp [sumL]
  | cons x l ih =>
    have h1 := oneLen_le hp hn hn2 (h x (List.mem_cons_self ..))
    have h2 := ih fun v hv => h v (List.mem_cons_of_mem _ hv)
    unfold sumL at *
    simp only [List.map_cons, List.sum_cons, List.length_cons]
    omega
theorem some_spec {xs : List Int} {par n : Int} (hl : xs.length < 2 ^ 40) (hp : par = -1 ∨ 0 ≤ par ∧ par ≤ 31) (hn : 0 ≤ n) (hn2 : n ≤ 31) : ∃ c b, rice_some xs par n = some (c, b) ∧ (b = true ↔ ∀ v, v ∈ xs → OneOk par n v) ∧ (b = true → c = sumL par n xs) := by
  unfold rice_some
  refine Exists.elim (iter_for (step := rice_some_L1 xs par n) xs.length (fun i a => a = (sumL par n (xs.take i), (i : Int)) ∧ ∀ v, v ∈ xs.take i → OneOk par n v) (fun r => (r.2 = true ↔ ∀ v, v ∈ xs → OneOk par n v) ∧ (r.2 = true → r.1 = sumL par n xs)) (by omega) (fun i a hi ha => ?_) (fun a ha => ?_) (a0 := (0, 0)) ⟨rfl, fun v hv => by simp at hv⟩) (fun r hr => ⟨r.1, r.2, hr.1, hr.2.1, hr.2.2⟩)
  · obtain ⟨rfl, hall⟩ := ha
    unfold rice_some_L1
    rw [if_pos (by simpa using hi), idx_nat hi]
    simp only [Option.bind_some]
    obtain ⟨c, b, h1, h2, h3⟩ := one_spec (v := xs[i]) (n := n) hp
    rw [h1]
    simp only [Option.bind_some]
    cases b with
    | false =>
      rw [if_pos (by decide)]
      exact .inr ⟨_, rfl, ⟨fun h => (nomatch h), fun h => by have := h2.2 (h _ (List.getElem_mem hi)); cases this⟩, fun h => (nomatch h)⟩
    | true =>
      rw [if_neg (by decide)]
      have hb := sumL_le hp hn hn2 hall
      have hok := h2.1 rfl
      have hol := oneLen_le hp hn hn2 hok
      have hlen : (xs.take i).length ≤ xs.length := by simp; omega
      refine .inl ⟨_, rfl, ?_, fun v hv => ?_⟩
      · rw [W_succ (by omega), h3 rfl, W_id (by omega) (by omega)]
        rw [List.take_succ_eq_append_getElem hi]
        unfold sumL
        rw [List.map_append, List.sum_append]
        simp
      · rw [List.take_succ_eq_append_getElem hi] at hv
        rcases List.mem_append.1 hv with hv | hv
        · exact hall v hv
        · rw [List.mem_singleton] at hv; subst hv; exact hok
  · obtain ⟨rfl, hall⟩ := ha
    unfold rice_some_L1 rice_some_K1
    rw [if_neg (by simp)]
    rw [List.take_length] at *
    exact ⟨_, rfl, ⟨fun _ => hall, fun _ => rfl⟩, fun _ => rfl⟩

/-- How many bits a part has. -/
theorem partBits_sum {m : Nat} {par n : Int} {xs : List Int} (h : PartOk m par n xs) : ((partBits m par n xs).length : Int) = 4 + m + (if par = -1 then 5 else 0) + sumL par n xs := by
  have hf : ∀ (f : Int → List Bool) (g : Int → Int) (l : List Int), (∀ v, v ∈ l → ((f v).length : Int) = g v) → ((l.flatMap f).length : Int) = (l.map g).sum := by
    intro f g l
    induction l with
    | nil => intro _; rfl
    | cons x l ih =>
      intro h
      rw [List.flatMap_cons, List.length_append, List.map_cons, List.sum_cons, ← ih fun v hv => h v (List.mem_cons_of_mem _ hv), ← h x (List.mem_cons_self ..)]
      omega
  unfold partBits sumL
  rcases h with ⟨rfl, h0, h1, hv⟩ | ⟨h0, h1, rfl, hv⟩
  · rw [if_pos rfl, if_pos rfl]
    have := hf (escBits n.toNat) (oneLen (-1) n) xs (fun v _ => by unfold oneLen; rw [if_pos rfl, escBits_length]; omega)
    simp only [List.length_append, bitsOf_length]
    omega
  · rw [if_neg (by omega), if_neg (by omega)]
    have := hf (codeBits par.toNat) (oneLen par 0) xs (fun v _ => by unfold oneLen; rw [if_neg (by omega), codeBits_length])
    simp only [List.length_append, bitsOf_length]
    omega

theorem size_fold {m : Nat} {y0 : rice_Plan} {y2 : List Int} (hm : m ≤ 1) (hM : y0.Method = (m : Int)) (qs : List Part)
    (hq : ∀ q, q ∈ qs → idx y0.Params q.e.1 = some q.par ∧ idx y0.Bits q.e.1 = some q.n ∧ sub y2 q.e.2.a0 q.e.2.a1 = some q.xs ∧ q.xs.length < 2 ^ 20 ∧ PartOk m q.par q.n q.xs ∧ ∀ v, v ∈ q.xs → OneOk q.par q.n v) (a : Nat) (hL : a + (qs.flatMap (Part.bits m)).length < 2 ^ 50) :
    foldR (rice_Size_L1 y0 y2) rice_Size_K2 rice_Size_K3 (qs.map Part.e) (a : Int) = some (((a + (qs.flatMap (Part.bits m)).length : Nat) : Int), 0) := by
  induction qs generalizing a with
  | nil => simp [foldR, rice_Size_K2, rice_Size_K1]
  | cons q qs ih =>
    obtain ⟨h1, h2, h3, h4, h5, hone⟩ := hq q (List.mem_cons_self ..)
    have hE := escN_le hm
    have hsum := partBits_sum h5
    simp only [List.flatMap_cons, List.length_append] at hL ⊢
    have hqb : (q.bits m).length = (partBits m q.par q.n q.xs).length := rfl
    have hpn : (q.par = -1 ∨ 0 ≤ q.par ∧ q.par ≤ 31) ∧ 0 ≤ q.n ∧ q.n ≤ 31 := by
      rcases h5 with ⟨e, a1, a2, _⟩ | ⟨a1, a2, a3, _⟩
      · exact ⟨.inl e, a1, a2⟩
      · exact ⟨.inr ⟨a1, by omega⟩, by omega, by omega⟩
    obtain ⟨c, b, g1, g2, g3⟩ := some_spec (xs := q.xs) (by omega) hpn.1 hpn.2.1 hpn.2.2
    have hb := g2.2 hone
    have hle := sumL_le hpn.1 hpn.2.1 hpn.2.2 hone
    have hc := g3 hb
    have hx20 : (q.xs.length : Int) < 1048576 := by omega
    have hstep : rice_Size_L1 y0 y2 q.e (a : Int) = some (.inl ((a + (q.bits m).length : Nat) : Int)) := by
      unfold rice_Size_L1
      rw [h3]
      simp only [Option.bind_some]
      rw [h1, h2]
      simp only [Option.bind_some, g1, hb]
      rw [if_neg (by decide), hc, hM, W_id (x := sumL q.par q.n q.xs + 4) (by omega) (by omega), W_id (x := sumL q.par q.n q.xs + 4 + m) (by omega) (by omega), W_id (x := (a : Int) + (sumL q.par q.n q.xs + 4 + m)) (by omega) (by omega)]
      split
      · rename_i he
        rw [beq_iff_eq] at he
        rw [if_pos he] at hsum
        rw [W_id (by omega) (by omega)]
        refine congrArg (fun z => some (Sum.inl z)) ?_
        omega
      · rename_i he
        rw [beq_iff_eq] at he
        rw [if_neg he] at hsum
        refine congrArg (fun z => some (Sum.inl z)) ?_
        omega
    rw [List.map_cons, foldR, hstep]
    show foldR (rice_Size_L1 y0 y2) rice_Size_K2 rice_Size_K3 (qs.map Part.e) ((a + (q.bits m).length : Nat) : Int) = _
    rw [ih (fun q' hq' => hq q' (List.mem_cons_of_mem _ hq')) (a + (q.bits m).length) (by omega), Nat.add_assoc]
section
variable {p : rice_Plan} {skip : Nat} {d : List Int} {z : Int}
theorem size_unfold (hs : skip ≤ 32) (hd : d.length < 2 ^ 20) (hk : PlanOk p ((d.length + skip : Nat) : Int) (skip : Int)) (hc : rice_Check p ((d.length + skip : Nat) : Int) (skip : Int) = some 0) :
    rice_Size p (skip : Int) d = foldR (rice_Size_L1 p d) rice_Size_K2 rice_Size_K3 (partsN (d.length + skip) p.Order.toNat skip) 6 := by
  have hh := hk.head
  have ho1 := hh.o1; have ho2 := hh.o2; have hb2 := hh.b2
  have e0 : W ((d.length : Int) + (skip : Int)) = ((d.length + skip : Nat) : Int) := by rw [W_id (by omega) (by omega)]; omega
  unfold rice_Size
  rw [e0, hc]
  simp only [Option.bind_some]
  rw [if_neg (by decide)]
  simp only [lett, rice_parts, Option.bind_some]
  unfold partsF
  rw [if_pos ⟨by omega, by omega, by omega, by omega, by omega, by omega⟩]
  simp only [Option.bind_some, Int.toNat_natCast]
theorem size_check (h : rice_Size p (skip : Int) d = some (z, 0)) (hs : skip ≤ 32) (hd : d.length < 2 ^ 20) (hl : p.Params.length < 2 ^ 40) : rice_Check p ((d.length + skip : Nat) : Int) (skip : Int) = some 0 := by
  have e0 : W ((d.length : Int) + (skip : Int)) = ((d.length + skip : Nat) : Int) := by rw [W_id (by omega) (by omega)]; omega
  unfold rice_Size at h
  rw [e0] at h
  obtain ⟨c0, h0, h0'⟩ := rcheck_spec p ((d.length + skip : Nat) : Int) (skip : Int) hl
  rw [h0] at h
  simp only [Option.bind_some] at h
  rcases (Decidable.em (c0 = 0)).symm with hc0 | hc0
  · rw [if_pos (by simpa using hc0)] at h
    cases h
    exact absurd rfl hc0
  · rw [h0, hc0]
/-- **What rice.Size answers is how many bits are written.** -/
theorem size_count (hs : skip ≤ 32) (hd : d.length < 2 ^ 20) (hl : p.Params.length < 2 ^ 40) (hz : rice_Size p (skip : Int) d = some (z, 0)) : z = ((planBits p d skip).length : Int) := by
  have hlen := plan_len hs hd hl hz
  obtain ⟨hk, h1, h2, h3, h4⟩ := plan_all hs hd hl hz
  have hh := hk.head
  obtain ⟨m, hm, hM⟩ := Method_nat hh
  have ho2 := hh.o2
  have hl1 := hk.len1
  have hpo : (2 : Nat) ^ p.Order.toNat ≤ 2 ^ 15 := pow_le (by omega)
  have eM : p.Method.toNat = m := by omega
  have hu := size_unfold (p := p) (skip := skip) (d := d) hs hd hk (size_check hz hs hd hl)
  rw [hu] at hz
  have hE := escN_le hm
  have hone : ∀ q, q ∈ planParts p d skip → ∀ v, v ∈ q.xs → OneOk q.par q.n v := by
    intro q hq
    obtain ⟨⟨g1, g2, g3, g4, g5⟩, _⟩ := h4 q hq
    rw [eM] at g5
    rw [parts_e p d skip] at hz
    obtain ⟨xs, par, n, c, k1, k2, k3, k4⟩ := size_parts _ _ _ hz q.e (List.mem_map.2 ⟨q, hq, rfl⟩)
    rw [g3] at k1; rw [g1] at k2; rw [g2] at k3
    cases k1; cases k2; cases k3
    have hpn : (q.par = -1 ∨ 0 ≤ q.par ∧ q.par ≤ 31) ∧ 0 ≤ q.n ∧ q.n ≤ 31 := by
      rcases g5 with ⟨e, a1, a2, _⟩ | ⟨a1, a2, a3, _⟩
      · exact ⟨.inl e, a1, a2⟩
      · exact ⟨.inr ⟨a1, by omega⟩, by omega, by omega⟩
    obtain ⟨c', b, m1, m2, m3⟩ := some_spec (xs := q.xs) (by omega) hpn.1 hpn.2.1 hpn.2.2
    rw [k4] at m1
    cases m1
    exact m2.1 rfl
  rw [parts_e p d skip] at hz
  unfold planBits riceBits at hlen ⊢
  rw [eM] at hlen h4 ⊢
  simp only [List.length_append, bitsOf_length] at hlen
  have := size_fold (y0 := p) (y2 := d) hm hM (planParts p d skip) (fun q hq => let ⟨⟨a1, a2, a3, a4, a5⟩, _⟩ := h4 q hq; ⟨a1, a2, a3, a4, a5, hone q hq⟩) 6 (by omega)
  have e6 : ((6 : Nat) : Int) = 6 := rfl
  rw [e6, hz] at this
  cases this
  simp only [List.length_append, bitsOf_length]
  omega
end
end Go.Vg

namespace Go.Vg

theorem wrap_i64' (n : Int) : IntKind.i64.wrap n = (n + 9223372036854775808) % 18446744073709551616 - 9223372036854775808 := by
  simp only [IntKind.wrap, IntKind.bits, IntKind.signed]
  simp
  omega
/-- Numbers of which the last bits are 0. -/
def Dv (k : Nat) (x : Int) : Prop := x % 2 ^ k = 0
theorem wrap_mod {k : Nat} (hk : k ≤ 64) (z : Int) : IntKind.i64.wrap z % 2 ^ k = z % 2 ^ k := by
  have h : IntKind.i64.wrap z = z + 18446744073709551616 * (-((z + 9223372036854775808) / 18446744073709551616)) := by
    rw [wrap_i64']
    omega
  have e : (18446744073709551616 : Int) = 2 ^ k * 2 ^ (64 - k) := by
    rw [← Int.pow_add, show k + (64 - k) = 64 by omega]; rfl
  rw [h, e, Int.mul_assoc, Int.add_mul_emod_self_left]
theorem bv_mod {k : Nat} (hk : k ≤ 64) (x : Int) : (((BitVec.ofInt 64 x).toNat % 2 ^ k : Nat) : Int) = x % 2 ^ k := by
  rw [BitVec.toNat_ofInt]
  have e : ((2 ^ 64 : Nat) : Int) = 2 ^ k * 2 ^ (64 - k) := by
    rw [← Int.pow_add, show k + (64 - k) = 64 by omega]; rfl
  have h1 : (((x % ((2 ^ 64 : Nat) : Int)).toNat : Nat) : Int) = x % ((2 ^ 64 : Nat) : Int) := Int.toNat_of_nonneg (Int.emod_nonneg _ (by decide))
  rw [Int.natCast_emod, h1, e, pow_cast, Int.emod_emod_of_dvd _ (Int.dvd_mul_right _ _)]
theorem or_dv {k : Nat} (hk : k ≤ 64) (x y : Int) : Dv k (arD .or .i64 x y) ↔ Dv k x ∧ Dv k y := by
  unfold Dv
  have e : arD .or .i64 x y = IntKind.i64.wrap ((BitVec.ofInt 64 x ||| BitVec.ofInt 64 y).toNat : Int) := rfl
  rw [e, wrap_mod hk, ← bv_mod hk x, ← bv_mod hk y, BitVec.toNat_or, ← pow_cast, ← Int.natCast_emod, Nat.or_mod_two_pow]
  generalize (BitVec.ofInt 64 x).toNat % 2 ^ k = a
  generalize (BitVec.ofInt 64 y).toNat % 2 ^ k = b
  constructor
  · intro h
    have h : a ||| b = 0 := by omega
    have := Nat.or_eq_zero_iff.1 h
    omega
  · rintro ⟨h1, h2⟩
    have h1 : a = 0 := by omega
    have h2 : b = 0 := by omega
    rw [h1, h2]; rfl
theorem or_range (x y : Int) : -9223372036854775808 ≤ arD .or .i64 x y ∧ arD .or .i64 x y ≤ 9223372036854775807 := by
  have e : arD .or .i64 x y = IntKind.i64.wrap ((BitVec.ofInt 64 x ||| BitVec.ofInt 64 y).toNat : Int) := rfl
  rw [e, wrap_i64']
  omega
theorem and_one (x : Int) : arD .and .i64 x 1 = x % 2 := by
  have := and_mask (n := 1) x (by omega)
  have e : (((2 ^ 1 - 1 : Nat)) : Int) = 1 := rfl
  rw [e] at this
  rw [this]
  unfold sgn
  have h := Int.emod_nonneg x (show (2 : Int) ≠ 0 by decide)
  have e2 : (2 : Int) ^ 1 = 2 := rfl
  rw [e2, Int.toNat_of_nonneg h]
/-- Noughts at the end of a number: so many, and no more. -/
theorem noughts_spec {x : Int} (h1 : -9223372036854775808 ≤ x) (h2 : x ≤ 9223372036854775807) : ∃ n : Nat, iter subframe_wasted_L1 (x, 0) = some (n : Int) ∧ n ≤ 63 ∧ Dv n x ∧ (x = 0 → n = 0) ∧ (x ≠ 0 → ¬ Dv (n + 1) x) := by
  refine Exists.elim (iter_of (step := subframe_wasted_L1) (I := fun a => ∃ n : Nat, a.2 = (n : Int) ∧ n ≤ 63 ∧ x = a.1 * 2 ^ n ∧ (x = 0 → n = 0)) (m := fun a => 64 - a.2.toNat) (Q := fun r => ∃ n : Nat, r = (n : Int) ∧ n ≤ 63 ∧ Dv n x ∧ (x = 0 → n = 0) ∧ (x ≠ 0 → ¬ Dv (n + 1) x)) (fun a ha => ?_) (a0 := (x, 0)) ⟨0, rfl, by omega, by simp, fun _ => rfl⟩ (show 64 - (0 : Int).toNat < ROUNDS by decide)) (fun r hr => let ⟨h1, n, h2, h3⟩ := hr; ⟨n, by rw [h1, h2], h3⟩)
  obtain ⟨n, hn, hn63, hx, h0⟩ := ha
  have hp := pow_posI n
  have hd : Dv n x := by unfold Dv; rw [hx]; exact Int.mul_emod_left _ _
  unfold subframe_wasted_L1
  rw [ite_and, and_one]
  by_cases hc : a.1 ≠ 0 ∧ a.1 % 2 = 0
  · left
    rw [if_pos (by simpa using hc), hn, show (1 : Int) = ((1 : Nat) : Int) from rfl, shr_int _ (by omega)]
    have e2 : (2 : Int) ^ 1 = 2 := rfl
    have hx2 : x = a.1 / 2 * 2 ^ (n + 1) := by
      rw [Int.pow_succ, ← Int.mul_assoc, Int.mul_right_comm]
      have : a.1 / 2 * 2 = a.1 := by omega
      rw [this]; exact hx
    have hx0 : x ≠ 0 := by rw [hx]; exact Int.mul_ne_zero hc.1 (Int.ne_of_gt hp)
    have hn62 : n + 1 ≤ 63 := by
      rcases Nat.lt_or_ge n 63 with h | h
      · exact h
      · exfalso
        obtain rfl : n = 63 := by omega
        have e63 : (2 : Int) ^ 63 = 9223372036854775808 := by decide
        have ha := hc.1
        have hb := hc.2
        rw [e63] at hx
        omega
    refine ⟨_, rfl, ⟨n + 1, W_succ (by omega), hn62, hx2, fun h => absurd h hx0⟩, ?_⟩
    show 64 - (W ((n : Int) + 1)).toNat < 64 - (n : Int).toNat
    rw [W_succ (by omega)]
    omega
  · right
    rw [if_neg (by simpa using hc)]
    refine ⟨_, rfl, n, hn, hn63, hd, h0, fun hx0 hd1 => ?_⟩
    have ha0 : a.1 ≠ 0 := fun h => hx0 (by rw [hx, h, Int.zero_mul])
    have hodd : a.1 % 2 = 1 := by
      have : ¬ a.1 % 2 = 0 := fun h => hc ⟨ha0, h⟩
      omega
    unfold Dv at hd1
    rw [hx, Int.pow_succ, Int.mul_comm a.1, Int.mul_emod_mul_of_pos _ _ hp, hodd] at hd1
    have := Int.mul_eq_zero.1 hd1
    omega
/-- What subframe.wasted tells. -/
theorem wasted_spec {l : List Int} (hl : l.length < 2 ^ 40) (hr : ∀ x, x ∈ l → -9223372036854775808 ≤ x ∧ x ≤ 9223372036854775807) : ∃ n : Nat, subframe_wasted l = some (n : Int) ∧ n ≤ 63 ∧ (∀ x, x ∈ l → Dv n x) ∧ ((∀ x, x ∈ l → x = 0) → n = 0) ∧ (∀ x, x ∈ l → x ≠ 0 → ∃ y, y ∈ l ∧ ¬ Dv (n + 1) y) := by
  unfold subframe_wasted
  have key : ∀ a : Int, -9223372036854775808 ≤ a → a ≤ 9223372036854775807 → (∀ k, k ≤ 64 → (Dv k a ↔ ∀ x, x ∈ l → Dv k x)) → ∃ n : Nat, subframe_wasted_K1 a = some (n : Int) ∧ n ≤ 63 ∧ (∀ x, x ∈ l → Dv n x) ∧ ((∀ x, x ∈ l → x = 0) → n = 0) ∧ (∀ x, x ∈ l → x ≠ 0 → ∃ y, y ∈ l ∧ ¬ Dv (n + 1) y) := by
    intro a h1 h2 hd
    obtain ⟨n, g1, g2, g3, g4, g5⟩ := noughts_spec h1 h2
    have z64 : ∀ x : Int, -9223372036854775808 ≤ x → x ≤ 9223372036854775807 → (Dv 64 x ↔ x = 0) := fun x q1 q2 => by
      have e : (2 : Int) ^ 64 = 18446744073709551616 := by decide
      unfold Dv
      rw [e]
      omega
    refine ⟨n, g1, g2, (hd n (by omega)).1 g3, fun hall => g4 ?_, fun x hx hx0 => ?_⟩
    · exact (z64 a h1 h2).1 ((hd 64 (by omega)).2 fun x hx => (z64 x (hr x hx).1 (hr x hx).2).2 (hall x hx))
    · have ha0 : a ≠ 0 := fun h => hx0 ((z64 x (hr x hx).1 (hr x hx).2).1 ((hd 64 (by omega)).1 ((z64 a h1 h2).2 h) x hx))
      have hn := g5 ha0
      rw [hd (n + 1) (by omega)] at hn
      exact Classical.byContradiction fun hc => hn fun y hy => Classical.byContradiction fun hy2 => hc ⟨y, hy, hy2⟩
  refine Exists.elim (iter_for (step := subframe_wasted_L2 l) l.length (fun i a => a.2 = (i : Int) ∧ -9223372036854775808 ≤ a.1 ∧ a.1 ≤ 9223372036854775807 ∧ ∀ k, k ≤ 64 → (Dv k a.1 ↔ ∀ x, x ∈ l.take i → Dv k x)) (fun r => ∃ n : Nat, r = (n : Int) ∧ n ≤ 63 ∧ (∀ x, x ∈ l → Dv n x) ∧ ((∀ x, x ∈ l → x = 0) → n = 0) ∧ (∀ x, x ∈ l → x ≠ 0 → ∃ y, y ∈ l ∧ ¬ Dv (n + 1) y)) (by omega) (fun i a hi ha => ?_) (fun a ha => ?_) (a0 := (0, 0)) ⟨rfl, by decide, by decide, fun k hk => ⟨fun _ x hx => by simp at hx, fun _ => by unfold Dv; simp⟩⟩) (fun r hr => let ⟨h1, n, h2, h3⟩ := hr; ⟨n, by rw [h1, h2], h3⟩)
  · obtain ⟨h1, h2, h3, h4⟩ := ha
    left
    unfold subframe_wasted_L2
    rw [h1, if_pos (by simpa using hi), idx_nat hi]
    simp only [Option.bind_some]
    refine ⟨_, rfl, W_succ (by omega), (or_range _ _).1, (or_range _ _).2, fun k hk => ?_⟩
    show Dv k (arD .or .i64 a.1 l[i]) ↔ _
    rw [or_dv hk, h4 k hk, List.take_succ_eq_append_getElem hi]
    constructor
    · rintro ⟨q1, q2⟩ x hx
      rcases List.mem_append.1 hx with hx | hx
      · exact q1 x hx
      · rw [List.mem_singleton] at hx; subst hx; exact q2
    · intro q
      exact ⟨fun x hx => q x (List.mem_append_left _ hx), q _ (List.mem_append_right _ (List.mem_singleton.2 rfl))⟩
  · obtain ⟨h1, h2, h3, h4⟩ := ha
    unfold subframe_wasted_L2
    rw [h1, if_neg (by simp)]
    rw [List.take_length] at h4
    obtain ⟨n, g1, g2⟩ := key a.1 h2 h3 h4
    rw [g1]
    exact ⟨_, rfl, n, rfl, g2⟩
end Go.Vg

namespace Go.Vg

theorem foldR_tot {E X R A : Type} {step : E → X → Option (X ⊕ R)} {done : X → Option A} {ret : R → Option A} (N : Nat) (I : Nat → X → Prop) (J : R → Prop) (Q : A → Prop) (hd : ∀ i x, i ≤ N → I i x → ∃ r, done x = some r ∧ Q r) (hr : ∀ q, J q → ∃ r, ret q = some r ∧ Q r) (es : List E)
    (hs : ∀ e, e ∈ es → ∀ i x, i < N → I i x → (∃ x', step e x = some (.inl x') ∧ I (i + 1) x') ∨ ∃ q, step e x = some (.inr q) ∧ J q) : ∀ i x, i + es.length ≤ N → I i x → ∃ r, foldR step done ret es x = some r ∧ Q r := by
  induction es with
  | nil => intro i x hi hx; exact hd i x (by simpa using hi) hx
  | cons e es ih =>
    intro i x hi hx
    simp only [List.length_cons] at hi
    rw [foldR]
    rcases hs e (List.mem_cons_self ..) i x (by omega) hx with ⟨x', h1, h2⟩ | ⟨q, h1, h2⟩
    · rw [h1]
      exact ih (fun e' he => hs e' (List.mem_cons_of_mem _ he)) (i + 1) x' (by omega) h2
    · rw [h1]
      exact hr q h2

theorem pbest_some {l : List Int} (h0 : 0 < l.length) (hl : l.length < 2 ^ 40) : ∃ o : Nat, predict_Best l = some (o : Int) ∧ o ≤ 4 ∧ o < l.length := by
  unfold predict_Best
  have hn : ∃ n : Nat, (if (l.length : Int) < 5 then (l.length : Int) else 5) = (n : Int) ∧ n ≤ 5 ∧ n ≤ l.length := by
    split
    · exact ⟨l.length, rfl, by omega, Nat.le_refl _⟩
    · exact ⟨5, rfl, by omega, by omega⟩
  obtain ⟨n, hn, hn5, hnl⟩ := hn
  refine Exists.elim (iter_for (step := predict_Best_L1 l) n (fun i a => a.2.2 = (i : Int) ∧ ∃ o : Nat, a.1 = (o : Int) ∧ o ≤ 4 ∧ o < l.length) (fun r => ∃ o : Nat, r = (o : Int) ∧ o ≤ 4 ∧ o < l.length) (by omega) (fun i a hi ha => ?_) (fun a ha => ?_) (a0 := (0, -1, 0)) ⟨rfl, 0, rfl, by omega, h0⟩) (fun r hr => let ⟨h1, o, h2, h3⟩ := hr; ⟨o, by rw [h1, h2], h3⟩)
  · obtain ⟨hi2, o, ho, ho4, hol⟩ := ha
    unfold predict_Best_L1
    rw [hn, hi2, if_pos (by simpa using hi)]
    obtain ⟨q, hq, hql⟩ := fixed_some (n := i) (by omega)
    rw [hq]
    simp only [Option.bind_some]
    obtain ⟨d, c, hd, _, _⟩ := residual_spec (p := q) (l := l) hl (by omega)
    have hdl : d.length < 2 ^ 40 ∨ c ≠ 0 := by
      by_cases hc : c = 0
      · left
        have := residual_spec (p := q) (l := l) hl (by omega)
        obtain ⟨d', c', hd', h', _⟩ := this
        rw [hd] at hd'
        cases hd'
        have := (h' hc).2.2.2.1
        omega
      · exact .inr hc
    rw [hd]
    simp only [Option.bind_some]
    by_cases hc : c = 0
    · rw [if_neg (by simpa using hc)]
      have hdl : d.length < 2 ^ 40 := by rcases hdl with h | h; exact h; exact absurd hc h
      refine Exists.elim (iter_for (step := predict_Best_L2 a (d, c)) d.length (fun j b => b.2 = (j : Int)) (fun r => ∃ a', r = .inl a' ∧ a'.2.2 = ((i + 1 : Nat) : Int) ∧ ∃ o : Nat, a'.1 = (o : Int) ∧ o ≤ 4 ∧ o < l.length) (by omega) (fun j b hj hb => ?_) (fun b hb => ?_) (a0 := (0, 0)) rfl) (fun r hr => let ⟨h1, a', h2, h3⟩ := hr; .inl ⟨a', by rw [h1, h2], h3⟩)
      · unfold predict_Best_L2
        rw [hb, if_pos (by simpa using hj)]
        simp only [idx_nat hj, Option.bind_some]
        exact .inl ⟨_, rfl, W_succ (by omega)⟩
      · unfold predict_Best_L2 predict_Best_K3 predict_Best_K2
        rw [hb, if_neg (by simp), ite_or]
        split
        · exact ⟨_, rfl, _, rfl, by rw [hi2, W_succ (by omega)], i, hi2, by omega, by omega⟩
        · exact ⟨_, rfl, _, rfl, by rw [hi2, W_succ (by omega)], o, ho, ho4, hol⟩
    · rw [if_pos (by simpa using hc)]
      exact .inr ⟨_, rfl, 0, rfl, by omega, h0⟩
  · obtain ⟨hi2, o, ho, ho4, hol⟩ := ha
    unfold predict_Best_L1
    rw [hn, hi2, if_neg (by simp)]
    exact ⟨_, rfl, o, ho, ho4, hol⟩

theorem cheapest_total {m : Nat} {l : List Int} (hm : m ≤ 1) (hl : l.length < 2 ^ 40) (hv : ∀ v, v ∈ l → -2147483648 < v ∧ v < 2147483648) : ∃ r, rice_cheapest (m : Int) l = some r := by
  unfold rice_cheapest
  rw [escape_spec hm]
  simp only [Option.bind_some]
  have hE := escN_le hm
  refine Exists.elim (iter_for (step := rice_cheapest_L2 l (escN m : Int)) (escN m) (fun i a => a.2.2 = (i : Int)) (fun _ => True) (by omega) (fun i a hi ha => ?_) (fun a ha => ?_) (a0 := (0, -1, 0)) rfl) (fun r hr => ⟨r, hr.1⟩)
  · unfold rice_cheapest_L2 rice_cheapest_K3
    rw [ha, if_pos (by simpa using hi)]
    obtain ⟨r, hr⟩ := some_total (xs := l) (par := (i : Int)) (n := 0) hl (.inr (by omega))
    rw [hr]
    simp only [Option.bind_some]
    rw [ite_or, ite_and]
    left
    split
    · exact ⟨_, rfl, W_succ (by omega)⟩
    · exact ⟨_, rfl, W_succ (by omega)⟩
  · unfold rice_cheapest_L2 rice_cheapest_K1
    rw [ha, if_neg (by simp)]
    refine Exists.elim (iter_for (step := rice_cheapest_L1 l (a.1, a.2.1)) l.length (fun i b => b.2 = (i : Int)) (fun _ => True) (by omega) (fun i b hi hb => ?_) (fun b hb => ?_) (a0 := (0, 0)) rfl) (fun r hr => ⟨r, by rw [hr.1]; rfl, trivial⟩)
    · unfold rice_cheapest_L1
      rw [hb, if_pos (by simpa using hi), idx_nat hi]
      have := hv _ (List.getElem_mem hi)
      obtain ⟨w, hw, _⟩ := width_spec this.1 this.2
      simp only [Option.bind_some, hw]
      exact .inl ⟨_, rfl, W_succ (by omega)⟩
    · unfold rice_cheapest_L1 rice_cheapest_K2
      rw [hb, if_neg (by simp), ite_or, ite_and]
      split <;> exact ⟨_, rfl, trivial⟩
theorem rbest_total {skip : Nat} {d : List Int} (hs : skip ≤ 32) (hd : d.length < 2 ^ 20) : ∃ q c, rice_Best 4 (skip : Int) d = some (q, c) ∧ q.Params.length ≤ 2 ^ 16 := by
  unfold rice_Best
  rw [if_neg (by decide)]
  have e0 : W ((d.length : Int) + (skip : Int)) = ((d.length + skip : Nat) : Int) := by rw [W_id (by omega) (by omega)]; omega
  rw [e0]
  obtain ⟨c0, h0, h0'⟩ := head_spec 0 0 ((d.length + skip : Nat) : Int) (skip : Int)
  rw [h0]
  simp only [Option.bind_some]
  rcases (Decidable.em (c0 = 0)).symm with hc0 | hc0
  · rw [if_pos (by simpa using hc0)]
    exact ⟨_, _, rfl, Nat.zero_le _⟩
  rw [if_neg (by simpa using hc0)]
  have hh := h0'.1 hc0
  have hb2 := hh.b2
  have hmain : (∀ v, v ∈ d → -2147483648 < v ∧ v < 2147483648) → ∃ r, rice_Best_K1 4 (skip : Int) d () = some r ∧ r.1.Params.length ≤ 2 ^ 16 := by
    intro hv
    unfold rice_Best_K1
    refine iter_for (step := rice_Best_L1 4 (skip : Int) d) 2 (fun i a => a.2.1 = (i : Int) ∧ a.2.2.2.2.1.length ≤ 2 ^ 16) (fun r => r.1.Params.length ≤ 2 ^ 16) (by omega) (fun i a hi ha => ?_) (fun a ha => ?_) (a0 := (-1, 0, 0, 0, [], [])) ⟨rfl, Nat.zero_le _⟩
    · obtain ⟨ha1, ha2⟩ := ha
      left
      unfold rice_Best_L1
      rw [ha1, if_pos (by simp; omega)]
      refine Exists.elim (iter_for (step := rice_Best_L2 4 (skip : Int) d a) 5 (fun j b => b.2.1 = (j : Int) ∧ b.2.2.2.2.1.length ≤ 2 ^ 16) (fun r => ∃ a', r = .inl a' ∧ a'.2.1 = ((i + 1 : Nat) : Int) ∧ a'.2.2.2.2.1.length ≤ 2 ^ 16) (by omega) (fun j b hj hb => ?_) (fun b hb => ?_) (a0 := (a.1, 0, a.2.2.1, a.2.2.2.1, a.2.2.2.2.1, a.2.2.2.2.2)) ⟨rfl, ha2⟩) (fun r hr => let ⟨h1, a', h2, h3⟩ := hr; ⟨a', by rw [h1, h2], h3⟩)
      · obtain ⟨hb1, hb3⟩ := hb
        left
        unfold rice_Best_L2
        have e5 : W (4 + 1) = 5 := by decide
        rw [hb1, e5, if_pos (by simp; omega), e0, ha1]
        obtain ⟨c, k0, k0'⟩ := head_spec (i : Int) (j : Int) ((d.length + skip : Nat) : Int) (skip : Int)
        rw [k0]
        simp only [Option.bind_some]
        by_cases hc : c = 0
        · rw [if_neg (by simpa using hc)]
          have kk := k0'.1 hc
          have hdv := kk.dv
          have hmo := kk.mo
          simp only [Int.toNat_natCast] at hdv hmo
          simp only [lett, rice_parts, Option.bind_some]
          unfold partsF
          rw [if_pos ⟨by omega, by omega, by omega, by omega, by omega, by omega⟩]
          simp only [Option.bind_some, Int.toNat_natCast]
          have hpj : (2 : Nat) ^ j ≤ 2 ^ 4 := pow_le (by omega)
          refine Exists.elim (foldR_tot (step := rice_Best_L3 d a) (done := rice_Best_K7 a b) (ret := rice_Best_K8 b) (2 ^ j) (fun i x => x.2.1.length = i ∧ x.2.2.length = i) (fun _ => True) (fun r => ∃ b', r = .inl b' ∧ b'.2.1 = ((j + 1 : Nat) : Int) ∧ b'.2.2.2.2.1.length ≤ 2 ^ 16) (fun n x hn hx => ?_) (fun q _ => ?_) (partsN (d.length + skip) j skip) (fun e he n x hn hx => ?_) 0 (6, [], []) (by unfold partsN; simp) ⟨rfl, rfl⟩) (fun r hr => let ⟨h1, b', h2, h3⟩ := hr; ⟨b', by rw [h1, h2], h3⟩)
          · unfold rice_Best_K7 rice_Best_K5 rice_Best_K4
            rw [ite_or]
            split
            · exact ⟨_, rfl, _, rfl, by rw [hb1, W_succ (by omega)], by show x.2.1.length ≤ _; omega⟩
            · exact ⟨_, rfl, _, rfl, by rw [hb1, W_succ (by omega)], hb3⟩
          · unfold rice_Best_K8 rice_Best_K4
            exact ⟨_, rfl, _, rfl, by rw [hb1, W_succ (by omega)], hb3⟩
          · unfold partsN at he
            obtain ⟨i', hi', rfl⟩ := List.mem_map.1 he
            rw [List.mem_range] at hi'
            have hsub := (part_sub (d := d) rfl hdv hmo hi').1
            unfold rice_Best_L3 rice_Best_K6
            simp only [hsub, Option.bind_some, ha1]
            obtain ⟨r, hr⟩ := cheapest_total (m := i) (l := partXs d ((d.length + skip) / 2 ^ j) skip i') (by omega) (by unfold partXs; simp; omega) (fun v hx => hv v (by unfold partXs at hx; exact List.mem_of_mem_drop (List.mem_of_mem_take hx)))
            rw [hr]
            simp only [Option.bind_some]
            split
            · exact .inr ⟨_, rfl, trivial⟩
            · rw [app_ok (by simp; omega), app_ok (by simp; omega)]
              exact .inl ⟨_, rfl, by simp; omega, by simp; omega⟩
        · rw [if_pos (by simpa using hc)]
          unfold rice_Best_K4
          exact ⟨_, rfl, by rw [hb1, W_succ (by omega)], hb3⟩
      · obtain ⟨hb1, hb3⟩ := hb
        unfold rice_Best_L2 rice_Best_K3
        have e5 : W (4 + 1) = 5 := by decide
        rw [hb1, e5, if_neg (by decide)]
        exact ⟨_, rfl, _, rfl, by rw [ha1, W_succ (by omega)], hb3⟩
    · obtain ⟨ha1, ha2⟩ := ha
      unfold rice_Best_L1 rice_Best_K2
      rw [ha1, if_neg (by decide)]
      exact ⟨_, rfl, ha2⟩
  refine Exists.elim (iter_for (step := rice_Best_L4 4 (skip : Int) d) d.length (fun i a => a = (i : Int) ∧ ∀ v, v ∈ d.take i → -2147483648 < v ∧ v < 2147483648) (fun r => r.1.Params.length ≤ 2 ^ 16) (by omega) (fun i a hi ha => ?_) (fun a ha => ?_) (a0 := 0) ⟨rfl, fun v hv => by simp at hv⟩) (fun r hr => ⟨r.1, r.2, hr.1, hr.2⟩)
  · obtain ⟨rfl, hall⟩ := ha
    unfold rice_Best_L4
    rw [if_pos (by simpa using hi), idx_nat hi]
    obtain ⟨f, hf⟩ := fold_flag d[i]
    simp only [Option.bind_some, hf]
    split
    · exact .inr ⟨_, rfl, Nat.zero_le _⟩
    · rename_i hb
      refine .inl ⟨_, rfl, W_succ (by omega), fun v hv => ?_⟩
      rw [List.take_succ_eq_append_getElem hi] at hv
      rcases List.mem_append.1 hv with hv | hv
      · exact hall v hv
      · rw [List.mem_singleton] at hv
        subst hv
        simpa using hb
  · obtain ⟨rfl, hall⟩ := ha
    unfold rice_Best_L4
    rw [if_neg (by simp)]
    rw [List.take_length] at hall
    obtain ⟨r, h1, h2⟩ := hmain hall
    rw [h1]
    exact ⟨_, rfl, h2⟩
end Go.Vg

namespace Go.Vg

theorem shape_conv {p : subframe_Plan} {depth : Int} (h : ShapeOk p depth) : subframe_shape p depth = some 0 := by
  have k1 := h.k1; have k2 := h.k2; have w1 := h.w1; have w2 := h.w2; have o1 := h.o1; have o2 := h.o2; have ofix := h.ofix; have oplain := h.oplain; have olin := h.olin
  have key : ∀ lo hi : Int, lo ≤ p.Order → p.Order ≤ hi → subframe_shape_K1 p depth (lo, hi) = some 0 := by
    intro lo hi h1 h2
    unfold subframe_shape_K1
    simp only [ite_or, ite_and]
    rw [if_neg (by simp only [Bool.or_eq_true, decide_eq_true_eq]; omega), if_neg]
    simp only [Bool.or_eq_true, Bool.and_eq_true, decide_eq_true_eq, not_or, not_and, Bool.not_eq_true', Bool.not_eq_false, bne_iff_ne, ne_eq, Decidable.not_not, beq_iff_eq]
    refine ⟨⟨fun hk => ?_, fun hk => ?_⟩, fun hk => h.coefs hk⟩
    · obtain ⟨a1, a2, a3⟩ := h.lin hk
      rw [a1, a2, a3]; exact ⟨⟨rfl, rfl⟩, rfl⟩
    · obtain ⟨a1, a2, a3, a4⟩ := h.rice hk
      rw [a1, a2, a3, a4]; exact ⟨⟨⟨rfl, rfl⟩, rfl⟩, rfl⟩
  unfold subframe_shape
  by_cases h2 : p.Kind = 2
  · rw [if_pos (by simpa using h2)]
    exact key _ _ o1 (ofix h2)
  · rw [if_neg (by simpa using h2)]
    by_cases h3 : p.Kind = 3
    · rw [if_pos (by simpa using h3)]
      exact key _ _ (olin h3) o2
    · rw [if_neg (by simpa using h3)]
      exact key _ _ o1 (by omega)
theorem sizes_conv {n d : Int} (h : 4 ≤ d ∧ d ≤ 33 ∧ 1 ≤ n ∧ n ≤ 65535) : subframe_sizes n d = some 0 := by
  unfold subframe_sizes
  rw [ite_or, ite_or, ite_or, if_neg (by simp only [Bool.or_eq_true, decide_eq_true_eq]; omega)]
/-- A plan that is right is found so. -/
theorem check_conv {p : subframe_Plan} {depth : Int} {l l' d : List Int} (h : SubOk p depth l l' d) (hd : p.Kind < 2 → d = []) (hR : p.Rice.Params.length < 2 ^ 40) : subframe_check p depth l = some (l', d, 0) := by
  have d1 := h.d1; have d2 := h.d2; have n1 := h.n1; have n2 := h.n2; have hs := h.shape
  have k1 := hs.k1; have k2 := hs.k2; have w1 := hs.w1; have w2 := hs.w2; have o2 := hs.o2; have o1 := hs.o1
  have hll := h.len
  unfold subframe_check
  rw [sizes_conv ⟨d1, d2, by omega, by omega⟩]
  simp only [Option.bind_some]
  rw [if_neg (by decide), shape_conv hs]
  simp only [Option.bind_some]
  rw [if_neg (by decide)]
  obtain ⟨w, hw⟩ := Int.eq_ofNat_of_zero_le w1
  have ew : p.Wasted.toNat = w := by omega
  have hback := h.back
  have hless := h.less
  rw [ew] at hback hless
  obtain ⟨m, b, a3, a3', a3''⟩ := less_spec (n := w) (l := l) (by omega) (by omega)
  have hb := a3'' hback
  have hm := (a3' hb).1
  rw [← hless] at hm
  subst hm
  rw [hw, a3, hb]
  simp only [Option.bind_some]
  rw [if_neg (by decide)]
  obtain ⟨n, hn⟩ := Int.eq_ofNat_of_zero_le (show 0 ≤ depth by omega)
  obtain ⟨b2, a4, a4'⟩ := fits_spec (n := n) (l := l) (by omega) (by omega) (by omega)
  have hfit := h.fits
  rw [show depth.toNat = n by omega] at hfit
  rw [hn, a4, a4'.2 hfit]
  simp only [Option.bind_some]
  rw [if_neg (by decide)]
  by_cases hk0 : p.Kind = 0
  · rw [if_pos (by simpa using hk0)]
    obtain ⟨b, a5, a5'⟩ := same_spec (l := m) (by omega) (by omega)
    have : b = true := a5'.2 fun x hx => by
      have := h.same hk0 x hx
      rw [List.getElem?_eq_getElem (by omega)] at this
      exact (Option.some.inj this).symm
    rw [a5, this]
    simp only [Option.bind_some]
    rw [if_neg (by decide), if_pos (by rw [decide_eq_true_eq]; omega), hd (by omega)]
  rw [if_neg (by simpa using hk0)]
  by_cases hk1 : p.Kind < 2
  · rw [if_pos (by simpa using hk1), hd hk1]
  rw [if_neg (by simpa using hk1)]
  obtain ⟨q, z, hc⟩ := h.coded (by omega)
  have hcl := hc.len; have hdl := hc.dlen; have hle := hc.le
  obtain ⟨o, ho⟩ := Int.eq_ofNat_of_zero_le o1
  obtain ⟨c7, a7, a7'⟩ := pcheck_spec q (by omega)
  rw [hc.how]
  simp only [Option.bind_some]
  rw [a7, a7'.2 hc.lin]
  simp only [Option.bind_some]
  have hz := hc.size
  rw [ho] at hz
  have hchk := size_check hz (by omega) (by omega) hR
  have e1 : d.length + o = m.length := by omega
  rw [e1] at hchk
  rw [if_neg (by decide), ho, hchk]
  simp only [Option.bind_some]
  rw [if_neg (by decide)]
  obtain ⟨d', c9, a9, a9', a9''⟩ := residual_spec (p := q) (l := m) (by omega) (by omega)
  have h0 := a9'' hc.lin hc.le hc.may
  obtain ⟨_, _, _, g4, g5⟩ := a9' h0
  have hdd : d' = d := by
    apply List.ext_getElem?
    intro i
    by_cases hi : i + q.Coefs.length < m.length
    · obtain ⟨t, b1, b2⟩ := g5 i _ hi (List.getElem?_eq_getElem (by omega))
      obtain ⟨t', c1, c2⟩ := hc.told i _ hi (List.getElem?_eq_getElem (by omega))
      rw [b1] at c1
      cases c1
      rw [b2, c2]
    · rw [List.getElem?_eq_none (by omega), List.getElem?_eq_none (by omega)]
  rw [a9, h0, hdd]
  simp only [Option.bind_some]
  unfold subframe_check_K1
  rw [if_pos (by rfl), hz]
  rfl

theorem fixed_lin {n : Nat} (h : n ≤ 4) {q : predict_Linear} (hq : predict_Fixed (n : Int) = some (q, 0)) : LinOk q := by
  have key : ∀ cs : List Int, cs.length ≤ 32 → (∀ x, x ∈ cs → -8 ≤ x ∧ x < 8) → LinOk ⟨4, 0, cs⟩ := fun cs h1 h2 => ⟨h1, (show (1 : Int) ≤ 4 by decide), (show (4 : Int) ≤ 15 by decide), (show (0 : Int) ≤ 0 by decide), (show (0 : Int) ≤ 15 by decide), h2⟩
  rcases (show n = 0 ∨ n = 1 ∨ n = 2 ∨ n = 3 ∨ n = 4 by omega) with rfl | rfl | rfl | rfl | rfl
  · have : some ((⟨4, 0, []⟩ : predict_Linear), (0 : Int)) = some (q, 0) := hq
    cases this; exact key _ (by decide) (by decide)
  · have : some ((⟨4, 0, [1]⟩ : predict_Linear), (0 : Int)) = some (q, 0) := hq
    cases this; exact key _ (by decide) (by decide)
  · have : some ((⟨4, 0, [2, -1]⟩ : predict_Linear), (0 : Int)) = some (q, 0) := hq
    cases this; exact key _ (by decide) (by decide)
  · have : some ((⟨4, 0, [3, -3, 1]⟩ : predict_Linear), (0 : Int)) = some (q, 0) := hq
    cases this; exact key _ (by decide) (by decide)
  · have : some ((⟨4, 0, [4, -6, 4, -1]⟩ : predict_Linear), (0 : Int)) = some (q, 0) := hq
    cases this; exact key _ (by decide) (by decide)
/-- How long a header's part is. -/
theorem waste_eq (w : Nat) : (wasteBits w).length = 1 + w := by
  unfold wasteBits
  split
  · rename_i h; subst h; rfl
  · simp [bitsOf_length]; omega
def zeroLin : predict_Linear := ⟨0, 0, []⟩
def zeroRice : rice_Plan := ⟨0, 0, [], []⟩
/-- What subframe.Best answers: a plan that is right, and how long it is. -/
theorem best_spec (depth : Int) (l : List Int) (hl : l.length < 2 ^ 20) : ∃ p c, subframe_Best depth l = some (p, c) ∧ (c = 0 ∨ c = 1 ∨ c = 10) ∧
    (c = 0 → ∃ l' d, SubOk p depth l l' d ∧ (p.Kind < 2 → d = []) ∧ p.Rice.Params.length ≤ 2 ^ 16 ∧ ((subBits p depth l' d).length : Int) ≤ 8 + p.Wasted + l.length * (depth - p.Wasted)) := by
  unfold subframe_Best
  obtain ⟨c1, a1, a1'⟩ := sizes_spec (l.length : Int) depth
  have c1v : c1 = 0 ∨ c1 = 1 := by
    unfold subframe_sizes at a1
    rw [ite_or, ite_or, ite_or] at a1
    split at a1 <;> cases a1
    · exact .inr rfl
    · exact .inl rfl
  rw [a1]
  simp only [Option.bind_some]
  rcases (Decidable.em (c1 = 0)).symm with hc | hc
  · rw [if_pos (by simpa using hc)]
    exact ⟨_, _, rfl, by omega, fun h => absurd h hc⟩
  rw [if_neg (by simpa using hc)]
  obtain ⟨q1, q2, q3, q4⟩ := a1' hc
  obtain ⟨n, hn⟩ := Int.eq_ofNat_of_zero_le (show 0 ≤ depth by omega)
  obtain ⟨b, a4, a4'⟩ := fits_spec (n := n) (l := l) (by omega) (by omega) (by omega)
  rw [← hn] at a4
  rw [a4]
  simp only [Option.bind_some]
  cases b with
  | false => exact ⟨_, _, if_pos (by decide), by omega, fun h => (nomatch h)⟩
  | true =>
  rw [if_neg (by decide)]
  have hfit := a4'.1 rfl
  have hp32 : (2 : Nat) ^ (n - 1) ≤ 2 ^ 32 := pow_le (by omega)
  have hpc := pow_cast (n - 1)
  have hpp := pow_posI (n - 1)
  obtain ⟨w, b1, b2, b3, b4, b5⟩ := wasted_spec (l := l) (by omega) (fun x hx => by have := hfit x hx; omega)
  rw [b1]
  simp only [Option.bind_some]
  -- fewer noughts than bits
  have hwn : w < n := by
    by_cases hz : ∀ x, x ∈ l → x = 0
    · have := b4 hz; omega
    · obtain ⟨x, hx, hx0⟩ : ∃ x, x ∈ l ∧ x ≠ 0 := Classical.byContradiction fun hc => hz fun x hx => Classical.byContradiction fun h => hc ⟨x, hx, h⟩
      have hdv := b3 x hx
      have hf := hfit x hx
      rcases Nat.lt_or_ge w n with h | h
      · exact h
      · exfalso
        unfold Dv at hdv
        have hle : (2 : Int) ^ n ≤ 2 ^ w := by
          have := pow_le h
          have e1 := pow_cast n
          have e2 := pow_cast w
          omega
        have e : (2 : Int) ^ n = 2 ^ (n - 1) * 2 := by rw [← Int.pow_succ]; congr 1; omega
        have hdvd : (2 : Int) ^ w ∣ x := Int.dvd_of_emod_eq_zero hdv
        obtain ⟨y, rfl⟩ := hdvd
        have hy : y ≠ 0 := fun h => hx0 (by rw [h, Int.mul_zero])
        have hpw := pow_posI w
        rcases Int.lt_or_gt_of_ne hy with h1 | h1
        · have := Int.mul_le_mul_of_nonneg_left (show y ≤ -1 by omega) (Int.le_of_lt hpw)
          omega
        · have := Int.mul_le_mul_of_nonneg_left (show 1 ≤ y by omega) (Int.le_of_lt hpw)
          omega
  have hback : ∀ x, x ∈ l → x = x / 2 ^ w * 2 ^ w := fun x hx => by
    have := b3 x hx
    unfold Dv at this
    have h2 := Int.emod_add_ediv_mul x (2 ^ w)
    omega
  obtain ⟨l', b, a3, a3', a3''⟩ := less_spec (n := w) (l := l) (by omega) (by omega)
  have hb := a3'' hback
  obtain ⟨hless, _⟩ := a3' hb
  rw [a3]
  simp only [Option.bind_some]
  have hll : l'.length = l.length := by rw [hless, List.length_map]
  obtain ⟨b6, a6, a6'⟩ := same_spec (l := l') (by omega) (by omega)
  rw [a6]
  simp only [Option.bind_some]
  have ok : ∀ (p : subframe_Plan) (d : List Int), p.Wasted = (w : Int) → ShapeOk p depth → (p.Kind = 0 → ∀ x, x ∈ l' → l'[0]? = some x) → (2 ≤ p.Kind → ∃ q z, CodedOk p l' d q z) → SubOk p depth l l' d := fun p d hw hs h1 h2 =>
    ⟨q1, q2, by omega, by omega, hs, by rw [hw]; exact hless, by rw [hw]; exact hback, by rw [hn]; exact hfit, h1, h2⟩
  have hmay : MayP l' := by
    intro x hx
    rw [hless] at hx
    obtain ⟨y, hy, rfl⟩ := List.mem_map.1 hx
    have hf := hfit y hy
    have hyb := hback y hy
    have hpw := pow_posI w
    have h1 : (1 : Int) ≤ 2 ^ w := by omega
    show -4294967296 ≤ y / 2 ^ w ∧ y / 2 ^ w < 4294967296
    constructor
    · refine Int.le_ediv_of_mul_le hpw ?_
      have := Int.mul_le_mul_of_nonneg_left h1 (show (0 : Int) ≤ 4294967296 by decide)
      omega
    · refine Int.ediv_lt_of_lt_mul hpw ?_
      have := Int.mul_le_mul_of_nonneg_left h1 (show (0 : Int) ≤ 4294967296 by decide)
      omega
  have hpl : ∀ k : Int, k = 0 ∨ k = 1 → ShapeOk ⟨k, 0, (w : Int), ⟨0, 0, []⟩, ⟨0, 0, [], []⟩⟩ depth := fun k hk =>
    ⟨by show 0 ≤ k; omega, by show k ≤ 3; omega, by show 0 ≤ (w : Int); omega, by show (w : Int) < depth; omega, (show (0 : Int) ≤ 0 by decide), (show (0 : Int) ≤ 32 by decide), fun h => by exact absurd h (show ¬ k = 2 by omega), fun _ => rfl, fun _ => ⟨rfl, rfl, rfl⟩, fun _ => ⟨rfl, rfl, rfl, rfl⟩, fun h => by exact absurd h (show ¬ k = 3 by omega), fun h => by exact absurd h (show ¬ k = 3 by omega)⟩
  have hdn : (depth - (w : Int)).toNat = n - w := by omega
  have verb : ∃ p c, some ((⟨1, 0, (w : Int), ⟨0, 0, []⟩, ⟨0, 0, [], []⟩⟩ : subframe_Plan), (0 : Int)) = some (p, c) ∧ (c = 0 ∨ c = 1 ∨ c = 10) ∧ (c = 0 → ∃ l' d, SubOk p depth l l' d ∧ (p.Kind < 2 → d = []) ∧ p.Rice.Params.length ≤ 2 ^ 16 ∧ ((subBits p depth l' d).length : Int) ≤ 8 + p.Wasted + l.length * (depth - p.Wasted)) := by
    have hso := ok ⟨1, 0, (w : Int), ⟨0, 0, []⟩, ⟨0, 0, [], []⟩⟩ [] rfl (hpl 1 (.inr rfl)) (fun h => by cases h) (fun h => by exact absurd h (show ¬ (2 : Int) ≤ 1 by decide))
    refine ⟨_, _, rfl, .inl rfl, fun _ => ⟨l', [], hso, fun _ => rfl, Nat.zero_le _, ?_⟩⟩
    have e1 : plainN ⟨1, 0, (w : Int), ⟨0, 0, []⟩, ⟨0, 0, [], []⟩⟩ l'.length = l'.length := by simp [plainN]
    have e2 : codeB ⟨1, 0, (w : Int), ⟨0, 0, []⟩, ⟨0, 0, [], []⟩⟩ [] = [] := by simp [codeB]
    unfold subBits
    simp only [List.length_append, bitsOf_length, waste_eq, esc_flat_len, e1, e2]
    rw [List.take_length, hll, hdn]
    simp only [List.length_nil, Int.toNat_natCast]
    have e : (depth - (w : Int)) = ((n - w : Nat) : Int) := by omega
    rw [e]
    push_cast
    omega
  cases b6 with
  | true =>
    clear verb
    rw [if_pos rfl]
    have hso := ok ⟨0, 0, (w : Int), ⟨0, 0, []⟩, ⟨0, 0, [], []⟩⟩ [] rfl (hpl 0 (.inl rfl)) (fun _ x hx => by rw [List.getElem?_eq_getElem (by omega), a6'.1 rfl x hx]) (fun h => by exact absurd h (show ¬ (2 : Int) ≤ 0 by decide))
    refine ⟨_, _, rfl, .inl rfl, fun _ => ⟨l', [], hso, fun _ => rfl, Nat.zero_le _, ?_⟩⟩
    have e1 : plainN ⟨0, 0, (w : Int), ⟨0, 0, []⟩, ⟨0, 0, [], []⟩⟩ l'.length = 1 := by simp [plainN]
    have e2 : codeB ⟨0, 0, (w : Int), ⟨0, 0, []⟩, ⟨0, 0, [], []⟩⟩ [] = [] := by simp [codeB]
    unfold subBits
    simp only [List.length_append, bitsOf_length, waste_eq, esc_flat_len, e1, e2]
    rw [List.length_take, Nat.min_eq_left (by omega), hdn]
    simp only [List.length_nil, Int.toNat_natCast, Nat.one_mul]
    have e : (depth - (w : Int)) = ((n - w : Nat) : Int) := by omega
    rw [e]
    have := Nat.mul_le_mul_right (n - w) (show 1 ≤ l.length by omega)
    have e2 : ((l.length : Int) * ((n - w : Nat) : Int)) = ((l.length * (n - w) : Nat) : Int) := by push_cast; rfl
    rw [e2]
    omega
  | false =>
  rw [if_neg (by decide)]
  obtain ⟨o, b7, b8, b9⟩ := pbest_some (l := l') (by omega) (by omega)
  rw [b7]
  simp only [Option.bind_some]
  unfold subframe_Best_K1
  obtain ⟨q, hq, hql⟩ := fixed_some b8
  have hhow : ∀ R : rice_Plan, subframe_how (⟨2, (o : Int), (w : Int), ⟨0, 0, []⟩, R⟩ : subframe_Plan) = some q := fun R => by
    unfold subframe_how
    rw [if_pos (by rfl), hq]; rfl
  have hqL : LinOk q := fixed_lin b8 hq
  rw [hhow ⟨0, 0, [], []⟩]
  simp only [Option.bind_some]
  obtain ⟨d, c9, r1, r1', r1''⟩ := residual_spec (p := q) (l := l') (by omega) (by omega)
  have h9 := r1'' hqL (by omega) hmay
  obtain ⟨_, _, _, g4, g5⟩ := r1' h9
  rw [r1]
  simp only [Option.bind_some]
  obtain ⟨R, cb, s1, s2⟩ := rbest_total (skip := o) (d := d) (by omega) (by omega)
  rw [s1]
  simp only [Option.bind_some]
  rcases (Decidable.em (cb = 0)).symm with hcb | hcb
  · rw [if_pos (by simpa using hcb)]
    exact verb
  rw [if_neg (by simpa using hcb)]
  obtain ⟨z, cz, s3, _⟩ := size_spec R o d (by omega) (by omega) (by omega)
  rw [s3]
  simp only [Option.bind_some]
  rw [ite_and]
  rcases (Decidable.em (cz = 0 ∧ W (z + W ((o : Int) * W (depth - (w : Int)))) < W ((l'.length : Int) * W (depth - (w : Int))))).symm with hz | hz
  · rw [if_neg (by simpa using hz)]
    exact verb
  clear verb
  rw [if_pos (by simpa using hz)]
  obtain ⟨hcz, hlt⟩ := hz
  rw [hcz] at s3
  have hcnt := size_count (p := R) (skip := o) (d := d) (by omega) (by omega) (by omega) s3
  have hplen := plan_len (p := R) (skip := o) (d := d) (by omega) (by omega) (by omega) s3
  have hcod : CodedOk ⟨2, (o : Int), (w : Int), ⟨0, 0, []⟩, R⟩ l' d q z := ⟨hhow R, by show (q.Coefs.length : Int) = (o : Int); omega, hqL, hmay, by omega, g4, g5, s3⟩
  have hsh : ShapeOk ⟨2, (o : Int), (w : Int), ⟨0, 0, []⟩, R⟩ depth :=
    ⟨(show (0 : Int) ≤ 2 by decide), (show (2 : Int) ≤ 3 by decide), by show 0 ≤ (w : Int); omega, by show (w : Int) < depth; omega, by show 0 ≤ (o : Int); omega, by show (o : Int) ≤ 32; omega, fun _ => by show (o : Int) ≤ 4; omega, fun h => by exact absurd h (show ¬ (2 : Int) < 2 by decide), fun _ => ⟨rfl, rfl, rfl⟩, fun h => by exact absurd h (show ¬ (2 : Int) < 2 by decide), fun h => by exact absurd h (show ¬ (2 : Int) = 3 by decide), fun h => by exact absurd h (show ¬ (2 : Int) = 3 by decide)⟩
  have hso := ok ⟨2, (o : Int), (w : Int), ⟨0, 0, []⟩, R⟩ d rfl hsh (fun h => by exact absurd h (show ¬ (2 : Int) = 0 by decide)) (fun _ => ⟨q, z, hcod⟩)
  refine ⟨_, _, rfl, .inl rfl, fun _ => ⟨l', d, hso, fun h => by exact absurd h (show ¬ (2 : Int) < 2 by decide), s2, ?_⟩⟩
  have e1 : plainN ⟨2, (o : Int), (w : Int), ⟨0, 0, []⟩, R⟩ l'.length = o := by simp [plainN]
  have e2 : codeB ⟨2, (o : Int), (w : Int), ⟨0, 0, []⟩, R⟩ d = planBits R d o := by simp [codeB]
  unfold subBits
  simp only [List.length_append, bitsOf_length, waste_eq, esc_flat_len, e1, e2]
  rw [List.length_take, Nat.min_eq_left (by omega), hdn]
  have e : (depth - (w : Int)) = ((n - w : Nat) : Int) := by omega
  have m1 : o * (n - w) ≤ 4 * 33 := Nat.mul_le_mul b8 (by omega)
  have m2 : l'.length * (n - w) ≤ 65535 * 33 := Nat.mul_le_mul (by omega) (by omega)
  have c1 : ((o : Int) * ((n - w : Nat) : Int)) = ((o * (n - w) : Nat) : Int) := by push_cast; rfl
  have c2 : ((l'.length : Int) * ((n - w : Nat) : Int)) = ((l'.length * (n - w) : Nat) : Int) := by push_cast; rfl
  rw [e, W_id (x := ((n - w : Nat) : Int)) (by omega) (by omega), c1, c2, W_id (x := ((o * (n - w) : Nat) : Int)) (by omega) (by omega), W_id (x := ((l'.length * (n - w) : Nat) : Int)) (by omega) (by omega), hcnt, W_id (by omega) (by omega)] at hlt
  rw [hll] at hlt
  have c3 : ((l.length : Int) * ((n - w : Nat) : Int)) = ((l.length * (n - w) : Nat) : Int) := by push_cast; rfl
  show (_ : Int) ≤ 8 + (w : Int) + (l.length : Int) * (depth - (w : Int))
  rw [e, c3]
  simp only [Int.toNat_natCast]
  omega
end Go.Vg

namespace Go.Vg

theorem short_L1 {depth : Int} {l : List Int} {p : subframe_Plan} {l' d : List Int} {r7 : Int × Int × List Int} (hl : l.length < 2 ^ 20) (h : SubOk p depth l l' d) (h7 : r7.2.1 ≤ 8 + p.Wasted + l.length * (depth - p.Wasted)) :
    iter (jetsamlaw07_SubframeShort_L1 depth l (p, 0) r7) 0 = some true := by
  have hd1 := h.d1; have hd2 := h.d2; have hn1 := h.n1; have hw1 := h.shape.w1; have hw2 := h.shape.w2
  obtain ⟨n, hn⟩ := Int.eq_ofNat_of_zero_le (show 0 ≤ depth by omega)
  refine Exists.elim (iter_for (step := jetsamlaw07_SubframeShort_L1 depth l (p, 0) r7) n (fun i a => a = (i : Int)) (fun r => r = true) (by omega) (fun i a hi ha => ?_) (fun a ha => ?_) (a0 := 0) rfl) (fun r hr => by rw [hr.1, hr.2])
  · subst ha
    left
    unfold jetsamlaw07_SubframeShort_L1
    rw [if_pos (by rw [hn]; simpa using hi)]
    simp only [bits_NewWriter, Option.bind_some]
    obtain ⟨c, m', d', w1, w2⟩ := write_spec (p := ⟨1, 0, (i : Int), ⟨0, 0, []⟩, ⟨0, 0, [], []⟩⟩) (depth := depth) (l := l) (by omega) (by show ([] : List Int).length < _; decide) [] (by simp)
    have e0 : pk [] = [] := rfl
    rw [e0] at w1 w2
    have hW : ∃ c x y, subframe_Write ⟨1, 0, (i : Int), ⟨0, 0, []⟩, ⟨0, 0, [], []⟩⟩ depth l 0 [] = some (c, x, y) := by
      by_cases hc : c = 0
      · exact ⟨_, _, _, (w2 hc).2⟩
      · exact ⟨_, _, _, w1 hc⟩
    obtain ⟨c2, x, y, hw⟩ := hW
    rw [hw]
    simp only [Option.bind_some]
    rw [ite_and]
    split
    · rename_i hcond
      rw [Bool.and_eq_true, decide_eq_true_eq] at hcond
      simp only [bits_Writer_Len, Option.bind_some]
      have hle := hcond.2
      have hX : W ((W (8 + (i : Int))) + (W ((l.length : Int) * (W (depth - (i : Int)))))) = 8 + (i : Int) + l.length * (depth - (i : Int)) := by
        have m1 : l.length * (n - i) ≤ 1048576 * 33 := Nat.mul_le_mul (by omega) (by omega)
        have e1 : depth - (i : Int) = ((n - i : Nat) : Int) := by omega
        have e2 : ((l.length : Int) * ((n - i : Nat) : Int)) = ((l.length * (n - i) : Nat) : Int) := by push_cast; rfl
        rw [e1, W_id (x := ((n - i : Nat) : Int)) (by omega) (by omega), e2, W_id (x := ((l.length * (n - i) : Nat) : Int)) (by omega) (by omega), W_id (x := 8 + (i : Int)) (by omega) (by omega), W_id (by omega) (by omega)]
      rw [hX]
      have hkey : r7.2.1 ≤ 8 + (i : Int) + l.length * (depth - (i : Int)) := by
        obtain ⟨k, hk⟩ : ∃ k, p.Wasted = (i : Int) + k := ⟨p.Wasted - i, by omega⟩
        have e : depth - p.Wasted = (depth - (i : Int)) - k := by omega
        rw [e, Int.mul_sub] at h7
        have := Int.mul_le_mul_of_nonneg_right (show (1 : Int) ≤ l.length by omega) (show 0 ≤ k by omega)
        omega
      rw [if_neg]
      · exact ⟨_, rfl, W_succ (by omega)⟩
      · rw [decide_eq_true_eq]
        generalize 8 + (i : Int) + l.length * (depth - (i : Int)) = X at *
        split <;> omega
    · exact ⟨_, rfl, W_succ (by omega)⟩
  · subst ha
    unfold jetsamlaw07_SubframeShort_L1 jetsamlaw07_SubframeShort_K2
    rw [if_neg (by rw [hn]; simp), awake_ok]
    exact ⟨_, rfl, rfl⟩
theorem short_K1 (depth : Int) (l : List Int) (hl : l.length ≤ 60) : jetsamlaw07_SubframeShort_K1 depth l () = some true := by
  unfold jetsamlaw07_SubframeShort_K1
  obtain ⟨p, c, h1, h2, h3⟩ := best_spec depth l (by omega)
  rw [h1]
  simp only [Option.bind_some, awake_ok]
  rcases (Decidable.em (c = 0)).symm with hc | hc
  · clear h3
    rw [if_pos (by simpa using hc), ite_or, if_pos (by rw [Bool.or_eq_true, beq_iff_eq, beq_iff_eq]; omega)]
  · rw [if_neg (by simpa using hc)]
    obtain ⟨l', d, hs, hd, hR, hlen⟩ := h3 hc
    simp only [bits_NewWriter, Option.bind_some]
    have hw := write_of hs (check_conv hs hd (by omega)) (by omega) [] (by simp)
    have hw' : subframe_Write p depth l 0 [] = some (0, ((subBits p depth l' d).length : Int), pk (subBits p depth l' d)) := hw
    rw [hw']
    simp only [Option.bind_some]
    rw [if_neg (by decide), hc]
    exact short_L1 (by omega) hs hlen
theorem law_SubframeShort (depth : Int) (l : List Int) : jetsamlaw07_SubframeShort depth l = some true := by
  unfold jetsamlaw07_SubframeShort
  obtain ⟨b, h1, h1'⟩ := few_spec (⟨0, 0, 0, ⟨0, 0, []⟩, ⟨0, 0, [], []⟩⟩ : subframe_Plan) l
  rw [h1]
  simp only [Option.bind_some, awake_ok]
  rw [ite_or]
  split
  · rfl
  · rename_i hc
    rw [Bool.or_eq_true, decide_eq_true_eq] at hc
    have hl : l.length ≤ 60 := by omega
    refine Exists.elim (iter_for (step := jetsamlaw07_SubframeShort_L2 depth l) l.length (fun i a => a = (i : Int)) (fun r => r = true) (by omega) (fun i a hi ha => ?_) (fun a ha => ?_) (a0 := 0) rfl) (fun r hr => by rw [hr.1, hr.2])
    · subst ha
      unfold jetsamlaw07_SubframeShort_L2
      rw [if_pos (by simpa using hi), idx_nat hi]
      simp only [Option.bind_some, awake_ok]
      split
      · exact .inr ⟨_, rfl, rfl⟩
      · split
        · exact .inr ⟨_, rfl, rfl⟩
        · exact .inl ⟨_, rfl, W_succ (by omega)⟩
    · subst ha
      unfold jetsamlaw07_SubframeShort_L2
      rw [if_neg (by simp), short_K1 depth l hl]
      exact ⟨_, rfl, rfl⟩
end Go.Vg
