/- Arguments, opened, with what is known of their sizes. -/
import Derived.Test.YtpdklmagncfhaaaDoorA7
import Derived.SizedLaws
set_option maxRecDepth 4000
set_option linter.all false
set_option linter.unusedVariables false
set_option linter.unusedSimpArgs false
namespace Go.Vg
open Go Go.WideShapes Go.ChangeShapes Go.Deep Go.RowKit

/-- At least so many bytes. -/
def Sh.by : Sh → Nat
  | .int .i64 => 8
  | .int _ => 1
  | .bool => 1
  | .str => 16
  | .sl _ => 24
  | .pair a r => a.by + r.by
/-- No part is longer. -/
def Sh.small (B : Nat) : (s : Sh) → s.T → Prop
  | .int _, _ => True
  | .bool, _ => True
  | .str, l => List.length (α := UInt8) l ≤ B
  | .sl e, l => List.length (α := e.T) l * e.by ≤ B ∧ ∀ q, q ∈ (show List e.T from l) → Sh.small B e q
  | .pair a r, p => Sh.small B a p.1 ∧ Sh.small B r p.2
theorem mem_weightsAll {H : Type} {P : Program} {e : TypeId} : ∀ {l : List (DataW H)} {d : DataW H} {n : Nat}, d ∈ l → n ∈ d.weights P e → n ∈ DataW.weightsAll P e l
  | [], _, _, h, _ => by cases h
  | x :: l, d, n, h, hn => by
    unfold DataW.weightsAll
    rcases List.mem_cons.1 h with rfl | h
    · exact List.mem_append_left _ hn
    · exact List.mem_append_right _ (mem_weightsAll h hn)
mutual
/-- A type has this shape. -/
def rdTs (P : Program) : Nat → TypeId → Sh → Bool
  | 0, _, _ => false
  | n + 1, t, s => match P.underlying t, s with
    | some (.int k), .int k' => decide (k = k')
    | some .bool, .bool => true
    | some .string, .str => true
    | some (.slice e), .sl s => ((eqN (P.cellsOf e) s.sz) && (ltN 0 s.sz) && rdTs P n e s) && decide (s.by ≤ P.bytesOf e)
    | some (.struct fs), .pair a r => (eqN (P.cellsOf t) (Sh.pair a r).sz) && rdFs P n 0 fs.toList (.pair a r)
    | some (.array m e), .pair a r => (eqN (P.cellsOf t) (Sh.pair a r).sz) && rdAs P n e m (.pair a r)
    | _, _ => false
def rdFs (P : Program) : Nat → Nat → List Field → Sh → Bool
  | 0, _, _, _ => false
  | n + 1, off, [f], s => (eqN f.offset off) && (eqN (P.cellsOf f.type) s.sz) && rdTs P n f.type s
  | n + 1, off, f :: r, .pair a b => (eqN f.offset off) && (eqN (P.cellsOf f.type) a.sz) && rdTs P n f.type a && rdFs P n (off + a.sz) r b
  | _, _, _, _ => false
def rdAs (P : Program) : Nat → TypeId → Nat → Sh → Bool
  | 0, _, _, _ => false
  | n + 1, e, 1, s => (eqN (P.cellsOf e) s.sz) && rdTs P n e s
  | n + 1, e, m + 2, .pair a b => (eqN (P.cellsOf e) a.sz) && rdTs P n e a && rdAs P n e (m + 1) b
  | _, _, _, _ => false
end

section
variable {H : Type} {enc : TypeId × Value → H} {P : Program} {w : World} {base : Nat} {spare : Nat → Bool} {held : Bool} {B : Nat}

mutual
theorem rdT_opens : ∀ (n : Nat) {t : TypeId} {s : Sh} {fuel : Nat} {cs : List Value} {x : DataW H × List MemPlace}, rdTs P n t s = true → DataW.trod enc P w base spare held fuel t cs = some x → (∀ n, n ∈ x.1.weights P t → n ≤ B) → ∃ p, Shaped w cs s p ∧ s.small B p
  | 0, _, _, _, _, _, h, _, _ => by simp [rdTs] at h
  | n + 1, t, s, fuel, cs, x, h, hx, Hw => by
    unfold rdTs at h
    split at h
    · rename_i k k' ht
      simp only [decide_eq_true_eq] at h
      subst h
      obtain ⟨m, rfl, rfl, hw⟩ := DataW.trod_int ht hx
      refine ⟨m, ⟨rfl, fun i c hi => ?_⟩, trivial⟩
      cases i with
      | zero =>
        simp at hi; subst hi
        refine ⟨rfl, fun x hx => ?_⟩
        simp [Sh.cells] at hx
        subst hx
        simp only [Lit.wf, Bool.and_eq_true, decide_eq_true_eq] at hw
        exact .int k _ m rfl hw
      | succ i => simp at hi
    · rename_i ht
      obtain ⟨b, rfl, rfl⟩ := DataW.trod_bool ht hx
      refine ⟨b, ⟨rfl, fun i c hi => ?_⟩, trivial⟩
      cases i with
      | zero =>
        simp at hi; subst hi
        refine ⟨rfl, fun x hx => ?_⟩
        simp [Sh.cells] at hx
        subst hx
        exact .bool _ b rfl
      | succ i => simp at hi
    · rename_i ht
      obtain ⟨b, rfl, rfl, hl⟩ := DataW.trod_string ht hx
      refine ⟨b.data.toList, ⟨rfl, fun i c hi => ?_⟩, Hw _ (by simp [DataW.weights])⟩
      cases i with
      | zero =>
        simp at hi; subst hi
        refine ⟨rfl, fun x hx => ?_⟩
        simp [Sh.cells] at hx
        subst hx
        refine .str _ b rfl ?_
        simp only [SE.den]
        have : b.data.toList.length = b.size := rfl
        rw [this]; unfold LIM; unfold maxLen at hl; omega
      | succ i => simp at hi
    · rename_i e s ht
      simp only [Bool.and_eq_true] at h
      obtain ⟨h, hby⟩ := h
      have hby : s.by ≤ P.bytesOf e := by simpa using hby
      have hce := eqN_true h.1.1
      have hpos : 0 < s.sz := by simpa using h.1.2
      rcases open_slice ht hx with ⟨rfl, rfl⟩ | ⟨a, len, cap, m, nn, D, Pl, rfl, hb, hl, hm, hmm, rfl, hall⟩
      · refine ⟨([] : List s.T), ⟨rfl, fun i c hi => ?_⟩, (show ([] : List s.T).length * s.by ≤ B by simp), fun q hq => nomatch hq⟩
        cases i with
        | zero =>
          simp at hi; subst hi
          refine ⟨rfl, fun x hx => ?_⟩
          simp [Sh.cells] at hx
          subst hx
          exact .nilsl _ s.sz (by simp [V.elems])
        | succ i => simp at hi
      · have hlm : len ≤ m := by rw [hmm]; split <;> omega
        have hweq : DataW.weights P t (.slice ((List.range len).map D) ((List.range (m - len)).map fun j => D (len + j))) = (((List.range len).map D).length + ((List.range (m - len)).map fun j => D (len + j)).length) * P.bytesOf e :: (DataW.weightsAll P e ((List.range len).map D) ++ DataW.weightsAll P e ((List.range (m - len)).map fun j => D (len + j))) := by simp only [DataW.weights, ht]
        have hwl : len * s.by ≤ B := by
          have := Hw _ (by rw [hweq]; exact List.mem_cons_self ..)
          simp only [List.length_map, List.length_range] at this
          have h2 : len * s.by ≤ (len + (m - len)) * P.bytesOf e := Nat.mul_le_mul (by omega) hby
          omega
        have hwD : ∀ i, i < len → ∀ k, k ∈ (D i).weights P e → k ≤ B := fun i hi k hk => Hw k (by rw [hweq]; exact List.mem_cons_of_mem _ (List.mem_append_left _ (mem_weightsAll (List.mem_map_of_mem (List.mem_range.2 hi)) hk)))
        have hex : ∀ i, i < len → ∃ p : s.T, (∀ j (c : Value), w.cell? ((a.add (i * s.sz)).add j) = some c → j < s.sz → c.oneCell' = true ∧ ∀ x, (s.cells p)[j]? = some x → RD w (fun _ => False) c x) ∧ s.small B p := fun i hi => by
          obtain ⟨cs', h1, h2⟩ := hall i (by omega)
          obtain ⟨p, hp, hsm⟩ := rdT_opens n h.2 h2 (hwD i hi)
          rw [hce] at h1
          obtain ⟨_, _, h3⟩ := World.cells?_some h1
          exact ⟨p, fun j c hc hj => hp.2 j c (by rw [← h3 j hj]; exact hc), hsm⟩
        have hcell : ∀ i j, i < len → j < s.sz → ∃ c, w.cell? ((a.add (i * s.sz)).add j) = some c := fun i j hi hj => by
          obtain ⟨cs', h1, h2⟩ := hall i (by omega)
          rw [hce] at h1
          obtain ⟨_, h4, h3⟩ := World.cells?_some h1
          rw [h3 j hj]
          exact ⟨cs'[j], List.getElem?_eq_getElem (by omega)⟩
        by_cases h0 : len = 0
        · subst h0
          refine ⟨([] : List s.T), ⟨rfl, fun i c hi => ?_⟩, (show ([] : List s.T).length * s.by ≤ B by simp), fun q hq => nomatch hq⟩
          cases i with
          | zero =>
            simp at hi; subst hi
            refine ⟨rfl, fun x hx => ?_⟩
            simp [Sh.cells] at hx
            subst hx
            exact .slice _ s.sz [] (by simp [V.elems]) (by simp) a cap (by simp) (by simp) (by simp) (by simp) (by simp) (by simp) (fun _ _ => undef) (by simp) (by simp) (by simp)
          | succ i => simp at hi
        · have hspot : a.spot = none := by
            obtain ⟨c, hc⟩ := hcell 0 0 (by omega) hpos
            rw [Nat.zero_mul, show (a.add 0).add 0 = a from rfl] at hc
            unfold World.cell? at hc
            split at hc
            · split at hc
              · cases hc
              · rename_i hs; simpa using hs
            · cases hc
          obtain ⟨b, off, spot⟩ := a
          simp only at hspot; subst hspot
          have hblt : b < w.heap.size := by
            obtain ⟨c, hc⟩ := hcell 0 0 (by omega) hpos
            simp only [Addr.add_at, World.cell?] at hc
            rcases Nat.lt_or_ge b w.heap.size with h | h
            · exact h
            · simp [h] at hc
          obtain ⟨c0, hc0⟩ := hcell 0 0 (by omega) hpos
          let f : Nat → s.T := fun i => if hi : i < len then Classical.choose (hex i hi) else Classical.choose (hex 0 (by omega))
          have hf : ∀ i, i < len → ∀ j (c : Value), w.cell? ⟨b, off + i * s.sz + j, none⟩ = some c → j < s.sz → c.oneCell' = true ∧ ∀ x, (s.cells (f i))[j]? = some x → RD w (fun _ => False) c x := fun i hi j c hc hj => by
            have := (Classical.choose_spec (hex i hi)).1 j c (by rw [Addr.add_at, Addr.add_at]; exact hc) hj
            simp only [f, hi, dif_pos]
            exact this
          have hfs : ∀ i, i < len → s.small B (f i) := fun i hi => by
            have := (Classical.choose_spec (hex i hi)).2
            simp only [f, hi, dif_pos]
            exact this
          refine ⟨(List.range len).map f, ⟨rfl, fun i c hi => ?_⟩, (show ((List.range len).map f).length * s.by ≤ B by simpa using hwl), fun q hq => (by
            obtain ⟨i, hi, rfl⟩ := List.mem_map.1 (show q ∈ (List.range len).map f from hq)
            exact hfs i (List.mem_range.1 hi))⟩
          cases i with
          | zero =>
            simp at hi; subst hi
            refine ⟨rfl, fun x hx => ?_⟩
            simp [Sh.cells] at hx
            subst hx
            have hlen : len = (((List.range len).map f).map s.val).length := by simp
            have hget : ∀ (i : Nat) (e : V), (((List.range len).map f).map s.val)[i]? = some e → i < len ∧ e = s.val (f i) := fun i e he => by
              have hi : i < len := by
                have := (List.getElem?_eq_some_iff.1 he).1
                simpa using this
              refine ⟨hi, ?_⟩
              simp [hi] at he
              exact he.symm
            have hsz : ∀ i (y : V) j, (Vg.cells (s.val (f i)))[j]? = some y → j < s.sz ∧ (s.cells (f i))[j]? = some y := fun i y j hj => by
              rw [Sh.cells_val] at hj
              have := (List.getElem?_eq_some_iff.1 hj).1
              rw [Sh.cells_len] at this
              exact ⟨this, hj⟩
            have hcv : ∀ i j, i < len → j < s.sz → w.cell? ⟨b, off + i * s.sz + j, none⟩ = some ((w.cell? ⟨b, off + i * s.sz + j, none⟩).getD undef) := fun i j hi hj => by
              obtain ⟨c, hc⟩ := hcell i j hi hj
              rw [Addr.add_at, Addr.add_at] at hc
              rw [hc]; rfl
            have key : RD w (fun _ => False) (.slice (some ⟨b, off, none⟩) (((List.range len).map f).map s.val).length cap) (.sl s.sz s.val ((List.range len).map f)) := by
              refine .slice _ s.sz _ (by simp [V.elems]) (by simp) ⟨b, off, none⟩ cap (by rw [← hlen]; exact hl) (by rw [← hlen]; unfold LIM; unfold maxLen at hm; omega) (fun _ => rfl) (fun _ h => h) (fun _ => hblt) (fun i e he => ?_)
                (fun i j => (w.cell? ⟨b, off + i * s.sz + j, none⟩).getD undef) (fun i e he j y hj => ?_) (fun i e he j y hj => ?_) (fun i e he j y hj => ?_)
              · obtain ⟨_, rfl⟩ := hget i e he
                rw [Sh.cells_val, Sh.cells_len]
              · obtain ⟨hi, rfl⟩ := hget i e he
                obtain ⟨hjs, _⟩ := hsz i y j hj
                exact (hf i hi j _ (hcv i j hi hjs) hjs).1
              · obtain ⟨hi, rfl⟩ := hget i e he
                obtain ⟨hjs, _⟩ := hsz i y j hj
                exact hcv i j hi hjs
              · obtain ⟨hi, rfl⟩ := hget i e he
                obtain ⟨hjs, hjx⟩ := hsz i y j hj
                exact (hf i hi j _ (hcv i j hi hjs) hjs).2 y hjx
            rw [← hlen] at key
            exact key
          | succ i => simp at hi
    · rename_i fs a r ht
      generalize Sh.pair a r = s at h
      simp only [Bool.and_eq_true] at h
      obtain ⟨xs, m, _, rfl, hl, hlen, hf⟩ := DataW.trod_struct ht hx
      have hsz := eqN_true h.1
      have hweq : DataW.weights P t (.agg (xs.map (·.1))) = DataW.weightsEach P (fs.toList.map (·.type)) (xs.map (·.1)) := by simp only [DataW.weights, ht]
      obtain ⟨p, hp, hsm⟩ := rdF_opens n (cs := cs) (fuel := m) (fs := fs.toList) (off := 0) h.2 (fun i f hi => by
        have hi' : fs[i]? = some f := by simpa using hi
        have := hf i f hi'
        have hlt : i < xs.length := by rw [hlen]; exact (Array.getElem?_eq_some_iff.1 hi').1
        exact ⟨xs[i], by rw [this]; exact List.getElem?_eq_getElem hlt, fun k hk => Hw k (by rw [hweq]; exact DataW.weights_mem_each (j := i) (t := f.type) (by rw [List.getElem?_map, hi]; rfl) (by rw [List.getElem?_map, List.getElem?_eq_getElem hlt]; rfl) k hk)⟩) (by omega)
      rw [List.drop_zero, List.take_of_length_le (by omega)] at hp
      exact ⟨p, hp, hsm⟩
    · rename_i m e a r ht
      generalize Sh.pair a r = s at h
      simp only [Bool.and_eq_true] at h
      obtain ⟨xs, k, _, rfl, hl, hlen, hf⟩ := DataW.trod_array ht hx
      have hsz := eqN_true h.1
      have hweq : DataW.weights P t (.agg (xs.map (·.1))) = DataW.weightsAll P e (xs.map (·.1)) := by simp only [DataW.weights, ht]
      obtain ⟨p, hp, hsm⟩ := rdA_opens n (cs := cs) (fuel := k) (e := e) (m := m) (i0 := 0) h.2 (fun i hi => by
        have := hf i (by omega)
        exact ⟨xs[i]'(by omega), by rw [Nat.zero_add, this]; exact List.getElem?_eq_getElem (by omega), fun k hk => Hw k (by rw [hweq]; exact mem_weightsAll (List.mem_map_of_mem (List.getElem_mem (by omega))) hk)⟩) (by rw [Nat.zero_mul]; omega)
      rw [Nat.zero_mul, List.drop_zero, List.take_of_length_le (by omega)] at hp
      exact ⟨p, hp, hsm⟩
    · cases h
theorem rdF_opens : ∀ (n : Nat) {s : Sh} {fuel : Nat} {cs : List Value} {fs : List Field} {off : Nat}, rdFs P n off fs s = true →
    (∀ (i : Nat) f, fs[i]? = some f → ∃ x : DataW H × List MemPlace, DataW.trod enc P w base spare held fuel f.type ((cs.drop f.offset).take (P.cellsOf f.type)) = some x ∧ ∀ n, n ∈ x.1.weights P f.type → n ≤ B) → off + s.sz ≤ cs.length → ∃ p, Shaped w ((cs.drop off).take s.sz) s p ∧ s.small B p
  | 0, _, _, _, _, _, h, _, _ => by simp [rdFs] at h
  | n + 1, s, fuel, cs, fs, off, h, hx, hl => by
    unfold rdFs at h
    split at h
    · cases h
    · rename_i n' f q0
      simp only [Bool.and_eq_true] at h
      obtain ⟨x, hx0, hw0⟩ := hx 0 f rfl
      rw [eqN_true h.1.1, eqN_true h.1.2] at hx0
      cases q0
      exact rdT_opens n h.2 hx0 hw0
    · rename_i n' f r a b q0 q1
      simp only [Bool.and_eq_true] at h
      obtain ⟨x, hx0, hw0⟩ := hx 0 f rfl
      rw [eqN_true h.1.1.1, eqN_true h.1.1.2] at hx0
      cases q1
      simp only [Sh.sz] at hl
      obtain ⟨p, hp, hps⟩ := rdT_opens n h.1.2 hx0 hw0
      obtain ⟨q, hq, hqs⟩ := rdF_opens n (cs := cs) h.2 (fun i f' hi => hx (i + 1) f' (by simpa using hi)) (by omega)
      have := hp.pair hq
      rw [take_drop_split] at this
      exact ⟨(p, q), this, hps, hqs⟩
    · cases h
theorem rdA_opens : ∀ (n : Nat) {s : Sh} {fuel : Nat} {cs : List Value} {e : TypeId} {m i0 : Nat}, rdAs P n e m s = true →
    (∀ i, i < m → ∃ x : DataW H × List MemPlace, DataW.trod enc P w base spare held fuel e ((cs.drop ((i0 + i) * P.cellsOf e)).take (P.cellsOf e)) = some x ∧ ∀ n, n ∈ x.1.weights P e → n ≤ B) → i0 * P.cellsOf e + s.sz ≤ cs.length → ∃ p, Shaped w ((cs.drop (i0 * P.cellsOf e)).take s.sz) s p ∧ s.small B p
  | 0, _, _, _, _, _, _, h, _, _ => by simp [rdAs] at h
  | n + 1, s, fuel, cs, e, m, i0, h, hx, hl => by
    unfold rdAs at h
    split at h
    · cases h
    · rename_i q0
      cases q0
      simp only [Bool.and_eq_true] at h
      obtain ⟨x, hx0, hw0⟩ := hx 0 (by omega)
      have he := eqN_true h.1
      rw [he] at hx0 hl ⊢
      exact rdT_opens n h.2 hx0 hw0
    · rename_i m a b q0
      cases q0
      simp only [Bool.and_eq_true] at h
      obtain ⟨x, hx0, hw0⟩ := hx 0 (by omega)
      have he := eqN_true h.1.1
      simp only [Sh.sz] at hl
      rw [he] at hx0 hl
      obtain ⟨p, hp, hps⟩ := rdT_opens n h.1.2 hx0 hw0
      obtain ⟨q, hq, hqs⟩ := rdA_opens n (cs := cs) (i0 := i0 + 1) h.2 (fun i hi => by
        have := hx (i + 1) (by omega)
        rw [show i0 + 1 + i = i0 + (i + 1) by omega]
        exact this) (by rw [he, Nat.add_mul]; omega)
      have := hp.pair (by rw [he, Nat.add_mul, Nat.one_mul] at hq; exact hq)
      rw [Nat.add_zero, take_drop_split] at this
      rw [he]
      exact ⟨(p, q), this, hps, hqs⟩
    · cases h
end

/-- An argument, opened. -/
theorem open_vals {r : Reach} {b0 : Nat} {t : TypeId} {v : Value} {d : DataW H} {ps : List MemPlace} {n : Nat} {s : Sh} (hs : rdTs P n t s = true) (hval : Value.okWide P w r b0 t v) (h : DataW.Trod enc P w base spare held t v d ps) (Hw : ∀ n, n ∈ d.weights P t → n ≤ B) : ∃ p, RD w (fun _ => False) v (s.val p) ∧ s.small B p := by
  obtain ⟨fuel, hf⟩ := h
  obtain ⟨p, ⟨h1, h2⟩, hsm⟩ := rdT_opens n hs hf Hw
  refine ⟨p, ?_, hsm⟩
  have one : v.cells = #[v] → s.cells p = [s.val p] → RD w (fun _ => False) v (s.val p) := fun e1 e2 => by
    rw [e1] at h2
    exact (h2 0 v rfl).2 _ (by rw [e2]; rfl)
  cases n with
  | zero => simp [rdTs] at hs
  | succ n =>
    unfold rdTs at hs
    split at hs
    · rename_i k k' ht
      simp only [Value.okWide, ht, Cell.okWide, Cell.ok] at hval
      refine one ?_ rfl
      cases v <;> first | rfl | exact hval.elim
    · rename_i ht
      simp only [Value.okWide, ht, Cell.okWide, Cell.ok] at hval
      refine one ?_ rfl
      cases v <;> first | rfl | exact hval.elim
    · rename_i ht
      simp only [Value.okWide, ht, Cell.okWide, Cell.ok] at hval
      refine one ?_ rfl
      cases v <;> first | rfl | exact hval.elim
    · rename_i e s ht
      simp only [Value.okWide, ht, Cell.okWide, Cell.ok] at hval
      refine one ?_ rfl
      cases v <;> first | rfl | exact hval.elim
    · rename_i fs a r ht
      simp only [Value.okWide, ht] at hval
      obtain ⟨cs, rfl, _⟩ := hval
      exact .agg _ _ (by simpa [Sh.cells_len, Sh.sz, Value.cells] using h1) (fun c hc => by
        obtain ⟨i, hi⟩ := List.mem_iff_getElem?.1 (show c ∈ cs.toList by simpa using hc)
        exact (h2 i c hi).1) (fun i c x hi hx => (h2 i c (by simpa [Value.cells] using hi)).2 x (by exact hx))
    · rename_i m e a r ht
      simp only [Value.okWide, ht] at hval
      obtain ⟨cs, rfl, _⟩ := hval
      exact .agg _ _ (by simpa [Sh.cells_len, Sh.sz, Value.cells] using h1) (fun c hc => by
        obtain ⟨i, hi⟩ := List.mem_iff_getElem?.1 (show c ∈ cs.toList by simpa using hc)
        exact (h2 i c hi).1) (fun i c x hi hx => (h2 i c (by simpa [Value.cells] using hi)).2 x (by exact hx))
    · cases hs


end
end Go.Vg
