/- Inputs as data: shapes of types, and that what is read as data is of its type's shape. -/
import Derived.Test.YtnapnedfhimikaaDoorVgW
import Derived.Deep.Slices
import Derived.OpenShut
import Derived.ChangeSame
import Derived.Below
set_option maxRecDepth 4000
set_option linter.all false
set_option linter.unusedVariables false
set_option linter.unusedSimpArgs false
namespace Go.Vg
open Go Go.WideShapes Go.ChangeShapes Go.Deep Go.RowKit

inductive Sh
  | int (k : IntKind) | bool | str | sl (e : Sh) | pair (a r : Sh)
def Sh.T : Sh → Type
  | .int _ => Int
  | .bool => Bool
  | .str => List UInt8
  | .sl e => List e.T
  | .pair a r => a.T × r.T
def Sh.sz : Sh → Nat
  | .pair a r => a.sz + r.sz
  | _ => 1
mutual
def Sh.cells : (s : Sh) → s.T → List V
  | .int k, n => [.int k (.v n)]
  | .bool, b => [.bool (.v b)]
  | .str, l => [.str (.v l)]
  | .sl e, l => [.sl e.sz (Sh.val e) l]
  | .pair a r, p => Sh.cells a p.1 ++ Sh.cells r p.2
def Sh.val : (s : Sh) → s.T → V
  | .int k, n => .int k (.v n)
  | .bool, b => .bool (.v b)
  | .str, l => .str (.v l)
  | .sl e, l => .sl e.sz (Sh.val e) l
  | .pair a r, p => .agg (Sh.cells a p.1 ++ Sh.cells r p.2)
end
theorem Sh.cells_len : ∀ (s : Sh) (p : s.T), (s.cells p).length = s.sz
  | .int _, _ => rfl
  | .bool, _ => rfl
  | .str, _ => rfl
  | .sl _, _ => rfl
  | .pair a r, p => by simp [Sh.cells, Sh.sz, Sh.cells_len a, Sh.cells_len r]
theorem Sh.cells_val (s : Sh) (p : s.T) : Vg.cells (s.val p) = s.cells p := by
  cases s <;> simp [Sh.val, Sh.cells, Vg.cells]

mutual
/-- A type has this shape. -/
def rdT (P : Program) : Nat → TypeId → Sh → Bool
  | 0, _, _ => false
  | n + 1, t, s => match P.underlying t, s with
    | some (.int k), .int k' => decide (k = k')
    | some .bool, .bool => true
    | some .string, .str => true
    | some (.slice e), .sl s => (eqN (P.cellsOf e) s.sz) && (ltN 0 s.sz) && rdT P n e s
    | some (.struct fs), .pair a r => (eqN (P.cellsOf t) (Sh.pair a r).sz) && rdF P n 0 fs.toList (.pair a r)
    | some (.array m e), .pair a r => (eqN (P.cellsOf t) (Sh.pair a r).sz) && rdA P n e m (.pair a r)
    | _, _ => false
def rdF (P : Program) : Nat → Nat → List Field → Sh → Bool
  | 0, _, _, _ => false
  | n + 1, off, [f], s => (eqN f.offset off) && (eqN (P.cellsOf f.type) s.sz) && rdT P n f.type s
  | n + 1, off, f :: r, .pair a b => (eqN f.offset off) && (eqN (P.cellsOf f.type) a.sz) && rdT P n f.type a && rdF P n (off + a.sz) r b
  | _, _, _, _ => false
def rdA (P : Program) : Nat → TypeId → Nat → Sh → Bool
  | 0, _, _, _ => false
  | n + 1, e, 1, s => (eqN (P.cellsOf e) s.sz) && rdT P n e s
  | n + 1, e, m + 2, .pair a b => (eqN (P.cellsOf e) a.sz) && rdT P n e a && rdA P n e (m + 1) b
  | _, _, _, _ => false
end

section
variable {H : Type} {enc : TypeId × Value → H} {P : Program} {w : World} {base : Nat} {spare : Nat → Bool} {held : Bool}

/-- Cells that are data of a shape. -/
def Shaped (w : World) (cs : List Value) (s : Sh) (p : s.T) : Prop :=
  cs.length = s.sz ∧ ∀ (i : Nat) (c : Value), cs[i]? = some c → c.oneCell' = true ∧ ∀ x, (s.cells p)[i]? = some x → RD w (fun _ => False) c x

theorem Shaped.pair {cs ds : List Value} {a r : Sh} {p : a.T} {q : r.T} (h : Shaped w cs a p) (k : Shaped w ds r q) : Shaped w (cs ++ ds) (.pair a r) (p, q) := by
  refine ⟨by simp [Sh.sz, h.1, k.1], fun i c hi => ?_⟩
  simp only [Sh.cells]
  rw [List.getElem?_append] at hi
  have hlen := Sh.cells_len a p
  by_cases hlt : i < cs.length
  · rw [if_pos hlt] at hi
    obtain ⟨h1, h2⟩ := h.2 i c hi
    exact ⟨h1, fun x hx => h2 x (by rw [List.getElem?_append_left (by rw [hlen, ← h.1]; exact hlt)] at hx; exact hx)⟩
  · rw [if_neg hlt] at hi
    obtain ⟨h1, h2⟩ := k.2 _ c hi
    exact ⟨h1, fun x hx => h2 x (by rw [List.getElem?_append_right (by rw [hlen, ← h.1]; omega), hlen, ← h.1] at hx; exact hx)⟩

theorem take_drop_split (cs : List Value) (off a b : Nat) : (cs.drop off).take a ++ (cs.drop (off + a)).take b = (cs.drop off).take (a + b) := by
  rw [List.take_add, List.drop_drop]

mutual
theorem rdT_open : ∀ (n : Nat) {t : TypeId} {s : Sh} {fuel : Nat} {cs : List Value} {x : DataW H × List MemPlace}, rdT P n t s = true → DataW.trod enc P w base spare held fuel t cs = some x → ∃ p, Shaped w cs s p
  | 0, _, _, _, _, _, h, _ => by simp [rdT] at h
  | n + 1, t, s, fuel, cs, x, h, hx => by
    unfold rdT at h
    split at h
    · rename_i k k' ht
      simp only [decide_eq_true_eq] at h
      subst h
      obtain ⟨m, rfl, rfl, hw⟩ := DataW.trod_int ht hx
      refine ⟨m, rfl, fun i c hi => ?_⟩
      cases i with
      | zero =>
        simp at hi; subst hi
        refine ⟨rfl, fun x hx => ?_⟩
        simp [Sh.cells] at hx
        subst hx
        simp only [Lit.wf, Bool.and_eq_true, decide_eq_true_eq] at hw
        exact .int k _ m rfl hw
      | succ i => simp at hi
    · rename_i ht
      obtain ⟨b, rfl, rfl⟩ := DataW.trod_bool ht hx
      refine ⟨b, rfl, fun i c hi => ?_⟩
      cases i with
      | zero =>
        simp at hi; subst hi
        refine ⟨rfl, fun x hx => ?_⟩
        simp [Sh.cells] at hx
        subst hx
        exact .bool _ b rfl
      | succ i => simp at hi
    · rename_i ht
      obtain ⟨b, rfl, rfl, hl⟩ := DataW.trod_string ht hx
      refine ⟨b.data.toList, rfl, fun i c hi => ?_⟩
      cases i with
      | zero =>
        simp at hi; subst hi
        refine ⟨rfl, fun x hx => ?_⟩
        simp [Sh.cells] at hx
        subst hx
        refine .str _ b rfl ?_
        simp only [SE.den]
        have : b.data.toList.length = b.size := rfl
        rw [this]; unfold LIM; unfold maxLen at hl; omega
      | succ i => simp at hi
    · rename_i e s ht
      simp only [Bool.and_eq_true] at h
      have hce := eqN_true h.1.1
      have hpos : 0 < s.sz := by simpa using h.1.2
      rcases open_slice ht hx with ⟨rfl, rfl⟩ | ⟨a, len, cap, m, nn, D, Pl, rfl, hb, hl, hm, hmm, rfl, hall⟩
      · refine ⟨([] : List s.T), rfl, fun i c hi => ?_⟩
        cases i with
        | zero =>
          simp at hi; subst hi
          refine ⟨rfl, fun x hx => ?_⟩
          simp [Sh.cells] at hx
          subst hx
          exact .nilsl _ s.sz (by simp [V.elems])
        | succ i => simp at hi
      · have hlm : len ≤ m := by rw [hmm]; split <;> omega
        have hex : ∀ i, i < len → ∃ p : s.T, ∀ j (c : Value), w.cell? ((a.add (i * s.sz)).add j) = some c → j < s.sz → c.oneCell' = true ∧ ∀ x, (s.cells p)[j]? = some x → RD w (fun _ => False) c x := fun i hi => by
          obtain ⟨cs', h1, h2⟩ := hall i (by omega)
          obtain ⟨p, hp⟩ := rdT_open n h.2 h2
          rw [hce] at h1
          obtain ⟨_, _, h3⟩ := World.cells?_some h1
          exact ⟨p, fun j c hc hj => hp.2 j c (by rw [← h3 j hj]; exact hc)⟩
        have hcell : ∀ i j, i < len → j < s.sz → ∃ c, w.cell? ((a.add (i * s.sz)).add j) = some c := fun i j hi hj => by
          obtain ⟨cs', h1, h2⟩ := hall i (by omega)
          rw [hce] at h1
          obtain ⟨_, h4, h3⟩ := World.cells?_some h1
          rw [h3 j hj]
          exact ⟨cs'[j], List.getElem?_eq_getElem (by omega)⟩
        by_cases h0 : len = 0
        · subst h0
          refine ⟨([] : List s.T), rfl, fun i c hi => ?_⟩
          cases i with
          | zero =>
            simp at hi; subst hi
            refine ⟨rfl, fun x hx => ?_⟩
            simp [Sh.cells] at hx
            subst hx
            exact .slice _ s.sz [] (by simp [V.elems]) (by simp) a cap (by simp) (by simp) (by simp) (by simp) (by simp) (by simp) (fun _ _ => undef) (by simp) (by simp) (by simp)
          | succ i => simp at hi
        · have hspot : a.spot = none := by
            obtain ⟨c, hc⟩ := hcell 0 0 (by omega) hpos
            rw [Nat.zero_mul, show (a.add 0).add 0 = a from rfl] at hc
            unfold World.cell? at hc
            split at hc
            · split at hc
              · cases hc
              · rename_i hs; simpa using hs
            · cases hc
          obtain ⟨b, off, spot⟩ := a
          simp only at hspot; subst hspot
          have hblt : b < w.heap.size := by
            obtain ⟨c, hc⟩ := hcell 0 0 (by omega) hpos
            simp only [Addr.add_at, World.cell?] at hc
            rcases Nat.lt_or_ge b w.heap.size with h | h
            · exact h
            · simp [h] at hc
          obtain ⟨c0, hc0⟩ := hcell 0 0 (by omega) hpos
          let f : Nat → s.T := fun i => if hi : i < len then Classical.choose (hex i hi) else Classical.choose (hex 0 (by omega))
          have hf : ∀ i, i < len → ∀ j (c : Value), w.cell? ⟨b, off + i * s.sz + j, none⟩ = some c → j < s.sz → c.oneCell' = true ∧ ∀ x, (s.cells (f i))[j]? = some x → RD w (fun _ => False) c x := fun i hi j c hc hj => by
            have := Classical.choose_spec (hex i hi) j c (by rw [Addr.add_at, Addr.add_at]; exact hc) hj
            simp only [f, hi, dif_pos]
            exact this
          refine ⟨(List.range len).map f, rfl, fun i c hi => ?_⟩
          cases i with
          | zero =>
            simp at hi; subst hi
            refine ⟨rfl, fun x hx => ?_⟩
            simp [Sh.cells] at hx
            subst hx
            have hlen : len = (((List.range len).map f).map s.val).length := by simp
            have hget : ∀ (i : Nat) (e : V), (((List.range len).map f).map s.val)[i]? = some e → i < len ∧ e = s.val (f i) := fun i e he => by
              have hi : i < len := by
                have := (List.getElem?_eq_some_iff.1 he).1
                simpa using this
              refine ⟨hi, ?_⟩
              simp [hi] at he
              exact he.symm
            have hsz : ∀ i (y : V) j, (Vg.cells (s.val (f i)))[j]? = some y → j < s.sz ∧ (s.cells (f i))[j]? = some y := fun i y j hj => by
              rw [Sh.cells_val] at hj
              have := (List.getElem?_eq_some_iff.1 hj).1
              rw [Sh.cells_len] at this
              exact ⟨this, hj⟩
            have hcv : ∀ i j, i < len → j < s.sz → w.cell? ⟨b, off + i * s.sz + j, none⟩ = some ((w.cell? ⟨b, off + i * s.sz + j, none⟩).getD undef) := fun i j hi hj => by
              obtain ⟨c, hc⟩ := hcell i j hi hj
              rw [Addr.add_at, Addr.add_at] at hc
              rw [hc]; rfl
            have key : RD w (fun _ => False) (.slice (some ⟨b, off, none⟩) (((List.range len).map f).map s.val).length cap) (.sl s.sz s.val ((List.range len).map f)) := by
              refine .slice _ s.sz _ (by simp [V.elems]) (by simp) ⟨b, off, none⟩ cap (by rw [← hlen]; exact hl) (by rw [← hlen]; unfold LIM; unfold maxLen at hm; omega) (fun _ => rfl) (fun _ h => h) (fun _ => hblt) (fun i e he => ?_)
                (fun i j => (w.cell? ⟨b, off + i * s.sz + j, none⟩).getD undef) (fun i e he j y hj => ?_) (fun i e he j y hj => ?_) (fun i e he j y hj => ?_)
              · obtain ⟨_, rfl⟩ := hget i e he
                rw [Sh.cells_val, Sh.cells_len]
              · obtain ⟨hi, rfl⟩ := hget i e he
                obtain ⟨hjs, _⟩ := hsz i y j hj
                exact (hf i hi j _ (hcv i j hi hjs) hjs).1
              · obtain ⟨hi, rfl⟩ := hget i e he
                obtain ⟨hjs, _⟩ := hsz i y j hj
                exact hcv i j hi hjs
              · obtain ⟨hi, rfl⟩ := hget i e he
                obtain ⟨hjs, hjx⟩ := hsz i y j hj
                exact (hf i hi j _ (hcv i j hi hjs) hjs).2 y hjx
            rw [← hlen] at key
            exact key
          | succ i => simp at hi
    · rename_i fs a r ht
      generalize Sh.pair a r = s at h
      simp only [Bool.and_eq_true] at h
      obtain ⟨xs, m, _, rfl, hl, hlen, hf⟩ := DataW.trod_struct ht hx
      have hsz := eqN_true h.1
      obtain ⟨p, hp⟩ := rdF_open n (cs := cs) (fuel := m) (fs := fs.toList) (off := 0) h.2 (fun i f hi => by
        have hi' : fs[i]? = some f := by simpa using hi
        have := hf i f hi'
        have hlt : i < xs.length := by rw [hlen]; exact (Array.getElem?_eq_some_iff.1 hi').1
        exact ⟨xs[i], by rw [this]; exact List.getElem?_eq_getElem hlt⟩) (by omega)
      rw [List.drop_zero, List.take_of_length_le (by omega)] at hp
      exact ⟨p, hp⟩
    · rename_i m e a r ht
      generalize Sh.pair a r = s at h
      simp only [Bool.and_eq_true] at h
      obtain ⟨xs, k, _, rfl, hl, hlen, hf⟩ := DataW.trod_array ht hx
      have hsz := eqN_true h.1
      obtain ⟨p, hp⟩ := rdA_open n (cs := cs) (fuel := k) (e := e) (m := m) (i0 := 0) h.2 (fun i hi => by
        have := hf i (by omega)
        exact ⟨xs[i]'(by omega), by rw [Nat.zero_add, this]; exact List.getElem?_eq_getElem (by omega)⟩) (by rw [Nat.zero_mul]; omega)
      rw [Nat.zero_mul, List.drop_zero, List.take_of_length_le (by omega)] at hp
      exact ⟨p, hp⟩
    · cases h
theorem rdF_open : ∀ (n : Nat) {s : Sh} {fuel : Nat} {cs : List Value} {fs : List Field} {off : Nat}, rdF P n off fs s = true →
    (∀ (i : Nat) f, fs[i]? = some f → ∃ x : DataW H × List MemPlace, DataW.trod enc P w base spare held fuel f.type ((cs.drop f.offset).take (P.cellsOf f.type)) = some x) → off + s.sz ≤ cs.length → ∃ p, Shaped w ((cs.drop off).take s.sz) s p
  | 0, _, _, _, _, _, h, _, _ => by simp [rdF] at h
  | n + 1, s, fuel, cs, fs, off, h, hx, hl => by
    unfold rdF at h
    split at h
    · cases h
    · rename_i n' f q0
      simp only [Bool.and_eq_true] at h
      obtain ⟨x, hx0⟩ := hx 0 f rfl
      rw [eqN_true h.1.1, eqN_true h.1.2] at hx0
      cases q0
      exact rdT_open n h.2 hx0
    · rename_i n' f r a b q0 q1
      simp only [Bool.and_eq_true] at h
      obtain ⟨x, hx0⟩ := hx 0 f rfl
      rw [eqN_true h.1.1.1, eqN_true h.1.1.2] at hx0
      cases q1
      simp only [Sh.sz] at hl
      obtain ⟨p, hp⟩ := rdT_open n h.1.2 hx0
      obtain ⟨q, hq⟩ := rdF_open n (cs := cs) h.2 (fun i f' hi => hx (i + 1) f' (by simpa using hi)) (by omega)
      have := hp.pair hq
      rw [take_drop_split] at this
      exact ⟨(p, q), this⟩
    · cases h
theorem rdA_open : ∀ (n : Nat) {s : Sh} {fuel : Nat} {cs : List Value} {e : TypeId} {m i0 : Nat}, rdA P n e m s = true →
    (∀ i, i < m → ∃ x : DataW H × List MemPlace, DataW.trod enc P w base spare held fuel e ((cs.drop ((i0 + i) * P.cellsOf e)).take (P.cellsOf e)) = some x) → i0 * P.cellsOf e + s.sz ≤ cs.length → ∃ p, Shaped w ((cs.drop (i0 * P.cellsOf e)).take s.sz) s p
  | 0, _, _, _, _, _, _, h, _, _ => by simp [rdA] at h
  | n + 1, s, fuel, cs, e, m, i0, h, hx, hl => by
    unfold rdA at h
    split at h
    · cases h
    · rename_i q0
      cases q0
      simp only [Bool.and_eq_true] at h
      obtain ⟨x, hx0⟩ := hx 0 (by omega)
      have he := eqN_true h.1
      rw [he] at hx0 hl ⊢
      exact rdT_open n h.2 hx0
    · rename_i m a b q0
      cases q0
      simp only [Bool.and_eq_true] at h
      obtain ⟨x, hx0⟩ := hx 0 (by omega)
      have he := eqN_true h.1.1
      simp only [Sh.sz] at hl
      rw [he] at hx0 hl
      obtain ⟨p, hp⟩ := rdT_open n h.1.2 hx0
      obtain ⟨q, hq⟩ := rdA_open n (cs := cs) (i0 := i0 + 1) h.2 (fun i hi => by
        have := hx (i + 1) (by omega)
        rw [show i0 + 1 + i = i0 + (i + 1) by omega]
        exact this) (by rw [he, Nat.add_mul]; omega)
      have := hp.pair (by rw [he, Nat.add_mul, Nat.one_mul] at hq; exact hq)
      rw [Nat.add_zero, take_drop_split] at this
      rw [he]
      exact ⟨(p, q), this⟩
    · cases h
end

/-- An argument, opened. -/
theorem open_val {r : Reach} {b0 : Nat} {t : TypeId} {v : Value} {d : DataW H} {ps : List MemPlace} {n : Nat} {s : Sh} (hs : rdT P n t s = true) (hval : Value.okWide P w r b0 t v) (h : DataW.Trod enc P w base spare held t v d ps) : ∃ p, RD w (fun _ => False) v (s.val p) := by
  obtain ⟨fuel, hf⟩ := h
  obtain ⟨p, h1, h2⟩ := rdT_open n hs hf
  refine ⟨p, ?_⟩
  have one : v.cells = #[v] → s.cells p = [s.val p] → RD w (fun _ => False) v (s.val p) := fun e1 e2 => by
    rw [e1] at h2
    exact (h2 0 v rfl).2 _ (by rw [e2]; rfl)
  cases n with
  | zero => simp [rdT] at hs
  | succ n =>
    unfold rdT at hs
    split at hs
    · rename_i k k' ht
      simp only [Value.okWide, ht, Cell.okWide, Cell.ok] at hval
      refine one ?_ rfl
      cases v <;> first | rfl | exact hval.elim
    · rename_i ht
      simp only [Value.okWide, ht, Cell.okWide, Cell.ok] at hval
      refine one ?_ rfl
      cases v <;> first | rfl | exact hval.elim
    · rename_i ht
      simp only [Value.okWide, ht, Cell.okWide, Cell.ok] at hval
      refine one ?_ rfl
      cases v <;> first | rfl | exact hval.elim
    · rename_i e s ht
      simp only [Value.okWide, ht, Cell.okWide, Cell.ok] at hval
      refine one ?_ rfl
      cases v <;> first | rfl | exact hval.elim
    · rename_i fs a r ht
      simp only [Value.okWide, ht] at hval
      obtain ⟨cs, rfl, _⟩ := hval
      exact .agg _ _ (by simpa [Sh.cells_len, Sh.sz, Value.cells] using h1) (fun c hc => by
        obtain ⟨i, hi⟩ := List.mem_iff_getElem?.1 (show c ∈ cs.toList by simpa using hc)
        exact (h2 i c hi).1) (fun i c x hi hx => (h2 i c (by simpa [Value.cells] using hi)).2 x (by exact hx))
    · rename_i m e a r ht
      simp only [Value.okWide, ht] at hval
      obtain ⟨cs, rfl, _⟩ := hval
      exact .agg _ _ (by simpa [Sh.cells_len, Sh.sz, Value.cells] using h1) (fun c hc => by
        obtain ⟨i, hi⟩ := List.mem_iff_getElem?.1 (show c ∈ cs.toList by simpa using hc)
        exact (h2 i c hi).1) (fun i c x hi hx => (h2 i c (by simpa [Value.cells] using hi)).2 x (by exact hx))
    · cases hs

/-- A function that answers so, called with data of the caller's. -/
theorem AVal.calls {G : Glb} {f : FuncId} {xs : List V} {r : V} (h : AVal P G f xs r) (hd : isData r = true) {W : World} (hG : GlbOk G W (fun _ => False)) {vs : Array Value} (hl : vs.size = xs.length) (hx : ∀ (i : Nat) (v : Value) (x : V), vs[i]? = some v → xs[i]? = some x → RD W (fun _ => False) v x) :
    Calls P f vs W (fun e W' => ∃ v F', e = .returned v ∧ Below W.heap.size W W' ∧ RD W' F' v r ∧ ∀ b, b < W.heap.size → ¬ F' b) := by
  refine (h.2 W (fun _ => False) (fun _ => none) vs hl (fun i v x h1 h2 => .d _ _ (hx i v x h1 h2)) ⟨fun _ _ h => by simp [olook] at h, fun _ _ _ _ _ h => by simp [olook] at h⟩ hG (fun _ h => h.elim) (fun _ _ => rfl)).mono ?_
  rintro e w' ⟨v, r', o', F', β', rfl, rfl, g1, g2, g3, g4, g5, g6, g7, g8, _⟩
  exact ⟨v, F', rfl, ⟨g7.os, g7.tape, g7.output.out, g7.size, fun b hb => g7.block b hb (by rintro ⟨id, ent, h, _⟩; simp [olook] at h)⟩, g4.data hd, fun b hb h => g2 b hb h⟩

end
end Go.Vg
