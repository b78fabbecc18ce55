/- Own lists are cleared. -/
import Derived.Test.YtnapnedfhimikaaDoorVgPd
set_option maxRecDepth 4000
set_option linter.all false
set_option linter.unusedVariables false
set_option linter.unusedSimpArgs false
namespace Go.Vg
open Go
section
variable {P : Program} {c : Ctx} {z : From} {F : Nat → Prop} {β : Bt} {s : St} {tm : Array Value} {w : World} {a : Act} {op : Oper} {K : Out → Prop}
theorem step_clear (ha : a.tmps = tm) (hr : Rl P c z F β s tm w) {im : List (Nat × Bool)} (him : ∀ t b, (t, b) ∈ im → tm.getD t undef = .bool b) {t el : TypeId} {x : Operand} {ti : TI} {q1 q2 : Nat} {q3 : List V}
    (hop : op.op = .call ⟨.builtin .clear, ⟨[x]⟩, ⟨[t]⟩⟩) (ht : tlook c.T t = some ⟨.slice el, q1, q2, q3⟩) (hel : tlook c.T el = some ti) (hpos : 0 < ti.sz)
    (hk : ClearP ti.sz ti.zero (res s.e im (evalO c s.e x)) s.o (fun _ => K ⟨.tup [], [], []⟩) (fun id fx e _ f l => K ⟨.tup [], [], [(id, false, .arr fx e ti.sz f l)]⟩)) : StepTo P c z s tm w a op K := by
  have hx := res_ra ha hr.toRel him x
  have hu := slice_ty hr.tab ht
  have htup : ∀ {w : World} {F : Nat → Prop} {β : Bt} {o : Own}, RA w F β o (.tuple #[]) (.tup []) := .d _ _ (.tup #[] [] rfl (fun i c x h => by simp at h))
  obtain ⟨info, zv, zc1, zc2, zc3, zc4⟩ := zero_ra hr hel
  cases hk with
  | none sz' h hk =>
    obtain ⟨ad, cc, e1, _⟩ := vel_cells hr.own hx h
    refine StepTo.of_run (val := .tuple #[]) (w' := w) ?_ hk hr htup
    have hrun : (Builtin.clear_ #[t] op.type #[.slice ad ([] : List V).length cc]).run P w = .ok (.tuple #[]) w := by
      cases ad <;> simp [Builtin.clear_, run_underlying hu]
    simp only [execOp, hop, resolve, invoke, builtin, Sem.run_bind, Sem.run_pure, Result.andThen_ok, List.map_toArray, List.map_cons, List.map_nil, e1, hrun]
  | some f l id fx e i m zz ho hd hmpos hz hk =>
    have hk := hk _ rfl
    -- where it goes
    have hdst : ∃ b cur dc, β id = some b ∧ a.eval x = .slice (some ⟨b, i * ti.sz, none⟩) m dc ∧ i + m ≤ l.length ∧ w.heap[b]? = some (.cells cur e (0, 0)) := by
      rcases hd with ⟨hd, rfl, rfl⟩ | ⟨lo', n', hd, hlo, hn⟩
      · rw [hd] at hx
        obtain ⟨fx1, e1', sz1, α1, f1, l1, g1, g2⟩ := RA.of_osl hx
        rw [ho] at g1
        simp only [Option.some.injEq, Ent.arr.injEq] at g1
        obtain ⟨rfl, rfl, rfl, rfl, hf, hl⟩ := g1
        have hl := eq_of_heq hl
        subst hl
        rcases g2 with ⟨rfl, _⟩ | ⟨b, c', cur, k1, k2, k3, k4, k5, k6, k7⟩
        · simp at hmpos
        · exact ⟨b, cur, c', k1, by rw [k2, Nat.zero_mul], by omega, k6⟩
      · rw [hd] at hx
        obtain ⟨fx1, e1', sz1, α1, f1, l1, i', m', g1, hlo', hn', him', g2⟩ := RA.of_view hx
        rw [ho] at g1
        simp only [Option.some.injEq, Ent.arr.injEq] at g1
        obtain ⟨rfl, rfl, rfl, rfl, hf, hl⟩ := g1
        have hl := eq_of_heq hl
        subst hl
        have hi' : i' = i := by omega
        have hm' : m' = m := by omega
        subst hi'; subst hm'
        rcases g2 with ⟨h0, _⟩ | ⟨b, c', cur, _, k1, k2, k3, k4, k5, k6, k7⟩
        · omega
        · exact ⟨b, cur, _, k1, k2, him', k6⟩
    obtain ⟨b, cur, dc, hb, e4, him', hcur⟩ := hdst
    rcases hr.own.ent id _ ho with ⟨k1, _⟩ | ⟨b', cur', m1, m2, m3, m4, m5, m6⟩
    · rw [k1] at hb; cases hb
    rw [hb] at m1; cases m1
    rw [hcur] at m3; cases m3
    obtain ⟨q, hqq⟩ : ∃ q, q = m := ⟨_, rfl⟩
    subst hqq
    obtain ⟨info', zv', desc, t1, t2, t3, t4, t5, t6, t7, t8, t9, t10⟩ := hr.tab.ok el ti hel
    have hzs : ti.zero.length = ti.sz := by rw [← t7]; simpa using t8
    generalize hcs : (Builtin.zeroCells zv'.cells q).toList = cs
    have hcl : cs.length = q * ti.sz := by rw [← hcs]; simp [size_zeroCells, t8]
    have hcone : ∀ u, u ∈ cs → u.oneCell' = true := fun u hu => zeroCells_one t9 q u (by rw [← hcs] at hu; simpa using hu)
    have hcget : ∀ (j k : Nat), j < q → k < ti.sz → cs[j * ti.sz + k]? = zv'.cells[k]? := fun j k hj hk => by
      have hlt : j * ti.sz + k < q * ti.sz := by
        have : (j + 1) * ti.sz ≤ q * ti.sz := Nat.mul_le_mul_right _ hj
        rw [Nat.add_mul, Nat.one_mul] at this
        omega
      have hmod : (j * ti.sz + k) % ti.sz = k := by rw [Nat.add_comm, Nat.add_mul_mod_self_right]; exact Nat.mod_eq_of_lt hk
      have hkk : k < zv'.cells.size := by rw [t8]; exact hk
      rw [← hcs]
      simp only [Builtin.zeroCells, t8, Array.getElem?_toList, Array.getElem?_map, Array.getElem?_range, if_pos hlt, Option.map_some, hmod]
      rw [getElem!_pos zv'.cells k hkk, Array.getElem?_eq_getElem hkk]
    have hle : (i + q) * ti.sz ≤ cur.size := Nat.le_trans (Nat.mul_le_mul_right _ (by omega)) m4
    rw [Nat.add_mul] at hle
    have hst := run_storeCells_at P b (i * ti.sz) e cs 0 cur w hcur (by omega) hcone
    simp only [Nat.add_zero] at hst
    have hrun : (Builtin.clear_ #[t] op.type #[.slice (some ⟨b, i * ti.sz, none⟩) q dc]).run P w = .ok (.tuple #[]) (w.setRow b (cur.toList.take (i * ti.sz) ++ cs ++ cur.toList.drop (i * ti.sz + cs.length)).toArray) := by
      obtain ⟨q', rfl⟩ : ∃ q', q = q' + 1 := ⟨q - 1, by omega⟩
      have hzv : (zeroValue el).run P w = .ok zv' w := by simp [zeroValue, typeInfo, t1, t6]
      rw [← hcs] at hst ⊢
      simp [Builtin.clear_, run_underlying hu, hzv, hst]
    have hlen : i * ti.sz + cs.length ≤ cur.toList.length := by rw [hcl]; simpa using hle
    have hlenl : (l.take i ++ (List.replicate q zz ++ l.drop (i + q))).length = l.length := by simp; omega
    refine StepTo.of_run (val := .tuple #[]) (w' := w.setRow b (cur.toList.take (i * ti.sz) ++ cs ++ cur.toList.drop (i * ti.sz + cs.length)).toArray) ?_ hk
      (hr.write (w' := w.setRow b _) ho hb (fun b' _ hne => setRow_other w b b' _ hne) rfl rfl ⟨rfl, Nat.le_refl _⟩ (by simp)
        (.inr ⟨_, _, _, _, _, _, _, _, _, rfl, rfl, hlenl, fun cur' hc => ⟨_, setRow_heap w b cur _ e (0, 0) hcur, by rw [hcur] at hc; cases hc; rw [List.size_toArray, seg_size _ _ _ hlen]; simp⟩⟩) (fun _ hd' => ?_))
      htup
    · simp only [execOp, hop, resolve, invoke, builtin, Sem.run_bind, Sem.run_pure, Result.andThen_ok, List.map_toArray, List.map_cons, List.map_nil, e4, hrun]
    · refine .inr ⟨b, _, hb, m2, setRow_heap w b cur _ e (0, 0) hcur, ?_, seg_one m5 hcone, fun j p hp => ?_⟩
      · rw [hlenl, List.size_toArray, seg_size _ _ _ hlen]; simpa using m4
      · have hcase : (j < i ∧ l[j]? = some p) ∨ (i ≤ j ∧ j < i + q ∧ p = zz) ∨ (i + q ≤ j ∧ l[j]? = some p) := by
          rw [List.getElem?_append] at hp
          have h1 : (l.take i).length = i := by simp; omega
          rw [h1] at hp
          split at hp
          · rename_i hj
            rw [List.getElem?_take, if_pos hj] at hp
            exact .inl ⟨hj, hp⟩
          · rename_i hj
            rw [List.getElem?_append] at hp
            have h2 : (List.replicate q zz).length = q := by simp
            rw [h2] at hp
            split at hp
            · rename_i hj2
              rw [List.getElem?_replicate, if_pos hj2] at hp
              exact .inr (.inl ⟨by omega, by omega, (Option.some.inj hp).symm⟩)
            · rename_i hj2
              rw [List.getElem?_drop, show i + q + (j - i - q) = j by omega] at hp
              exact .inr (.inr ⟨by omega, hp⟩)
        have keep : ∀ p, (j < i ∨ i + q ≤ j) → l[j]? = some p → (cells (f p)).length = ti.sz ∧ ∀ (k : Nat) (y : V), (cells (f p))[k]? = some y → ∃ cv, (cur.toList.take (i * ti.sz) ++ cs ++ cur.toList.drop (i * ti.sz + cs.length)).toArray[j * ti.sz + k]? = some cv ∧ RD (w.setRow b (cur.toList.take (i * ti.sz) ++ cs ++ cur.toList.drop (i * ti.sz + cs.length)).toArray) F cv y := fun p hj hp => by
          obtain ⟨r1, r2⟩ := m6 j p hp
          refine ⟨r1, fun k yy hk' => ?_⟩
          obtain ⟨cv, s1, s2⟩ := r2 k yy hk'
          have hks : k < ti.sz := by rw [← r1]; exact (List.getElem?_eq_some_iff.1 hk').1
          refine ⟨cv, ?_, hd' _ _ s2⟩
          rw [List.getElem?_toArray, seg_get _ _ _ _ hlen, hcl]
          rcases hj with hj | hj
          · have : (j + 1) * ti.sz ≤ i * ti.sz := Nat.mul_le_mul_right _ hj
            rw [Nat.add_mul, Nat.one_mul] at this
            rw [if_pos (by omega)]; simpa using s1
          · have : (i + q) * ti.sz ≤ j * ti.sz := Nat.mul_le_mul_right _ hj
            rw [Nat.add_mul] at this
            rw [if_neg (by omega), if_neg (by omega)]; simpa using s1
        rcases hcase with ⟨hj, hp⟩ | ⟨hj1, hj2, hp⟩ | ⟨hj, hp⟩
        · exact keep p (.inl hj) hp
        · rw [hp]
          have hzl : (cells (f zz)).length = ti.sz := by rw [← hz.1]; exact hzs
          refine ⟨hzl, fun k yy hk' => ?_⟩
          have hks : k < ti.sz := by rw [← hzl]; exact (List.getElem?_eq_some_iff.1 hk').1
          have h1 : i * ti.sz ≤ j * ti.sz := Nat.mul_le_mul_right _ hj1
          have h2 : (j - i) * ti.sz = j * ti.sz - i * ti.sz := Nat.sub_mul _ _ _
          have h3 : (j - i + 1) * ti.sz ≤ q * ti.sz := Nat.mul_le_mul_right _ (by omega)
          rw [Nat.add_mul, Nat.one_mul] at h3
          have hkk : k < zv'.cells.size := by rw [t8]; exact hks
          refine ⟨zv'.cells[k], ?_, ?_⟩
          · rw [List.getElem?_toArray, seg_get _ _ _ _ hlen, hcl, if_neg (by omega), if_pos (by omega), show j * ti.sz + k - i * ti.sz = (j - i) * ti.sz + k by omega, hcget _ _ (by omega) hks, Array.getElem?_eq_getElem hkk]
          · obtain ⟨x0, hx0, hce⟩ := hz.get hk'
            refine hd' _ _ (hce _ _ _ ?_)
            rw [← t7, List.getElem?_map, Option.map_eq_some_iff] at hx0
            obtain ⟨v0, hv0, rfl⟩ := hx0
            have : v0 = zv'.cells[k] := by
              have : zv'.cells[k]? = some v0 := by simpa using hv0
              rw [Array.getElem?_eq_getElem hkk] at this
              exact (Option.some.inj this).symm
            subst this
            exact constV_rd _ _ _
        · exact keep p (.inr hj) hp

end
end Go.Vg
