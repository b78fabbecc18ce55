/- The own layer, part A9: soundness of the conditions of code. -/
import Derived.Test.YtpdklmagncfhaaaDoorA8
import Derived.Test.YtpdklmagncfhaaaDoorA7
import Derived.Lib.LaidTab
import Derived.Lib.LaidU8
import Derived.MakeChecks
set_option maxRecDepth 4000
set_option linter.all false
set_option linter.unusedVariables false
set_option linter.unusedSimpArgs false
/- Package-level variables that are laid: what they hold, as the layer has it. -/
namespace Go.Vg
open Go Go.Lib

theorem flat_get {α : Type} {m : Nat} : ∀ (zss : List (List α)), (∀ zs, zs ∈ zss → zs.length = m) → ∀ i j, j < m → zss.flatten[i * m + j]? = (zss[i]?).bind fun zs => zs[j]?
  | [], _, i, j, _ => by simp
  | zs :: r, h, 0, j, hj => by
    have := h zs (List.mem_cons_self ..)
    simp only [List.flatten_cons, Nat.zero_mul, Nat.zero_add, List.getElem?_cons_zero, Option.bind_some]
    rw [List.getElem?_append_left (by omega)]
  | zs :: r, h, i + 1, j, hj => by
    have := h zs (List.mem_cons_self ..)
    simp only [List.flatten_cons, List.getElem?_cons_succ]
    rw [List.getElem?_append_right (by rw [Nat.succ_mul]; omega), ← flat_get r (fun z hz => h z (List.mem_cons_of_mem _ hz)) i j hj]
    congr 1
    rw [Nat.succ_mul]; omega
theorem flat_len {α : Type} {m : Nat} : ∀ (zss : List (List α)), (∀ zs, zs ∈ zss → zs.length = m) → zss.flatten.length = zss.length * m
  | [], _ => by simp
  | zs :: r, h => by
    rw [List.flatten_cons, List.length_append, h zs (List.mem_cons_self ..), flat_len r fun z hz => h z (List.mem_cons_of_mem _ hz), List.length_cons, Nat.succ_mul]; omega
/-- An array of arrays of integers, by its data. -/
theorem cells_of_tab2 {H : Type} {enc : TypeId × Value → H} {P : Program} {w : World} {base : Nat} {sp : Nat → Bool} {held : Bool} {fuel : Nat} {t e u : TypeId} {n m : Nat} {k : IntKind} {cs : List Value} {zss : List (List Int)} {p : List MemPlace}
    (ht : P.underlying t = some (.array n e)) (he : P.underlying e = some (.array m u)) (hu : P.underlying u = some (.int k)) (hcu : P.cellsOf u = 1) (hce : P.cellsOf e = m) (hct : P.cellsOf t = n * m) (hz : ∀ zs, zs ∈ zss → zs.length = m)
    (h : DataW.trod enc P w base sp held fuel t cs = some (.agg (zss.map fun zs => tabData k zs), p)) : cs = zss.flatten.map fun z => Value.int k z := by
  cases fuel with
  | zero => simp [DataW.trod] at h
  | succ fuel =>
    simp only [DataW.trod, ht, hce, hct] at h
    split at h
    · rename_i hl
      obtain ⟨xs, hm, hx⟩ := Option.map_eq_some_iff.1 h
      have hxs : xs.map (·.1) = zss.map fun zs => (tabData k zs : DataW H) := by
        have := congrArg Prod.fst hx
        simpa using this
      have hxl : xs.length = n := by simpa using mapM_length hm
      have hzl : zss.length = n := by
        have := congrArg List.length hxs
        simp at this
        omega
      have hcl : cs.length = n * m := by simpa using hl
      have hfl := flat_len zss hz
      apply List.ext_getElem?
      intro q
      by_cases hq : q < n * m
      · have hm0 : 0 < m := by
          rcases Nat.eq_zero_or_pos m with h0 | h0
          · rw [h0] at hq; omega
          · exact h0
        have hi : q / m < n := by rw [Nat.div_lt_iff_lt_mul hm0]; exact hq
        have hj : q % m < m := Nat.mod_lt _ hm0
        have hqe : q = q / m * m + q % m := by have := Nat.div_add_mod q m; rw [Nat.mul_comm] at this; omega
        obtain ⟨b, hb, hf⟩ := mapM_at hm (q / m) (q / m) (by simp [hi])
        have h2 : (xs.map (·.1))[q / m]? = some b.1 := by simp [hb]
        rw [hxs, List.getElem?_map] at h2
        obtain ⟨zs, hzs, hbz⟩ := Option.map_eq_some_iff.1 h2
        have hrow := cells_of_tab (zs := zs) (p := b.2) he hu hcu hce (by rw [hf]; exact congrArg some (Prod.ext hbz.symm rfl))
        have e1 := congrArg (·[q % m]?) hrow
        simp only [List.getElem?_take, List.getElem?_drop, if_pos hj] at e1
        rw [List.getElem?_map, hqe, flat_get zss hz _ _ hj]
        have e2 : (q / m * m + q % m) / m = q / m := by rw [← hqe]
        rw [hzs]
        simp only [Option.bind_some]
        rw [e1, List.getElem?_map]
      · rw [List.getElem?_eq_none (by omega), List.getElem?_eq_none (by simp only [List.length_map]; rw [hfl, hzl]; omega)]
    · cases h
theorem rd_var {P : Program} {w : World} {name : String} {g : Nat} {k : IntKind} {zs : List Int} {cs : Array Value} (hg : P.globalNamed name = some g) (hv : w.var? P name = some cs) (hc : cs.toList = zs.map fun z => Value.int k z) (hk : zs.all (fun z => decide (lo k ≤ z ∧ z ≤ hi k)) = true) :
    RD w (fun _ => False) (.pointer (some ⟨g, 0, none⟩)) (.rptr (zs.map fun z => V.int k (.lit z))) := by
  unfold World.var? at hv
  rw [hg] at hv
  simp only [Option.bind_some] at hv
  split at hv
  · rename_i cs' t fz hh
    cases hv
    have hget : ∀ (j : Nat) (y : V), (zs.map fun z => V.int k (.lit z))[j]? = some y → ∃ z, zs[j]? = some z ∧ y = .int k (.lit z) ∧ cs[j]? = some (.int k z) := fun j y hj => by
      rw [List.getElem?_map] at hj
      obtain ⟨z, hz, rfl⟩ := Option.map_eq_some_iff.1 hj
      refine ⟨z, hz, rfl, ?_⟩
      have := congrArg (·[j]?) hc
      simp only [Array.getElem?_toList, List.getElem?_map, hz] at this
      exact this
    refine .rptr ⟨g, 0, none⟩ _ rfl (fun h => h) ((Array.getElem?_eq_some_iff.1 hh).1) (fun j => (cs[j]?).getD undef) (fun j y hj => ?_) (fun j y hj => ?_) (fun j y hj => ?_)
    · obtain ⟨z, h1, h2, h3⟩ := hget j y hj
      simp [h3, Value.oneCell']
    · obtain ⟨z, h1, h2, h3⟩ := hget j y hj
      simp [World.cell?, hh, h3]
    · obtain ⟨z, h1, h2, h3⟩ := hget j y hj
      simp only [h3, Option.getD_some]
      subst h2
      refine .int _ _ _ rfl ?_
      have := List.all_eq_true.1 hk z (List.mem_of_getElem? h1)
      rw [has_iff]
      simpa using this
  · cases hv
theorem glb_cons {w : World} {G : Glb} {F : Nat → Prop} {g : Nat} {cs : List V} (h : RD w F (.pointer (some ⟨g, 0, none⟩)) (.rptr cs)) (r : GlbOk G w F) : GlbOk ((g, cs) :: G) w F := ⟨fun n xs hx => by
  simp only [glook] at hx
  cases e : eqN g n with
  | true => rw [e] at hx; cases hx; rw [← eqN_true e]; exact h
  | false => rw [e] at hx; exact r.ok n xs hx⟩
theorem glb_nil {w : World} : GlbOk [] w (fun _ => False) := ⟨fun g cs h => by simp [glook] at h⟩
end Go.Vg
