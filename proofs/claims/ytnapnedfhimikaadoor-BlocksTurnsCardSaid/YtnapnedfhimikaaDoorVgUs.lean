/- Ranges over functions. -/
import Derived.Test.YtnapnedfhimikaaDoorVgUr
set_option maxRecDepth 4000
set_option linter.all false
set_option linter.unusedVariables false
set_option linter.unusedSimpArgs false
namespace Go.Vg
open Go Go.RowKit

abbrev Post := Exit → St → Prop
def From.wt (z : From) (m : Mark) (pr : Nat → Obj → Prop) : From := { z with m := m, pr := pr }

section
variable {P : Program} {c : Ctx} {z : From} {F : Nat → Prop} {β : Bt} {s : St} {tm : Array Value} {w : World}

/-- A mark of which no own thing is known. -/
theorem Rl.mark0 (hr : Rl P c z F β s tm w) : Rl P c (z.wt ⟨w, F, fun _ => none⟩ z.pr) F β s tm w :=
  { hr with own := hr.own, fresh := hr.fresh, hold := hr.hold, nw := hr.nw, prot := hr.prot, mk0 := Nat.le_refl _, mk1 := fun b _ hn => ⟨rfl, hn⟩, mk2 := fun id b hb => by cases hb }
theorem Rl.retT (hr : Rl P c z F β s tm w) (hm : ∀ id, z.m.β id = none) (t : List Nat) : Rl P c z F β ⟨s.e, s.o, t⟩ tm w :=
  { hr with own := hr.own, fresh := hr.fresh, hold := hr.hold, nw := hr.nw, mk2 := fun id b hb => by rw [hm] at hb; cases hb }
theorem leSt_sound0 {s' : St} (h : leSt s s') (hr : Rl P c z F β s tm w) (hm : ∀ id, z.m.β id = none) : ∃ F' β', Rl P c z F' β' s' tm w := by
  simp only [leSt] at h
  split at h
  · rename_i ht
    exact leSt0_sound h ht (hr.retT hm [])
  · exact h.elim

/-- What is no own thing, nor data, turns. -/
theorem Rl.flip (hr : Rl P c z F β s tm w) {l : Nat} (hl : F l) (hown : ∀ id, β id ≠ some l) (hz : z.w.heap.size ≤ l) (hmF : z.m.F l ∨ z.m.w.heap.size ≤ l) (hmβ : ∀ id, z.m.β id ≠ some l) (o' : Obj) (pr' : Nat → Obj → Prop)
    (hpr : ∀ k o, pr' k o → (k ≠ l ∧ z.pr k o) ∨ (k = l ∧ o = o')) : Rl P c (z.wt z.m pr') F β s tm (w.putObj l o') := by
  have hlt : l < w.heap.size := hr.Flt l hl
  have hsz : (w.putObj l o').heap.size = w.heap.size := World.putObj_size
  have hk : ∀ b, b ≠ l → (w.putObj l o').heap[b]? = w.heap[b]? := fun b h => World.putObj_heap_other h
  have hd : ∀ v x, RD w F v x → RD (w.putObj l o') F v x := hd_of (fun b _ hn => hk b (fun e => hn (e ▸ hl))) (fun _ _ h => h) (Nat.le_of_eq hsz.symm)
  have hblk : ∀ id e0 b, olook s.o id = some e0 → β id = some b → (w.putObj l o').heap[b]? = w.heap[b]? ∧ F b := fun id e0 b he hb =>
    ⟨hk b (fun e => hown id (e ▸ hb)), ((hr.own.ent id e0 he).blk hb).1⟩
  have hsame : ∀ id ent0, olook s.o id = some ent0 → Same w β s.o (w.putObj l o') β s.o id id := fun id ent0 he => by
    refine ⟨rfl, fun cs h => ⟨cs, h⟩, fun fx e sz α f l h => ⟨fx, α, f, l, h, rfl, fun b cur hb hc => ⟨cur, ?_, rfl⟩⟩⟩
    rw [(hblk id _ b h hb).1]; exact hc
  have g : ∀ v x, RA w F β s.o v x → RA (w.putObj l o') F β s.o v x := fun v x hx => RA.stay hd hsame hx
  have g' : ∀ v x, RA w F β s.o v x → RA (w.putObj l o') F β s.o v (V.sub sid x) := fun v x hx => by rw [V.sub_id]; exact g v x hx
  refine { n := hr.n, env := fun t => ?_, own := ⟨fun id e0 he => ?_, hr.own.inj⟩, F0F := hr.F0F, Fnew := hr.Fnew, Flt := fun b h => by rw [hsz]; exact hr.Flt b h, dom := hr.dom,
            fresh := hr.fresh, keep := ?_, glob := ⟨fun gg cs hg => hd _ _ (hr.glob.ok gg cs hg)⟩, tab := hr.tab, eqs := hr.eqs, low := hr.low, pins := hr.pins, zlt := hr.zlt, nw := hr.nw, hold := fun id ent0 e1 h0 h1 hp => (hr.hold id ent0 e1 h0 h1 hp).trans (hsame id e1 h1), mk0 := by rw [hsz]; exact hr.mk0,
            mk1 := fun b hb hn => ?_, mk2 := fun id b hb hlt hm => ?_, prot := fun k o h => ?_ }
  · have := (hr.env t).sub (σ := sid) g' (by simp [sid]) (by simp [sid]) (by simp [sid]) (by simp [sid]) (by simp [sid]) (by simp [sid])
    rwa [V.sub_id] at this
  · have := EntOk.sub (σ := sid) (o' := s.o) hd g' rfl (fun b hb => hblk id e0 b he hb) (hr.own.ent id e0 he)
    have e : Ent.sub sid e0 = e0 := by cases e0 <;> simp [Ent.sub, V.subl_id]
    rwa [e] at this
  · refine ⟨hr.keep.os, hr.keep.tape, ⟨hr.keep.output.out, hr.keep.output.drawn⟩, by rw [hsz]; exact hr.keep.size, fun b hb hn => (hk b (fun e => ?_)).trans (hr.keep.block b hb hn)⟩
    have hb : b < z.w.heap.size := hb
    omega
  · obtain ⟨h1, h2⟩ := hr.mk1 b hb hn
    refine ⟨(hk b (fun e => ?_)).trans h1, h2⟩
    rcases hmF with h | h
    · exact hn (e ▸ h)
    · have hb : b < z.m.w.heap.size := hb
      omega
  · obtain ⟨h1, h2⟩ := hr.mk2 id b hb hlt hm
    exact ⟨(hk b (fun e => hmβ id (e ▸ hb))).trans h1, h2⟩
  · rcases hpr k o h with ⟨h1, h2⟩ | ⟨rfl, rfl⟩
    · obtain ⟨h3, h4, h5⟩ := hr.prot k o h2
      exact ⟨h3, (hk k h1).trans h4, h5⟩
    · exact ⟨hl, World.putObj_heap_same hlt, hown⟩

/-- Two new blocks that are no own things, nor data. -/
theorem Rl.lay (hr : Rl P c z F β s tm w) (o1 o2 : Obj) :
    Rl P c (z.wt ⟨(w.alloc o1).alloc o2, fun b => F b ∨ b = w.heap.size ∨ b = w.heap.size + 1, fun _ => none⟩ (fun k o => z.pr k o ∨ (k = w.heap.size ∧ o = o1) ∨ (k = w.heap.size + 1 ∧ o = o2)))
      (fun b => F b ∨ b = w.heap.size ∨ b = w.heap.size + 1) β s tm ((w.alloc o1).alloc o2) := by
  have hsz : ((w.alloc o1).alloc o2).heap.size = w.heap.size + 2 := by simp
  have hk : ∀ b, b < w.heap.size → ((w.alloc o1).alloc o2).heap[b]? = w.heap[b]? := fun b hb => by
    rw [Below.heap_alloc _ _ _ (by simp; omega), Below.heap_alloc _ _ _ hb]
  obtain ⟨h1, _, _⟩ := hr.world (w' := (w.alloc o1).alloc o2) (F' := fun b => F b ∨ b = w.heap.size ∨ b = w.heap.size + 1) hk rfl rfl ⟨rfl, Nat.le_refl _⟩ (by omega) (fun b h => .inl h)
    (fun b hb h => h.elim id fun h => by omega) (fun b h => by
      rw [hsz]
      rcases h with h | h | h
      · have := hr.Flt b h; omega
      · omega
      · omega)
  have h2 := h1.mark0
  have hown : ∀ id b, β id = some b → b < w.heap.size := fun id b hb => by
    cases he : olook s.o id with
    | none => rw [hr.dom id he] at hb; cases hb
    | some e =>
      obtain ⟨_, cs, t, h⟩ := (hr.own.ent id e he).blk hb
      exact blk_lt h
  refine { h2 with own := h2.own, fresh := h2.fresh, hold := h2.hold, nw := h2.nw, prot := fun k o h => ?_ }
  rcases h with h | ⟨rfl, rfl⟩ | ⟨rfl, rfl⟩
  · obtain ⟨q1, q2, q3⟩ := hr.prot k o h
    exact ⟨.inl q1, (hk k (blk_lt q2)).trans q2, q3⟩
  · refine ⟨.inr (.inl rfl), ?_, fun id hb => by have := hown id _ hb; omega⟩
    rw [Below.heap_alloc _ _ _ (by simp)]
    exact World.alloc_heap_new w o
  · refine ⟨.inr (.inr rfl), ?_, fun id hb => by have := hown id _ hb; omega⟩
    have := World.alloc_heap_new (w.alloc o1) o
    simpa using this
end
end Go.Vg
