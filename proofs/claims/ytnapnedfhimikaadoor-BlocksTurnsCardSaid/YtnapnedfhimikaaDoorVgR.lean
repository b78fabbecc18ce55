/- Operations one behind the other. -/
import Derived.Test.YtnapnedfhimikaaDoorVgQ
set_option maxRecDepth 4000
set_option linter.all false
set_option linter.unusedVariables false
set_option linter.unusedSimpArgs false
namespace Go.Vg
open Go

def nthO : List Oper → Nat → Option Oper
  | [], _ => none
  | x :: r, n => match n with
    | 0 => some x
    | n + 1 => nthO r n
theorem nthO_eq (l : List Oper) (n : Nat) : nthO l n = l[n]? := by
  induction l generalizing n with
  | nil => simp [nthO]
  | cons a r ih => cases n <;> simp [nthO, ih]
def gslot (all : List Oper) (g : Nat) : Option Tmp :=
  match nthO all g with
  | some o => o.dst
  | none => none
def setR (s : St) (t : Nat) (v : V) : St := ⟨putR s.e t v, s.o, s.t⟩
def dstIs (d : Option Tmp) (t : Nat) : Bool :=
  match d with
  | some d => (eqN d t)
  | none => false

/-- An operation under a guard of which is known what it holds ('gv'). -/
def runG (c : Ctx) (o : Oper) (t : Nat) (want : Bool) (im0 : List (Nat × Bool)) (go : List (Nat × Bool) → St → Prop) (pu : V → St → Prop) (sk : St → Prop) (s : St) (gv : V) : Prop :=
  match gv with
  | .bool (.lit b) => cnd (b == want) (fun _ => go ((t, want) :: im0) s) (fun _ => sk s)
  | .bool q => match pureV c s.e s.o ((t, want) :: im0) o.op with
    | some v => pu v s
    | none => Branch q
      (fun _ => let s' := setR s t (.bool (.lit true)); cnd want (fun _ => go ((t, want) :: im0) s') (fun _ => sk s'))
      (fun _ => let s' := setR s t (.bool (.lit false)); cnd want (fun _ => sk s') (fun _ => go ((t, want) :: im0) s'))
  | _ => False
/-- The same where the guard itself stands under a guard. -/
def runGG (c : Ctx) (o : Oper) (t : Nat) (want : Bool) (go : List (Nat × Bool) → St → Prop) (pu : V → St → Prop) (sk : St → Prop) (s : St) : Prop :=
  match look s.e t with
  | .opt t' b' v => bif dstIs o.dst t' then False else match look s.e t' with
    | .bool (.lit b) => cnd (b == b') (fun _ => runG c o t want [(t', b')] go pu sk (setR s t v) v) (fun _ => sk s)
    | .bool q => match pureV c s.e s.o [(t, want), (t', b')] o.op with
      | some x => pu x s
      | none => Branch q
        (fun _ => let s' := setR s t' (.bool (.lit true)); cnd b' (fun _ => runG c o t want [(t', b')] go pu sk (setR s' t v) v) (fun _ => sk s'))
        (fun _ => let s' := setR s t' (.bool (.lit false)); cnd b' (fun _ => sk s') (fun _ => runG c o t want [(t', b')] go pu sk (setR s' t v) v))
    | _ => False
  | v => runG c o t want [] go pu sk s v

def runOps (P : Program) (c : Ctx) (all : List Oper) : List Oper → St → (St → Prop) → Prop
  | [], s, K => K s
  | o :: r, s, K => pz (six r) fun _ => match o.guard with
    | none => stepOp P c [] o s fun out => runOps P c all r (putO c.N (s.after out) o.dst out.v) K
    | some (g, want) => match gslot all g with
      | some t => bif dstIs o.dst t then False else
        runGG c o t want (fun im s => stepOp P c im o s (fun out => runOps P c all r (putO c.N (s.after out) o.dst out.v) K))
          (fun v s => runOps P c all r (putO c.N s o.dst (.opt t want v)) K) (fun s => runOps P c all r (putO c.N s o.dst (.opt t want .junk)) K) s
      | none => False

section
variable {P : Program} {c : Ctx} {z : From} {F : Nat → Prop} {β : Bt} {s : St} {tm : Array Value} {w : World} {a : Act} {op : Oper} {ops : Array Oper} {Q : Exit → Act → World → Prop}

/-- A slot is set, be the value under a condition. -/
theorem Rl.putRE (hr : Rl P c z F β s tm w) {d : Nat} {val : Value} {x : V} (hx : RE w F β s.o (tm.setIfInBounds d val) val x) : Rl P c z F β (putO c.N s (some d) x) (tm.setIfInBounds d val) w := by
  simp only [putO]
  cases hd : (ltN d c.N) with
  | false =>
    have hN : ¬ d < tm.size := by rw [hr.n]; intro h; rw [show (ltN d c.N) = true from ltN_iff.2 h] at hd; cases hd
    have : tm.setIfInBounds d val = tm := by rw [Array.setIfInBounds, dif_neg hN]
    simp only [cond_false, this]
    exact hr
  | true =>
    have hN : d < tm.size := by rw [hr.n]; simpa using hd
    simp only [cond_true]
    refine { hr with n := by simp [hr.n], env := fun t => ?_, own := hr.own, fresh := hr.fresh, hold := hr.hold, nw := hr.nw }
    simp only [look_put]
    by_cases e : t = d
    · subst e
      have : (tm.setIfInBounds t val).getD t undef = val := by simp [hN]
      simp only [if_true, this]
      exact hx
    · have : (tm.setIfInBounds d val).getD t undef = tm.getD t undef := by simp [Array.getElem?_setIfInBounds_ne (Ne.symm e)]
      simp only [e, if_false, this]
      exact (hr.env t).killOpt

/-- A truth is known now. -/
theorem Rl.setLit (hr : Rl P c z F β s tm w) {t : Nat} {q : BE} (ht : look s.e t = .bool q) {b : Bool} (hb : q.den = b) : Rl P c z F β (setR s t (.bool (.lit b))) tm w := by
  refine { hr with env := fun t' => ?_, own := hr.own, fresh := hr.fresh, hold := hr.hold, nw := hr.nw }
  simp only [setR, look_putR]
  by_cases e : t' = t
  · subst e
    rw [if_pos rfl]
    have := hr.env t'
    rw [ht] at this
    have := RA.of_bool this
    rw [this, hb]
    exact ra_bool rfl
  · rw [if_neg e]; exact hr.env t'

theorem yielded_iff {g t : Nat} (h : gslot ops.toList g = some t) (tm : Array Value) (want : Bool) : yielded ops tm g = some want ↔ tm.getD t undef = .bool want := by
  have h' : (ops[g]?).bind (·.dst) = some t := by
    unfold gslot at h
    rw [nthO_eq] at h
    split at h
    · rename_i o ho
      have : ops[g]? = some o := by simpa using ho
      simp [this, h]
    · cases h
  unfold yielded
  rw [h']
  simp only [Option.bind_some]
  rcases Nat.lt_or_ge t tm.size with hlt | hlt
  · have h1 : tm[t]? = some tm[t] := Array.getElem?_eq_getElem hlt
    have h2 : tm.getD t undef = tm[t] := by simp [hlt]
    rw [h1, h2]
    cases tm[t] <;> simp
  · have h1 : tm[t]? = none := by simp [hlt]
    have h2 : tm.getD t undef = undef := by simp [h1]
    rw [h1, h2]
    simp [undef]

theorem wanted_none {o : Oper} (h : o.guard = none) (y : Nat → Option Bool) : Region.wanted o y = true := by unfold Region.wanted; rw [h]
theorem wanted_some {o : Oper} {g : Nat} {want : Bool} (h : o.guard = some (g, want)) {t : Nat} (hg : gslot ops.toList g = some t) (tm : Array Value) : Region.wanted o (yielded ops tm) = true ↔ tm.getD t undef = .bool want := by
  unfold Region.wanted
  rw [h]
  simp only [beq_iff_eq]
  exact yielded_iff hg tm want

theorem put_defers (a : Act) (d : Option Tmp) (v : Value) : (a.put d v).defers = a.defers := by cases d <;> rfl
theorem put_tmps (a : Act) (d : Nat) (v : Value) : (a.put (some d) v).tmps = a.tmps.setIfInBounds d v := rfl

/-- An operation that is not wanted. -/
theorem Rl.skip (hr : Rl P c z F β s a.tmps w) {t : Nat} {want : Bool} (hn : a.tmps.getD t undef ≠ .bool want) (d : Option Tmp) (hd : dstIs d t = false) (v : V) : Rl P c z F β (putO c.N s d (.opt t want v)) (a.put d undef).tmps w := by
  cases d with
  | none => exact hr
  | some d =>
    rw [put_tmps]
    refine hr.putRE ?_
    simp only [dstIs] at hd
    have hne : d ≠ t := fun e => by subst e; simp at hd
    have : (a.tmps.setIfInBounds d undef).getD t undef = a.tmps.getD t undef := by simp [Array.getElem?_setIfInBounds_ne hne]
    exact .inr ⟨by rw [this]; exact hn, rfl⟩

theorem Rl.when (hr : Rl P c z F β s a.tmps w) {t : Nat} {want : Bool} (hn : a.tmps.getD t undef = .bool want) (d : Option Tmp) (hd : dstIs d t = false) {val : Value} {v : V} (hv : RA w F β s.o val v) : Rl P c z F β (putO c.N s d (.opt t want v)) (a.put d val).tmps w := by
  cases d with
  | none => exact hr
  | some d =>
    rw [put_tmps]
    refine hr.putRE ?_
    simp only [dstIs] at hd
    have hne : d ≠ t := fun e => by subst e; simp at hd
    have : (a.tmps.setIfInBounds d val).getD t undef = a.tmps.getD t undef := by simp [Array.getElem?_setIfInBounds_ne hne]
    exact .inl ⟨by rw [this]; exact hn, hv⟩

/-- A guard that was asked for under another is what it is told where that one holds. -/
theorem Rl.setV (hr : Rl P c z F β s tm w) {t : Nat} {v : V} (hv : RA w F β s.o (tm.getD t undef) v) (h1 : ∀ t b x, v ≠ .opt t b x) (h2 : ∀ b, v ≠ .nb b) : Rl P c z F β (setR s t v) tm w := by
  refine { hr with env := fun t' => ?_, own := hr.own, fresh := hr.fresh, hold := hr.hold, nw := hr.nw }
  simp only [setR, look_putR]
  by_cases e : t' = t
  · subst e
    rw [if_pos rfl]
    cases v <;> first | exact hv | exact absurd rfl (h1 _ _ _) | exact absurd rfl (h2 _)
  · rw [if_neg e]; exact hr.env t'

theorem runG_sound {o : Oper} {t : Nat} {want : Bool} {im0 : List (Nat × Bool)} {go : List (Nat × Bool) → St → Prop} {pu : V → St → Prop} {sk : St → Prop} {gv : V} {G : Prop}
    (hr : Rl P c z F β s a.tmps w) (hgv : RA w F β s.o (a.tmps.getD t undef) gv) (hs : gv = look s.e t) (him : a.tmps.getD t undef = .bool want → ∀ t b, (t, b) ∈ im0 → a.tmps.getD t undef = .bool b)
    (hgo : ∀ im s, Rl P c z F β s a.tmps w → a.tmps.getD t undef = .bool want → (∀ t b, (t, b) ∈ im → a.tmps.getD t undef = .bool b) → go im s → G)
    (hpu : ∀ x, pu x s → (a.tmps.getD t undef = .bool want → ∃ val, Yields P a o w val ∧ RA w F β s.o val x) → G)
    (hsk : ∀ s, Rl P c z F β s a.tmps w → a.tmps.getD t undef ≠ .bool want → sk s → G)
    (h : runG c o t want im0 go pu sk s gv) : G := by
  have him' : a.tmps.getD t undef = .bool want → ∀ t' b, (t', b) ∈ (t, want) :: im0 → a.tmps.getD t' undef = .bool b := fun hw t' b hm => by
    rcases List.mem_cons.1 hm with e | e
    · cases e; exact hw
    · exact him hw t' b e
  unfold runG at h
  simp only [cnd_eq] at h
  split at h
  · rename_i b
    have h1 : a.tmps.getD t undef = .bool b := RA.of_bool hgv
    cases hbw : (b == want) with
    | true =>
      simp only [hbw, cond_true] at h
      simp only [beq_iff_eq] at hbw; subst hbw
      exact hgo _ _ hr h1 (him' h1) h
    | false =>
      simp only [hbw, cond_false] at h
      exact hsk _ hr (by rw [h1]; intro e; cases e; simp at hbw) h
  · rename_i q hq0
    have hqt := RA.of_bool hgv
    split at h
    · rename_i v hv
      exact hpu v h fun hw => by
        obtain ⟨val, hy, hra⟩ := pure_run rfl hr.toRel (him' hw) hv
        exact ⟨val, hy, hra⟩
    · obtain ⟨hT, hF⟩ := h
      cases hden : q.den with
      | true =>
        have h := hT hden
        have hr' := hr.setLit hs.symm hden
        have h1 : a.tmps.getD t undef = .bool true := by rw [hqt, hden]
        cases want with
        | true => simp only [cond_true] at h; exact hgo _ _ hr' h1 (him' h1) h
        | false => simp only [cond_false] at h; exact hsk _ hr' (by rw [h1]; simp) h
      | false =>
        have h := hF hden
        have hr' := hr.setLit hs.symm hden
        have h1 : a.tmps.getD t undef = .bool false := by rw [hqt, hden]
        cases want with
        | false => simp only [cond_false] at h; exact hgo _ _ hr' h1 (him' h1) h
        | true => simp only [cond_true] at h; exact hsk _ hr' (by rw [h1]; simp) h
  · exact h.elim

theorem runG_plain {o : Oper} {t : Nat} {want : Bool} {im0 : List (Nat × Bool)} {go : List (Nat × Bool) → St → Prop} {pu : V → St → Prop} {sk : St → Prop} {s : St} {gv : V} (h : runG c o t want im0 go pu sk s gv) : (∀ t b x, gv ≠ .opt t b x) ∧ ∀ b, gv ≠ .nb b := by
  cases gv <;> first | (refine ⟨fun _ _ _ e => ?_, fun _ e => ?_⟩ <;> cases e; done) | exact (show False from h).elim

theorem runGG_sound {o : Oper} {t : Nat} {want : Bool} {go : List (Nat × Bool) → St → Prop} {pu : V → St → Prop} {sk : St → Prop} {G : Prop}
    (hr : Rl P c z F β s a.tmps w)
    (hgo : ∀ im s, Rl P c z F β s a.tmps w → a.tmps.getD t undef = .bool want → (∀ t b, (t, b) ∈ im → a.tmps.getD t undef = .bool b) → go im s → G)
    (hpu : ∀ x s, Rl P c z F β s a.tmps w → pu x s → (a.tmps.getD t undef = .bool want → ∃ val, Yields P a o w val ∧ RA w F β s.o val x) → G)
    (hsk : ∀ s, Rl P c z F β s a.tmps w → a.tmps.getD t undef ≠ .bool want → sk s → G)
    (h : runGG c o t want go pu sk s) : G := by
  have hlook : ∀ (s : St) (t : Nat) (v : V), look (setR s t v).e t = v := fun s t v => by simp [setR, look_putR]
  have henv := hr.env t
  unfold runGG at h
  simp only [cnd_eq] at h
  split at h
  · rename_i t' b' v hv
    rw [hv] at henv
    cases hd : dstIs o.dst t' with
    | true => rw [hd] at h; exact h.elim
    | false =>
    rw [hd] at h
    simp only [cond_false] at h
    have off : a.tmps.getD t' undef ≠ .bool b' → a.tmps.getD t undef ≠ .bool want := fun hn => by
      rcases henv with ⟨h1, _⟩ | ⟨_, h2⟩
      · exact absurd h1 hn
      · rw [h2]; simp [undef]
    have on : a.tmps.getD t' undef = .bool b' → RA w F β s.o (a.tmps.getD t undef) v := fun hy => by
      rcases henv with ⟨_, h2⟩ | ⟨h1, _⟩
      · exact h2
      · exact absurd hy h1
    have run : ∀ (s1 : St), s1.o = s.o → Rl P c z F β s1 a.tmps w → a.tmps.getD t' undef = .bool b' → runG c o t want [(t', b')] go pu sk (setR s1 t v) v → G := fun s1 ho hr1 hy h => by
      have hg := runG_plain h
      have hv1 : RA w F β s1.o (a.tmps.getD t undef) v := by rw [ho]; exact on hy
      have hr2 := hr1.setV hv1 hg.1 hg.2
      exact runG_sound hr2 hv1 (hlook s1 t v).symm (fun _ t b hm => by simp only [List.mem_singleton, Prod.mk.injEq] at hm; obtain ⟨rfl, rfl⟩ := hm; exact hy) hgo (fun x hx => hpu x _ hr2 hx) hsk h
    split at h
    · rename_i b hb
      have h1 := look_lit hr.toRel hb
      cases hbw : (b == b') with
      | true =>
        simp only [hbw, cond_true] at h
        simp only [beq_iff_eq] at hbw; subst hbw
        exact run s rfl hr h1 h
      | false =>
        simp only [hbw, cond_false] at h
        exact hsk _ hr (off (by rw [h1]; intro e; cases e; simp at hbw)) h
    · rename_i q hq0 hq1
      have hqt := hr.env t'
      rw [hq1] at hqt
      have hqt := RA.of_bool hqt
      split at h
      · rename_i x hx
        exact hpu x s hr h fun hw => by
          obtain ⟨val, hy, hra⟩ := pure_run rfl hr.toRel (im := [(t, want), (t', b')]) (fun t1 b1 hm => by
            simp only [List.mem_cons, Prod.mk.injEq, List.not_mem_nil, or_false] at hm
            rcases hm with ⟨rfl, rfl⟩ | ⟨rfl, rfl⟩
            · exact hw
            · rcases Classical.em (a.tmps.getD t1 undef = .bool b1) with e | e
              · exact e
              · exact absurd hw (off e)) hx
          exact ⟨val, hy, hra⟩
      · obtain ⟨hT, hF⟩ := h
        cases hden : q.den with
        | true =>
          have h := hT hden
          have hr' := hr.setLit hq1 hden
          have h1 : a.tmps.getD t' undef = .bool true := by rw [hqt, hden]
          cases b' with
          | true => simp only [cond_true] at h; exact run (setR s t' _) rfl hr' h1 h
          | false => simp only [cond_false] at h; exact hsk _ hr' (off (by rw [h1]; simp)) h
        | false =>
          have h := hF hden
          have hr' := hr.setLit hq1 hden
          have h1 : a.tmps.getD t' undef = .bool false := by rw [hqt, hden]
          cases b' with
          | false => simp only [cond_false] at h; exact run (setR s t' _) rfl hr' h1 h
          | true => simp only [cond_true] at h; exact hsk _ hr' (off (by rw [h1]; simp)) h
    · exact h.elim
  · have hg := runG_plain h
    exact runG_sound hr (henv.ra hg.1 hg.2) rfl (by simp) hgo (fun x hx => hpu x s hr hx) hsk h

theorem runOps_sound : ∀ (l : List Oper) {s : St} {a : Act} {w : World} {F : Nat → Prop} {β : Bt} {K : St → Prop}, runOps P c ops.toList l s K → Rl P c z F β s a.tmps w →
    (∀ s' F' β' a' w', K s' → Rl P c z F' β' s' a'.tmps w' → a'.defers = a.defers → Q .normal a' w') → wpList P ops Q l a w
  | [], s, a, w, F, β, K, h, hr, hq => hq _ _ _ _ _ h hr rfl
  | o :: r, s, a, w, F, β, K, h, hr, hq => by
    -- a wanted operation
    have want : ∀ (im : List (Nat × Bool)) (s : St), (∀ t b, (t, b) ∈ im → a.tmps.getD t undef = .bool b) → Rl P c z F β s a.tmps w → stepOp P c im o s (fun out => runOps P c ops.toList r (putO c.N (s.after out) o.dst out.v) K) → o.wp P a w (wpList P ops Q r) Q := fun im s him hr h =>
      stepOp_sound (K := fun out => runOps P c ops.toList r (putO c.N (s.after out) o.dst out.v) K) rfl hr him h _ _ fun out F' β' val w' hk hr' hv =>
        runOps_sound r hk (hr'.put o.dst hv a rfl) fun s' F' β' a' w' h1 h2 h3 => hq s' F' β' a' w' h1 h2 (h3.trans (put_defers _ _ _))
    have skip : ∀ (s : St) (v : V) (t : Nat) (wt : Bool), Rl P c z F β s a.tmps w → a.tmps.getD t undef ≠ .bool wt → dstIs o.dst t = false → runOps P c ops.toList r (putO c.N s o.dst (.opt t wt v)) K → wpList P ops Q r (a.put o.dst undef) w := fun s v t wt hr hn hd h =>
      runOps_sound r h (hr.skip hn o.dst hd v) fun s' F' β' a' w' h1 h2 h3 => hq s' F' β' a' w' h1 h2 (h3.trans (put_defers _ _ _))
    simp only [runOps] at h
    replace h := pz_go h
    simp only [wpList]
    split at h
    · rename_i hg
      rw [if_pos (wanted_none hg _)]
      exact .inl (want [] s (by simp) hr h)
    · rename_i g wt hg
      split at h
      · rename_i t ht
        have hw := fun tm => wanted_some hg ht tm
        cases hd : dstIs o.dst t with
        | true => rw [hd] at h; exact h.elim
        | false =>
        rw [hd] at h
        simp only [cond_false] at h
        refine runGG_sound hr (fun im s1 hr1 hy him h => ?_) (fun x s1 hr1 h hv => ?_) (fun s1 hr1 hn h => ?_) h
        · rw [if_pos ((hw _).2 hy)]
          exact .inl (want im s1 him hr1 h)
        · by_cases hn : a.tmps.getD t undef = .bool wt
          · rw [if_pos ((hw _).2 hn)]
            refine .inl ?_
            obtain ⟨val, hy, hra⟩ := hv hn
            unfold Oper.wp
            rw [show (execOp a.eval o).run P w = .ok (.value val) w from hy]
            exact runOps_sound r h (hr1.when hn o.dst hd hra) fun s' F' β' a' w' h1 h2 h3 => hq s' F' β' a' w' h1 h2 (h3.trans (put_defers _ _ _))
          · rw [if_neg (fun e => hn ((hw _).1 e))]
            exact skip s1 x t wt hr1 hn hd h
        · rw [if_neg (fun e => hn ((hw _).1 e))]
          exact skip s1 _ t wt hr1 hn hd h
      · exact h.elim

end
end Go.Vg
