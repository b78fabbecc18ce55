/- The candidates that may be, in order, each once; the guesses; what fits, and follows. -/
import Derived.Test.YthnbhhifehkggaaPb
set_option maxRecDepth 4000
set_option linter.all false
set_option linter.unusedVariables false
set_option linter.unusedSimpArgs false
namespace Go.Vg
open Go
def M40 : Int := 1099511627776
def inB (x lo : Int) : Bool := decide (lo ≤ x) && decide (x ≤ M40)
def mayB (c : chain_Cand) : Bool := inB c.Offset 0 && inB c.Size 1 && inB c.Number 0 && inB c.Block 0
theorem may_c1_eq (x lo : Int) : chain_may_c1 x lo = some (inB x lo) := by
  simp only [chain_may_c1, inB, M40, ge_iff_le]
  by_cases h : lo ≤ x
  · rw [if_pos (by simpa using h)]; simp [h]; rfl
  · rw [if_neg (by simpa using h)]; simp [h]
theorem may_eq (c : chain_Cand) : chain_may c = some (mayB c) := by
  simp only [chain_may, may_c1_eq, Option.bind_some, mayB]
  cases inB c.Offset 0 <;> cases inB c.Size 1 <;> cases inB c.Number 0 <;> rfl
theorem sorted_c1_eq (c : chain_Cand) : chain_sorted_c1 c = some (!mayB c) := by simp only [chain_sorted_c1, may_eq, Option.bind_some]
theorem mayB_iff {c : chain_Cand} : mayB c = true ↔ (0 ≤ c.Offset ∧ c.Offset ≤ M40) ∧ (1 ≤ c.Size ∧ c.Size ≤ M40) ∧ (0 ≤ c.Number ∧ c.Number ≤ M40) ∧ (0 ≤ c.Block ∧ c.Block ≤ M40) := by
  simp only [mayB, inB, Bool.and_eq_true, decide_eq_true_eq]
  constructor
  · rintro ⟨⟨⟨h1, h2⟩, h3⟩, h4⟩; exact ⟨h1, h2, h3, h4⟩
  · rintro ⟨h1, h2, h3, h4⟩; exact ⟨⟨⟨h1, h2⟩, h3⟩, h4⟩
/-- In order, each once. -/
def srt (l : List chain_Cand) : List chain_Cand := dd (isort cless (l.filter mayB))
theorem clone_eq (l : List chain_Cand) (hl : l.length ≤ 100000) : slices_Clone_schain_Cand_chain_Cand l = some l := by
  unfold slices_Clone_schain_Cand_chain_Cand
  rw [app_ok (by simp; omega)]; rfl
theorem sortC (l : List chain_Cand) (hl : l.length ≤ 100000) : sortG l chain_Compare = some (isort cless l) := by
  unfold sortG sortF
  simp only [cCompare_lt]
  rw [if_pos (by omega)]
theorem sortG_ (l : List chain_Guess) (hl : l.length ≤ 100000) : sortG l chain_compare = some (isort gless l) := by
  unfold sortG sortF
  simp only [gcompare_lt]
  rw [if_pos (by omega)]
theorem filter_nn (l : List chain_Cand) : (l.filter fun r => !!mayB r) = l.filter mayB := by congr 1; funext r; simp
theorem sorted_eq (l : List chain_Cand) (hl : l.length ≤ 100000) : chain_sorted l = some (srt l) := by
  have h1 : (l.filter mayB).length ≤ l.length := List.length_filter_le _ _
  unfold chain_sorted
  rw [clone_eq l hl, Option.bind_some, sdeleteFunc_eq (p := fun r => !mayB r) (fun r _ => sorted_c1_eq r) hl, Option.bind_some, filter_nn, sortC _ (by omega), Option.bind_some, compact_cand _ (by rw [(isort_perm cless _).length_eq]; omega)]
  rfl
theorem sorted2_eq (l : List chain_Cand) (hl : l.length ≤ 100000) : chain_sorted_x2 l = some (srt l) := sorted_eq l hl
theorem cless_tot (a b : chain_Cand) (h : cless b a = false) (hne : a ≠ b) : cless a b = true := by
  cases h2 : cless a b with
  | true => rfl
  | false => exact absurd (ckey_inj (x := a) (y := b) (lexLt_tot _ _ rfl h2 h)) hne
theorem gless_tot (a b : chain_Guess) (h : gless b a = false) (hne : a ≠ b) : gless a b = true := by
  cases h2 : gless a b with
  | true => rfl
  | false => exact absurd (gkey_inj (x := a) (y := b) (lexLt_tot _ _ rfl h2 h)) hne
theorem lexLt_asym (a b : List Int) (h : lexLt a b = true) : lexLt b a = false := by
  cases h2 : lexLt b a with
  | false => rfl
  | true => have := lexLt_trans _ _ _ h h2; rw [lexLt_irrefl] at this; cases this
theorem cord (l : List chain_Cand) : Ord cless (isort cless l) := isort_ord cless (fun x y h => lexLt_asym _ _ h) (fun x y z => lexLt_ntrans _ _ _ rfl rfl) l
theorem gord (l : List chain_Guess) : Ord gless (isort gless l) := isort_ord gless (fun x y h => lexLt_asym _ _ h) (fun x y z => lexLt_ntrans _ _ _ rfl rfl) l
theorem srt_ss (l : List chain_Cand) : SS cless (srt l) := dd_ss cless cless_tot (fun a b c => lexLt_trans _ _ _) _ (cord _)
theorem srt_mem (l : List chain_Cand) (x : chain_Cand) : x ∈ srt l ↔ x ∈ l ∧ mayB x = true := by
  rw [srt, dd_mem, (isort_perm cless _).mem_iff, List.mem_filter]
theorem srt_len (l : List chain_Cand) : (srt l).length ≤ l.length := by
  refine Nat.le_trans (dd_len _) ?_
  rw [(isort_perm cless _).length_eq]
  exact List.length_filter_le _ _
theorem ss_uniqueC (a b : List chain_Cand) (ha : SS cless a) (hb : SS cless b) (h : ∀ x, x ∈ a ↔ x ∈ b) : a = b := ss_unique cless (fun a => lexLt_irrefl _) (fun a b => lexLt_asym _ _) a b ha hb h
theorem ss_uniqueG (a b : List chain_Guess) (ha : SS gless a) (hb : SS gless b) (h : ∀ x, x ∈ a ↔ x ∈ b) : a = b := ss_unique gless (fun a => lexLt_irrefl _) (fun a b => lexLt_asym _ _) a b ha hb h
theorem srt_congr {a b : List chain_Cand} (h : ∀ x, x ∈ a ↔ x ∈ b) : srt a = srt b := ss_uniqueC _ _ (srt_ss a) (srt_ss b) fun x => by rw [srt_mem, srt_mem, h]

/-! ### Guesses -/
def gof (c : chain_Cand) : chain_Guess := ⟨c.Params, c.Variable, if c.Variable = true then 0 else c.Block⟩
theorem guess_eq (c : chain_Cand) : chain_guess c = some (gof c) := by
  simp only [chain_guess, chain_guess_K1, gof]
  cases c.Variable <;> rfl
def gss (l : List chain_Cand) : List chain_Guess := dd (isort gless ((srt l).map gof))
theorem guesses_eq (l : List chain_Cand) (hl : l.length ≤ 100000) : chain_Guesses l = some (gss l) := by
  have hs := srt_len l
  unfold chain_Guesses
  rw [sorted_eq l hl, Option.bind_some]
  have := iter_list (step := chain_Guesses_L1 (srt l)) (A := List chain_Guess) (fun k s => ((k : Int), s)) (fun s x => .inl (s ++ [gof x])) (fun s => gss l) (fun k s => s = ((srt l).take k).map gof) (srt l) (by omega) (fun k s x hx hs' => ?_) (fun s hs' => ?_) (s0 := ([] : List chain_Guess)) (by simp)
  · rw [show ((0 : Int), ([] : List chain_Guess)) = (((0 : Nat) : Int), []) from rfl, this, foldE_inl (g := fun s x => s ++ [gof x]) (fun _ _ => rfl)]
    rfl
  · have hk := (List.getElem?_eq_some_iff.1 hx).1
    have hw : W ((k : Int) + 1) = ((k + 1 : Nat) : Int) := by rw [W_id (by omega) (by omega)]; omega
    refine ⟨?_, fun s' e => ?_⟩
    · simp only [chain_Guesses_L1]
      have hn : (s.length + 1) * 40 ≤ 140737488355328 := by rw [hs']; simp; omega
      rw [if_pos (by simpa using (show (k : Int) < (srt l).length by omega)), idx_ok hx, Option.bind_some, guess_eq, Option.bind_some, app_ok (by simpa using hn), Option.bind_some, hw]
    · cases e
      rw [hs', List.take_add_one, hx]; simp
  · simp only [chain_Guesses_L1]
    rw [if_neg (by simp), chain_Guesses_K1]
    have e : s = (srt l).map gof := by rw [hs', List.take_of_length_le (Nat.le_refl _)]
    have hsl : s.length ≤ 100000 := by rw [e]; simp; omega
    rw [sortG_ s hsl, Option.bind_some, compact_guess _ (by rw [(isort_perm gless _).length_eq]; exact hsl), e]
    rfl
theorem gss_ss (l : List chain_Cand) : SS gless (gss l) := dd_ss gless gless_tot (fun a b c => lexLt_trans _ _ _) _ (gord _)
theorem gss_mem (l : List chain_Cand) (g : chain_Guess) : g ∈ gss l ↔ ∃ c, c ∈ l ∧ mayB c = true ∧ gof c = g := by
  rw [gss, dd_mem, (isort_perm gless _).mem_iff, List.mem_map]
  constructor
  · rintro ⟨c, h1, h2⟩; rw [srt_mem] at h1; exact ⟨c, h1.1, h1.2, h2⟩
  · rintro ⟨c, h1, h2, h3⟩; exact ⟨c, (srt_mem _ _).2 ⟨h1, h2⟩, h3⟩
theorem gss_len (l : List chain_Cand) : (gss l).length ≤ l.length := by
  refine Nat.le_trans (dd_len _) ?_
  rw [(isort_perm gless _).length_eq, List.length_map]
  exact srt_len l

/-! ### What fits, and follows -/
def sameP (g : chain_Guess) (c : chain_Cand) : Bool := decide (c.Params.Rate = g.Params.Rate ∧ c.Params.Channels = g.Params.Channels ∧ c.Params.Depth = g.Params.Depth ∧ c.Variable = g.Variable)
def fitB (g : chain_Guess) (c : chain_Cand) (last : Bool) : Bool := sameP g c && (g.Variable || decide (c.Block = g.Block) || last && decide (c.Block < g.Block))
theorem fits_eq (g : chain_Guess) (c : chain_Cand) (last : Bool) : chain_Guess_Fits g c last = some (fitB g c last) := by
  simp only [chain_Guess_Fits, fitB, sameP]
  by_cases h1 : c.Params.Rate = g.Params.Rate <;> by_cases h2 : c.Params.Channels = g.Params.Channels <;> by_cases h3 : c.Params.Depth = g.Params.Depth <;> by_cases h4 : c.Variable = g.Variable <;> simp [h1, h2, h3, h4]
  by_cases h5 : g.Variable = true <;> by_cases h6 : c.Block = g.Block <;> cases last <;> simp [h5, h6]
def folB (a b : chain_Cand) : Bool := decide (a.Offset + a.Size ≤ b.Offset) && decide ((if b.Variable = true then a.Number + a.Block else a.Number + 1) ≤ b.Number)
theorem follows_eq (a b : chain_Cand) (ha : mayB a = true) : chain_Follows a b = some (folB a b) := by
  rw [mayB_iff] at ha
  unfold M40 at ha
  have w1 : W (a.Number + a.Block) = a.Number + a.Block := W_id (by omega) (by omega)
  have w2 : W (a.Number + 1) = a.Number + 1 := W_id (by omega) (by omega)
  have w3 : W (a.Offset + a.Size) = a.Offset + a.Size := W_id (by omega) (by omega)
  simp only [chain_Follows, chain_Follows_K1, folB, w1, w2, w3]
  cases b.Variable <;> by_cases h : a.Offset + a.Size ≤ b.Offset <;> simp [h]
theorem fol_lt {a b : chain_Cand} (ha : mayB a = true) (h : folB a b = true) : cless a b = true := by
  rw [mayB_iff] at ha
  simp only [folB, Bool.and_eq_true, decide_eq_true_eq] at h
  have : a.Offset < b.Offset := by omega
  simp [cless, ckey, lexLt, this]
theorem hc1_eq (g : chain_Guess) (c : chain_Cand) : chain_Heaviest_c1 c g.Params.Rate g.Params.Channels g.Params.Depth g.Variable g.Block = some (!fitB g c true) := by
  simp only [chain_Heaviest_c1]
  rw [fits_eq]; rfl
end Go.Vg
