/- Orders in plain Lean: what groove.Order keeps. No program. -/
import Derived.Test.YtgeapenglcohfaaGAll
namespace Go.Proofs.Ytgeapenglcohfaa
open Go.RowKit

/-- How many rules lead to each cut, among the first c rules. -/
def bump (s : Nat → Int) (b : Nat) (q : Nat) : Int := if q = b then s q + 1 else s q
def waitF (M : Nat → Nat → Bool) (s : Nat → Int) (c : Nat) : Option (Nat → Int) := some (bump s ((prsL M)[c]?.getD (0, 0)).2)
def waitTo (M : Nat → Nat → Bool) : Nat → Nat → Int
  | 0 => fun _ => 0
  | c + 1 => bump (waitTo M c) ((prsL M)[c]?.getD (0, 0)).2
theorem waitF_to (M : Nat → Nat → Bool) : ∀ c, (List.range c).foldlM (waitF M) (fun _ => 0) = some (waitTo M c)
  | 0 => rfl
  | c + 1 => by
    rw [List.range_succ, List.foldlM_append, waitF_to M c]
    rfl
theorem waitTo_bd (M : Nat → Nat → Bool) (q : Nat) : ∀ c, 0 ≤ waitTo M c q ∧ waitTo M c q ≤ c
  | 0 => ⟨Int.le_refl _, Int.le_refl _⟩
  | c + 1 => by
    have := waitTo_bd M q c
    unfold waitTo bump
    split <;> omega
theorem prsL_len (M : Nat → Nat → Bool) : (prsL M).length ≤ 256 := by
  unfold prsL prsTo
  exact Nat.le_trans (List.length_filter_le _ _) (by simp)
def wait0 (M : Nat → Nat → Bool) : Nat → Int := waitTo M (prsL M).length

/-- The first cut that waits for none. -/
def frst (s : Nat → Int) (n : Nat) : Option Nat := (List.range n).find? fun i => s i == 0
theorem frst_lt {s : Nat → Int} {n a : Nat} (h : frst s n = some a) : a < n ∧ s a = 0 := by
  have h1 := List.find?_some h
  have h2 := List.mem_of_find?_eq_some h
  exact ⟨List.mem_range.1 h2, by simpa using h1⟩
theorem frst_none {s : Nat → Int} {n : Nat} : frst s n = none ↔ ∀ i, i < n → s i ≠ 0 := by
  unfold frst
  rw [List.find?_eq_none]
  constructor
  · intro h i hi
    simpa using h i (List.mem_range.2 hi)
  · intro h i hi
    simpa using h i (List.mem_range.1 hi)
theorem frst_some {s : Nat → Int} {n a : Nat} (ha : a < n) (h0 : s a = 0) (h : ∀ i, i < a → s i ≠ 0) : frst s n = some a := by
  cases hf : frst s n with
  | none => exact absurd h0 (frst_none.1 hf a ha)
  | some b =>
    obtain ⟨h1, h2⟩ := frst_lt hf
    rcases Nat.lt_trichotomy b a with hb | hb | hb
    · exact absurd h2 (h b hb)
    · rw [hb]
    · exfalso
      unfold frst at hf
      obtain ⟨_, l1, l2, hl, hn⟩ := List.find?_eq_some_iff_append.1 hf
      have hmem : a ∈ l1 := by
        have hr : List.range n = List.range b ++ b :: (List.range n).drop (b + 1) := by
          rw [← List.take_append_drop b (List.range n)]
          congr 1
          · rw [List.take_range, Nat.min_eq_left (by omega)]
          · rw [List.take_append_drop]
            rw [List.drop_eq_getElem_cons (by simp; omega)]
            simp
        have hlen : l1.length = b := by
          have h3 : (List.range n)[l1.length]? = some b := by rw [hl]; simp
          rw [List.getElem?_eq_some_iff] at h3
          obtain ⟨_, h3⟩ := h3
          simpa using h3
        have : l1 = List.range b := by
          have h4 := congrArg (List.take b) hl
          rw [List.take_range, Nat.min_eq_left (by omega), List.take_append_of_le_length (by omega), List.take_of_length_le (by omega)] at h4
          exact h4.symm
        rw [this]
        exact List.mem_range.2 hb
      have := hn a hmem
      simp [h0] at this
/-- One cut more. -/
def ordStep (M : Nat → Nat → Bool) (s : Nat → Int) (a : Nat) (q : Nat) : Int := (if q = a then -1 else s q) - (if M a q then 1 else 0)
/-- .. the rules to the first m cuts are struck. -/
def strike (M : Nat → Nat → Bool) (s : Nat → Int) (a m : Nat) (q : Nat) : Int := (if q = a then -1 else s q) - (if q < m ∧ M a q then 1 else 0)
theorem strike_zero (M : Nat → Nat → Bool) (s : Nat → Int) (a q : Nat) : strike M s a 0 q = if q = a then -1 else s q := by
  unfold strike
  rw [if_neg (c := q < 0 ∧ _) (by omega), Int.sub_zero]
theorem strike_no {M : Nat → Nat → Bool} (s : Nat → Int) {a m : Nat} (h : M a m = false) (q : Nat) : strike M s a m q = strike M s a (m + 1) q := by
  unfold strike
  congr 1
  by_cases hq : q = m
  · subst hq
    rw [if_neg (by omega), if_neg (by rw [h]; simp)]
  · by_cases h1 : q < m ∧ M a q = true
    · rw [if_pos h1, if_pos ⟨by omega, h1.2⟩]
    · rw [if_neg h1, if_neg (fun h2 => h1 ⟨by omega, h2.2⟩)]
theorem strike_yes {M : Nat → Nat → Bool} (s : Nat → Int) {a m : Nat} (h : M a m = true) (q : Nat) : (if q = m then strike M s a m m - 1 else strike M s a m q) = strike M s a (m + 1) q := by
  by_cases hq : q = m
  · subst hq
    rw [if_pos rfl]
    unfold strike
    rw [if_neg (c := q < q ∧ _) (by omega), if_pos (c := q < q + 1 ∧ _) ⟨by omega, h⟩]
    omega
  · rw [if_neg hq]
    unfold strike
    congr 1
    by_cases h1 : q < m ∧ M a q = true
    · rw [if_pos h1, if_pos ⟨by omega, h1.2⟩]
    · rw [if_neg h1, if_neg (fun h2 => h1 ⟨by omega, h2.2⟩)]
theorem strike_all (M : Nat → Nat → Bool) (s : Nat → Int) (a : Nat) {q : Nat} (hq : q < 16) : strike M s a 16 q = ordStep M s a q := by
  unfold strike ordStep
  congr 1
  by_cases h : M a q = true
  · rw [if_pos ⟨hq, h⟩, if_pos h]
  · rw [if_neg (fun h2 => h h2.2), if_neg h]
def ordTo (M : Nat → Nat → Bool) (n : Nat) : Nat → Option (List Nat × (Nat → Int))
  | 0 => some ([], wait0 M)
  | j + 1 => (ordTo M n j).bind fun s => (frst s.2 n).map fun a => (s.1 ++ [a], ordStep M s.2 a)
theorem ordTo_len {M : Nat → Nat → Bool} {n : Nat} : ∀ {j : Nat} {l : List Nat} {s : Nat → Int}, ordTo M n j = some (l, s) → l.length = j ∧ ∀ q, -2 * (j : Int) ≤ s q ∧ s q ≤ 256
  | 0, l, s, h => by
    cases h
    refine ⟨rfl, fun q => ?_⟩
    have := waitTo_bd M q (prsL M).length
    have := prsL_len M
    unfold wait0
    omega
  | j + 1, l, s, h => by
    unfold ordTo at h
    cases ho : ordTo M n j with
    | none => rw [ho] at h; cases h
    | some t =>
      rw [ho] at h
      obtain ⟨l', s'⟩ := t
      obtain ⟨h1, h2⟩ := ordTo_len ho
      simp only [Option.bind_some] at h
      cases hf : frst s' n with
      | none => rw [hf] at h; cases h
      | some a =>
        rw [hf] at h
        cases h
        refine ⟨by simp [h1], fun q => ?_⟩
        have := h2 q
        unfold ordStep
        split <;> split <;> omega
theorem ordTo_stop {M : Nat → Nat → Bool} {n j : Nat} (h : ordTo M n j = none) : ∀ d, ordTo M n (j + d) = none
  | 0 => h
  | d + 1 => by
    show (ordTo M n (j + d)).bind _ = none
    rw [ordTo_stop h d]
    rfl
/-- The first order, and the error. -/
def ordM (k : WkT) : Option (List Nat) := (ordTo (ruleM k) k.cuts.length k.cuts.length).map (·.1)
def natsI (l : List Nat) : List Int := l.map fun (a : Nat) => (a : Int)
def orderL (k : WkT) : List Int := if workB k then natsI ((ordM k).getD []) else []
def orderE (k : WkT) : Int := if workB k then (if (ordM k).isSome then 0 else 52) else 51
theorem order_no {k : WkT} (hb : workB k = false) : orderL k = [] ∧ orderE k = 51 := ⟨if_neg (by rw [hb]; exact Bool.false_ne_true), if_neg (by rw [hb]; exact Bool.false_ne_true)⟩
theorem order_loop {k : WkT} (hb : workB k = true) {j : Nat} (hj : j ≤ k.cuts.length) (h : ordTo (ruleM k) k.cuts.length j = none) : orderL k = [] ∧ orderE k = 52 := by
  obtain ⟨d, hd⟩ := Nat.exists_eq_add_of_le hj
  have h1 := ordTo_stop h d
  rw [← hd] at h1
  have h2 : ordM k = none := by unfold ordM; rw [h1]; rfl
  exact ⟨by unfold orderL; rw [if_pos hb, h2]; rfl, by unfold orderE; rw [if_pos hb, h2]; rfl⟩
theorem order_ok {k : WkT} (hb : workB k = true) {l : List Nat} {s : Nat → Int} (h : ordTo (ruleM k) k.cuts.length k.cuts.length = some (l, s)) : orderL k = natsI l ∧ orderE k = 0 := by
  have h2 : ordM k = some l := by unfold ordM; rw [h]; rfl
  exact ⟨by unfold orderL; rw [if_pos hb, h2]; rfl, by unfold orderE; rw [if_pos hb, h2]; rfl⟩

/-- The cells of a table of numbers in the block g. -/
def wCells (g : Nat) (s : Nat → Int) : List (Nat × Nat × Value) := (List.range 16).map fun q => (g, q, .int .i64 (s q))
theorem wCells_at {g : Nat} {s : Nat → Int} {W : World} : CellsAt (wCells g s) W ↔ ∀ q, q < 16 → W.cell? ⟨g, q, none⟩ = some (.int .i64 (s q)) ∧ W.frozen? ⟨g, q, none⟩ = false := by
  unfold CellsAt wCells
  constructor
  · intro h q hq
    exact h (g, q, .int .i64 (s q)) (List.mem_map.2 ⟨q, List.mem_range.2 hq, rfl⟩)
  · intro h t ht
    obtain ⟨q, hq, rfl⟩ := List.mem_map.1 ht
    exact h q (List.mem_range.1 hq)
theorem wCells_put {g : Nat} {s s' : Nat → Int} {W : World} (h : CellsAt (wCells g s) W) {b : Nat} (hb : b < 16) (v : Int) (hv : ∀ q, q < 16 → (if q = b then v else s q) = s' q) : CellsAt (wCells g s') (W.setCell ⟨g, b, none⟩ (.int .i64 v)) := by
  rw [wCells_at] at h ⊢
  intro q hq
  obtain ⟨h1, h2⟩ := h q hq
  refine ⟨?_, by simp [h2]⟩
  rw [← hv q hq]
  by_cases e : q = b
  · subst e
    rw [if_pos rfl]
    exact cell_set_same h1
  · rw [if_neg e]
    exact (cell_set_other (.inr e)).trans h1
theorem wCells_congr {g : Nat} {s s' : Nat → Int} {W : World} (h : CellsAt (wCells g s) W) (e : ∀ q, q < 16 → s q = s' q) : CellsAt (wCells g s') W := by
  rw [wCells_at] at h ⊢
  intro q hq
  rw [← e q hq]
  exact h q hq
theorem wCells_new {W : World} {g : Nat} {T : TypeId} {cs : Array Value} (h : BoxAt g cs T W) (hc : cs = Array.replicate 16 (Value.int .i64 0)) : CellsAt (wCells g (fun _ => 0)) W := by
  subst hc
  rw [wCells_at]
  intro q hq
  have e : (Array.replicate 16 (Value.int .i64 0))[q]? = some (.int .i64 0) := by rw [Array.getElem?_replicate, if_pos hq]
  exact ⟨h.cell (by rw [Array.getElem?_toList]; exact e), frozen_of_row _ _ _ _ _ h⟩
end Go.Proofs.Ytgeapenglcohfaa
