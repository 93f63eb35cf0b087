/- The rules of a work in plain Lean; a table of rules in one block. No condition. -/
import Derived.Test.YtgeapenglcohfaaGWkP
import Derived.Test.YtgeapenglcohfaaGDist
import Derived.Test.YtgeapenglcohfaaGTwinP
namespace Go.Proofs.Ytgeapenglcohfaa
section
/- GWalP: Walls in plain Lean. No program. -/
open Go.RowKit

theorem fields_bd {k : WkT} (h : fieldsB k = true) : (1 ≤ k.wall ∧ k.wall ≤ 1000) ∧ (0 ≤ k.play ∧ k.play ≤ 100) ∧ (-1000 ≤ k.fx ∧ k.fx ≤ 1000) ∧ (-1000 ≤ k.fy ∧ k.fy ≤ 1000) ∧ 0 ≤ k.fh ∧ k.fh ≤ 1000 := by
  unfold fieldsB at h
  simp only [Bool.and_eq_true] at h
  obtain ⟨⟨⟨⟨h1, _⟩, h2⟩, h3, h4⟩, h5⟩ := h
  exact ⟨inB_iff.1 h1, inB_iff.1 h2, inB_iff.1 h3, inB_iff.1 h4, inB_iff.1 h5⟩
theorem cutB_line {c : CutT} (h : cutB c = true) : lineB c.1 = true := by
  unfold cutB at h
  rw [Bool.and_eq_true] at h
  exact h.1
def cutAt (k : WkT) (i : Nat) : CutT := k.cuts[i]?.getD ([], 0, false)
theorem cutAt_eq {k : WkT} {i : Nat} (h : i < k.cuts.length) : cutAt k i = k.cuts[i] := by
  unfold cutAt
  rw [List.getElem?_eq_getElem h]
  rfl
/-- Two cuts break a wall. -/
def breaksB (k : WkT) (a b : CutT) : Bool := !(a.2.2 && b.2.2) && nearB a.1 b.1 (reachK k a + reachK k b + k.wall + 3 * k.play)
def rowW (k : WkT) (i : Nat) : Nat → List (Int × Int)
  | 0 => []
  | m + 1 => if breaksB k (cutAt k i) (cutAt k (i + 1 + m)) then rowW k i m ++ [((i : Int), (i : Int) + 1 + (m : Int))] else rowW k i m
def wallsTo (k : WkT) : Nat → List (Int × Int)
  | 0 => []
  | i + 1 => wallsTo k i ++ rowW k i (k.cuts.length - (i + 1))
def wallsL (k : WkT) : List (Int × Int) := if workB k then wallsTo k k.cuts.length else []
theorem wallsL_ok {k : WkT} (hb : workB k = true) : wallsL k = wallsTo k k.cuts.length := if_pos hb
theorem wallsL_no {k : WkT} (hb : workB k = false) : wallsL k = [] := if_neg (by rw [hb]; exact Bool.false_ne_true)
theorem rowW_len (k : WkT) (i : Nat) : ∀ m, (rowW k i m).length ≤ m
  | 0 => Nat.le_refl _
  | m + 1 => by
    have := rowW_len k i m
    unfold rowW
    split
    · simp; omega
    · omega
theorem wallsTo_len {k : WkT} (h16 : k.cuts.length ≤ 16) : ∀ i, (wallsTo k i).length ≤ 16 * i
  | 0 => Nat.le_refl _
  | i + 1 => by
    have := wallsTo_len h16 i
    have := rowW_len k i (k.cuts.length - (i + 1))
    unfold wallsTo
    rw [List.length_append]
    omega
end
open Go.RowKit

/-- The foot, made for one cut, falls into the other one. -/
def fallsB (k : WkT) (a b : CutT) : Bool := decide (k.fd < hiK k b) && nearB (footL k a.1) b.1 (k.fh + reachK k b)
/-- The one is pressed more than the other one, and they touch. -/
def overB (k : WkT) (a b : CutT) : Bool := decide (b.2.1 < a.2.1) && nearB a.1 b.1 (reachK k a + reachK k b)
def firstB (k : WkT) (a b : CutT) : Bool := fallsB k a b || overB k a b
/-- The rules. -/
def ruleM (k : WkT) (i j : Nat) : Bool := (decide (i < k.cuts.length) && decide (j < k.cuts.length)) && (decide (i ≠ j) && firstB k (cutAt k i) (cutAt k j))

/-- A table of 16 rows of 16 in the block g. -/
def BoolAt (g o : Nat) (v : Bool) (W : World) : Prop := W.cell? ⟨g, o, none⟩ = some (.bool v) ∧ W.frozen? ⟨g, o, none⟩ = false
/-- In the block g there lie truth values alone. -/
def BoolBlk (g : Nat) (W : World) : Prop := ∀ (o : Nat) (u : Value), W.cell? ⟨g, o, none⟩ = some u → ∃ b, u = Value.bool b
structure MatIs (g : Nat) (M : Nat → Nat → Bool) (W : World) : Prop where
  at_ : ∀ i j, i < 16 → j < 16 → BoolAt g (i * 16 + j) (M i j) W
  blk : BoolBlk g W
theorem MatIs.lt {g : Nat} {M : Nat → Nat → Bool} {W : World} (h : MatIs g M W) : g < W.heap.size := cell_lt (h.at_ 0 0 (by decide) (by decide)).1
theorem MatIs.ext {g : Nat} {M : Nat → Nat → Bool} {W W' : World} (h : MatIs g M W) (x : Ext W W') : MatIs g M W' :=
  ⟨fun i j hi hj => ⟨x.cell_some (h.at_ i j hi hj).1, x.frozen (h.at_ i j hi hj).1 (h.at_ i j hi hj).2⟩, fun o u hu => h.blk o u (by
    have := x.bel.block g h.lt
    simpa [World.cell?, this] using hu)⟩
theorem MatIs.congr {g : Nat} {M M' : Nat → Nat → Bool} {W : World} (h : MatIs g M W) (e : ∀ i j, i < 16 → j < 16 → M i j = M' i j) : MatIs g M' W := ⟨fun i j hi hj => e i j hi hj ▸ h.at_ i j hi hj, h.blk⟩
def updM (M : Nat → Nat → Bool) (i j : Nat) (v : Bool) (p q : Nat) : Bool := if p = i ∧ q = j then v else M p q
theorem MatIs.put {g : Nat} {M : Nat → Nat → Bool} {W : World} (h : MatIs g M W) {i j : Nat} (hi : i < 16) (hj : j < 16) (v : Bool) : MatIs g (updM M i j v) (W.setCell ⟨g, i * 16 + j, none⟩ (.bool v)) := by
  refine ⟨fun p q hp hq => ?_, fun o u hu => ?_⟩
  · obtain ⟨h1, h2⟩ := h.at_ p q hp hq
    refine ⟨?_, by simp [h2]⟩
    by_cases e : p = i ∧ q = j
    · obtain ⟨rfl, rfl⟩ := e
      rw [updM, if_pos ⟨rfl, rfl⟩]
      exact cell_set_same h1
    · rw [updM, if_neg e]
      exact (cell_set_other (.inr (by omega))).trans h1
  · by_cases e : o = i * 16 + j
    · subst e
      rw [cell_set_same (h.at_ i j hi hj).1] at hu
      exact ⟨v, (Option.some.inj hu).symm⟩
    · rw [cell_set_other (.inr e)] at hu
      exact h.blk o u hu
/-- The rows before i are filled, and of row i the columns before j. -/
def ruleTo (k : WkT) (i j p q : Nat) : Bool := decide (p < i ∨ (p = i ∧ q < j)) && ruleM k p q
theorem ruleTo_zero (k : WkT) (p q : Nat) : ruleTo k 0 0 p q = false := by
  unfold ruleTo
  rw [decide_eq_false (by omega), Bool.false_and]
theorem ruleTo_put {k : WkT} {i j : Nat} {v : Bool} (hv : ruleM k i j = v) (p q : Nat) : updM (ruleTo k i j) i j v p q = ruleTo k i (j + 1) p q := by
  unfold updM
  split
  · rename_i h
    obtain ⟨rfl, rfl⟩ := h
    unfold ruleTo
    rw [hv, decide_eq_true (by omega), Bool.true_and]
  · rename_i h
    unfold ruleTo
    congr 1
    exact decide_eq_decide.2 ⟨fun h1 => by omega, fun h1 => by
      rcases h1 with h1 | ⟨h1, h2⟩
      · exact .inl h1
      · exact .inr ⟨h1, by omega⟩⟩
theorem ruleTo_skip {k : WkT} {i j : Nat} (hv : ruleM k i j = false) (p q : Nat) : ruleTo k i j p q = ruleTo k i (j + 1) p q := by
  rw [← ruleTo_put hv]
  unfold updM
  split
  · rename_i h
    obtain ⟨rfl, rfl⟩ := h
    unfold ruleTo
    rw [decide_eq_false (by omega), Bool.false_and]
  · rfl
theorem ruleTo_row {k : WkT} {i : Nat} (p q : Nat) : ruleTo k i k.cuts.length p q = ruleTo k (i + 1) 0 p q := by
  unfold ruleTo
  by_cases h : p = i ∧ k.cuts.length ≤ q
  · have : ruleM k p q = false := by unfold ruleM; rw [decide_eq_false (p := q < k.cuts.length) (by omega), Bool.and_false, Bool.false_and]
    rw [this, Bool.and_false, Bool.and_false]
  · congr 1
    exact decide_eq_decide.2 ⟨fun h1 => by omega, fun h1 => by omega⟩
theorem ruleTo_all {k : WkT} (p q : Nat) : ruleTo k k.cuts.length 0 p q = ruleM k p q := by
  unfold ruleTo
  by_cases h : p < k.cuts.length
  · rw [decide_eq_true (.inl h), Bool.true_and]
  · have : ruleM k p q = false := by unfold ruleM; rw [decide_eq_false (p := p < k.cuts.length) h, Bool.false_and, Bool.false_and]
    rw [this, Bool.and_false]
theorem ruleM_at {k : WkT} {i j : Nat} (hi : i < k.cuts.length) (hj : j < k.cuts.length) (hne : i ≠ j) : ruleM k i j = firstB k (cutAt k i) (cutAt k j) := by
  unfold ruleM
  rw [decide_eq_true hi, decide_eq_true hj, decide_eq_true hne]
  rfl
theorem ruleM_same (k : WkT) (i : Nat) : ruleM k i i = false := by
  unfold ruleM
  rw [decide_eq_false (p := i ≠ i) (by simp), Bool.false_and, Bool.and_false]
theorem footL_len (k : WkT) (xs : List (Int × Int)) : (footL k xs).length = xs.length := by unfold footL; rw [List.length_map]
theorem footL_co {k : WkT} {xs : List (Int × Int)} (hf : fieldsB k = true) (h : lineB xs = true) : ∀ s ∈ footL k xs, CoP s := fun s hs => by
  obtain ⟨_, _, hx, hy, _⟩ := fields_bd hf
  unfold footL at hs
  obtain ⟨t, ht, rfl⟩ := List.mem_map.1 hs
  obtain ⟨h1, h2⟩ := (lineB_iff.1 h).1 t ht
  exact ⟨⟨by simp only; omega, by simp only; omega⟩, by simp only; omega, by simp only; omega⟩

/-- A slice whose elements begin with no truth value does not lie in a table of truth values. -/
theorem EK.Is.off {α : Type} {K : EK α} (hK : ∀ x b, (K.enc x)[0]? ≠ some (Value.bool b)) {g : Nat} {W W' : World} (hg : BoolBlk g W) (hb : But [g] W W') {v : Value} {xs : List α} (h : K.Is W v xs) : K.Is W' v xs := by
  obtain ⟨A, c, rfl, h0, hc, hr⟩ := h
  refine ⟨A, c, rfl, h0, hc, fun j hj => ?_⟩
  obtain ⟨b, o, hA, hlt, hcell⟩ := hr j hj
  have hp := K.pos
  have hbg : b ≠ g := by
    rintro rfl
    have h1 := hcell 0 _ (List.getElem?_eq_getElem (by rw [K.len]; exact hp))
    obtain ⟨bb, he⟩ := hg _ _ h1
    exact hK xs[j] bb (by rw [List.getElem?_eq_getElem (by rw [K.len]; exact hp), he])
  exact ⟨b, o, hA, Nat.lt_of_lt_of_le hlt hb.size, fun i u hu => hb.cell (hcell i u hu) (by simpa using hbg)⟩
theorem spot_off {g : Nat} {W W' : World} (hg : BoolBlk g W) (hb : But [g] W W') {v : Value} {xs : List (Int × Int)} (h : spotK.Is W v xs) : spotK.Is W' v xs := EK.Is.off (fun x b e => by cases e) hg hb h
theorem SidesIs.off {k : WkT} {g : Nat} {W W' : World} {v : Value} (h : SidesIs k W v) (hg : BoolBlk g W) (hb : But [g] W W') : SidesIs k W' v := by
  obtain ⟨Ss, h1, h2, h3⟩ := h
  exact ⟨Ss, EK.Is.off (fun x b e => by cases e) hg hb h1, h2, fun q h h' => ⟨spot_off hg hb (h3 q h h').line, spot_off hg hb (h3 q h h').foot, (h3 q h h').high, (h3 q h h').reach, (h3 q h h').press, (h3 q h h').cross⟩⟩
theorem zero165 : Try.zeroCells165 = Array.replicate 256 (.bool false) := by kernel_rfl
theorem MatIs.new {W : World} {g : Nat} {T : TypeId} (h : BoxAt g Try.zeroCells165 T W) : MatIs g (fun _ _ => false) W := by
  refine ⟨fun i j hi hj => ?_, fun o u hu => ?_⟩
  · have e : Try.zeroCells165[i * 16 + j]? = some (.bool false) := by rw [zero165, Array.getElem?_replicate, if_pos (by omega)]
    exact ⟨h.cell (by simpa using e), frozen_of_row _ _ _ _ _ h⟩
  · unfold BoxAt at h
    unfold World.cell? at hu
    simp only [h, Option.isSome_none, Bool.false_eq_true, if_false] at hu
    rw [zero165, Array.getElem?_replicate] at hu
    split at hu
    · exact ⟨false, (Option.some.inj hu).symm⟩
    · cases hu
end Go.Proofs.Ytgeapenglcohfaa
