/- Worse works, and works that are wrong by the machine's play: plain. No program. -/
import Derived.Test.YtgeapenglcohfaaGRulP
import Derived.Test.YtgeapenglcohfaaGQE
namespace Go.Proofs.Ytgeapenglcohfaa
open Go.RowKit

theorem toolB_bds {k : WkT} (h : workB k = true) : (0 ≤ k.tip ∧ k.tip ≤ 100) ∧ (1 ≤ k.num ∧ k.num ≤ 100) ∧ (1 ≤ k.den ∧ k.den ≤ 100) ∧ k.num ≤ k.den ∧ (1 ≤ k.bite ∧ k.bite ≤ 1000) ∧ 0 ≤ k.slack ∧ k.slack ≤ 1000 := by
  obtain ⟨h1, _⟩ := workB_iff.1 h
  have := toolB_iff.1 h1
  omega
theorem hiK_mono {k k' : WkT} (h : workB k = true) (e : k'.bite = k.bite ∧ k'.slack = k.slack) {c c' : CutT} (hp : c.2.1 ≤ c'.2.1) : hiK k c ≤ hiK k' c' := by
  obtain ⟨_, _, _, _, hb, _⟩ := toolB_bds h
  unfold hiK highOf
  rw [e.1, e.2]
  have := Int.ediv_le_ediv (c := 100) (by decide) (Int.mul_le_mul_of_nonneg_right hp (show 0 ≤ k.bite by omega))
  omega
theorem hiK_bd {k : WkT} (h : workB k = true) {c : CutT} (h0 : 0 ≤ c.2.1) (h1 : c.2.1 ≤ 1000) : 0 ≤ hiK k c ∧ hiK k c ≤ 11000 := by
  obtain ⟨_, _, _, _, hb, hs⟩ := toolB_bds h
  unfold hiK highOf
  have e1 : 0 ≤ c.2.1 * k.bite / 100 := Int.ediv_nonneg (Int.mul_nonneg h0 (by omega)) (by decide)
  have e2 : c.2.1 * k.bite ≤ 1000 * 1000 := Int.mul_le_mul h1 hb.2 (by omega) (by decide)
  have e3 := Int.ediv_le_ediv (c := 100) (by decide) e2
  omega
theorem halfOf_mono {tip num den a b : Int} (hn : 0 ≤ num) (hd : 0 < den) (h : a ≤ b) : halfOf tip num den a ≤ halfOf tip num den b := by
  unfold halfOf
  have e2 : (a * num + den - 1) / den ≤ (b * num + den - 1) / den := Int.ediv_le_ediv hd (by have := Int.mul_le_mul_of_nonneg_right h hn; omega)
  omega
theorem reachK_mono {k k' : WkT} (h : workB k = true) (e : k'.tip = k.tip ∧ k'.num = k.num ∧ k'.den = k.den ∧ k'.bite = k.bite ∧ k'.slack = k.slack) {c c' : CutT} (hp : c.2.1 ≤ c'.2.1) : reachK k c ≤ reachK k' c' := by
  obtain ⟨_, hn, hd, _⟩ := toolB_bds h
  unfold reachK
  rw [e.1, e.2.1, e.2.2.1]
  exact halfOf_mono (by omega) (by omega) (hiK_mono h e.2.2.2 hp)
theorem reachK_bd {k : WkT} (h : workB k = true) {c : CutT} (h0 : 0 ≤ c.2.1) (h1 : c.2.1 ≤ 1000) : 0 ≤ reachK k c ∧ reachK k c ≤ 11101 := by
  obtain ⟨b0, b1⟩ := hiK_bd h h0 h1
  obtain ⟨ht, hn, hd, hnd, _⟩ := toolB_bds h
  unfold reachK halfOf
  have e0 : 0 ≤ hiK k c * k.num := Int.mul_nonneg b0 (by omega)
  have e1 : 0 ≤ (hiK k c * k.num + k.den - 1) / k.den := Int.ediv_nonneg (by omega) (by omega)
  have e2 : hiK k c * k.num ≤ hiK k c * k.den := Int.mul_le_mul_of_nonneg_left hnd b0
  have e3 : (hiK k c * k.num + k.den - 1) / k.den ≤ (hiK k c * k.den + k.den - 1) / k.den := Int.ediv_le_ediv (by omega) (by omega)
  have e4 : (hiK k c * k.den + k.den - 1) / k.den < hiK k c + 1 + 1 := by
    apply Int.ediv_lt_of_lt_mul (by omega)
    rw [Int.add_mul, Int.add_mul]
    omega
  omega
theorem far_den {xs ys : List (Int × Int)} : 0 ≤ (farL xs ys).2 := by
  obtain ⟨⟨d0, _⟩, _⟩ := farL_spec xs ys
  omega
theorem nearB_mono {xs ys : List (Int × Int)} {m n : Int} (h0 : 0 ≤ m) (hmn : m ≤ n) (h : nearB xs ys m = true) : nearB xs ys n = true := by
  unfold nearB at h ⊢
  rw [decide_eq_true_eq] at h ⊢
  have h1 : m * m ≤ n * n := Int.mul_le_mul hmn hmn h0 (by omega)
  have h2 := Int.mul_le_mul_of_nonneg_right h1 (far_den (xs := xs) (ys := ys))
  omega
/-- Which pairs break a wall. -/
theorem mem_rowW {k : WkT} {i : Nat} {p : Int × Int} : ∀ {m : Nat}, p ∈ rowW k i m ↔ ∃ j, j < m ∧ p = ((i : Int), (i : Int) + 1 + (j : Int)) ∧ breaksB k (cutAt k i) (cutAt k (i + 1 + j)) = true
  | 0 => ⟨fun h => (by cases h), fun ⟨j, h, _⟩ => by omega⟩
  | m + 1 => by
    unfold rowW
    constructor
    · intro h
      split at h
      · rename_i hb
        rcases List.mem_append.1 h with h | h
        · obtain ⟨j, h1, h2⟩ := mem_rowW.1 h
          exact ⟨j, by omega, h2⟩
        · rw [List.mem_singleton] at h
          exact ⟨m, by omega, h, hb⟩
      · obtain ⟨j, h1, h2⟩ := mem_rowW.1 h
        exact ⟨j, by omega, h2⟩
    · rintro ⟨j, h1, h2, h3⟩
      by_cases e : j = m
      · subst e
        rw [if_pos h3]
        exact List.mem_append_right _ (by rw [h2]; exact List.mem_singleton.2 rfl)
      · have := mem_rowW.2 ⟨j, show j < m by omega, h2, h3⟩
        split
        · exact List.mem_append_left _ this
        · exact this
theorem mem_wallsTo {k : WkT} {p : Int × Int} : ∀ {n : Nat}, p ∈ wallsTo k n ↔ ∃ i j, i < n ∧ i < j ∧ j < k.cuts.length ∧ p = ((i : Int), (j : Int)) ∧ breaksB k (cutAt k i) (cutAt k j) = true
  | 0 => ⟨fun h => (by cases h), fun ⟨i, j, h, _⟩ => by omega⟩
  | n + 1 => by
    unfold wallsTo
    rw [List.mem_append, mem_wallsTo, mem_rowW]
    constructor
    · rintro (⟨i, j, h1, h2⟩ | ⟨j, h1, h2, h3⟩)
      · exact ⟨i, j, by omega, h2⟩
      · exact ⟨n, n + 1 + j, by omega, by omega, by omega, by rw [h2]; congr 1 <;> omega, h3⟩
    · rintro ⟨i, j, h1, h2, h3, h4, h5⟩
      by_cases e : i = n
      · subst e
        refine .inr ⟨j - (i + 1), by omega, by rw [h4]; congr 1; omega, ?_⟩
        rw [show i + 1 + (j - (i + 1)) = j by omega]
        exact h5
      · exact .inl ⟨i, j, by omega, h2, h3, h4, h5⟩
theorem mem_wallsL {k : WkT} (hb : workB k = true) {p : Int × Int} : p ∈ wallsL k ↔ ∃ i j, i < j ∧ j < k.cuts.length ∧ p = ((i : Int), (j : Int)) ∧ breaksB k (cutAt k i) (cutAt k j) = true := by
  rw [wallsL_ok hb, mem_wallsTo]
  constructor
  · rintro ⟨i, j, _, h⟩
    exact ⟨i, j, h⟩
  · rintro ⟨i, j, h1, h2, h3⟩
    exact ⟨i, j, by omega, h1, h2, h3⟩
theorem mem_deepTo {k : WkT} {z : Int} : ∀ {n : Nat}, z ∈ deepTo k n ↔ ∃ i : Nat, i < n ∧ z = (i : Int) ∧ k.deepest < hiK k (cutAt k i)
  | 0 => ⟨fun h => (by cases h), fun ⟨i, h, _⟩ => by omega⟩
  | n + 1 => by
    unfold deepTo
    constructor
    · intro h
      split at h
      · rename_i hd
        rcases List.mem_append.1 h with h | h
        · obtain ⟨i, h1, h2⟩ := mem_deepTo.1 h
          exact ⟨i, by omega, h2⟩
        · rw [List.mem_singleton] at h
          exact ⟨n, by omega, h, hd⟩
      · obtain ⟨i, h1, h2⟩ := mem_deepTo.1 h
        exact ⟨i, by omega, h2⟩
    · rintro ⟨i, h1, h2, h3⟩
      by_cases e : i = n
      · subst e
        rw [if_pos (show k.deepest < hiK k (k.cuts[i]?.getD ([], 0, false)) from h3)]
        exact List.mem_append_right _ (by rw [h2]; exact List.mem_singleton.2 rfl)
      · have := mem_deepTo.2 ⟨i, show i < n by omega, h2, h3⟩
        split
        · exact List.mem_append_left _ this
        · exact this
/-- A work with more Wall and Play, and more pressure. -/
structure WorseIs (k k' : WkT) : Prop where
  tool : k'.tip = k.tip ∧ k'.num = k.num ∧ k'.den = k.den ∧ k'.bite = k.bite ∧ k'.slack = k.slack
  wall : k.wall ≤ k'.wall
  play : k.play ≤ k'.play
  deep : k'.deepest = k.deepest
  len : k'.cuts.length = k.cuts.length
  spots : ∀ i, i < k.cuts.length → (cutAt k' i).1 = (cutAt k i).1 ∧ (cutAt k i).2.1 ≤ (cutAt k' i).2.1 ∧ (cutAt k' i).2.2 = (cutAt k i).2.2
theorem cutAt_bd {k : WkT} (hb : workB k = true) {i : Nat} (h : i < k.cuts.length) : lineB (cutAt k i).1 = true ∧ 0 ≤ (cutAt k i).2.1 ∧ (cutAt k i).2.1 ≤ 1000 := by
  rw [cutAt_eq h]
  have := (workB_iff.1 hb).2.2.2 _ (List.getElem_mem h)
  unfold cutB at this
  rw [Bool.and_eq_true, inB_iff] at this
  exact ⟨this.1, this.2⟩
theorem worse_walls {k k' : WkT} (h : WorseIs k k') (hb : workB k = true) (hb' : workB k' = true) : ∀ p, p ∈ wallsL k → p ∈ wallsL k' ∧ p.1 < p.2 := by
  intro p hp
  obtain ⟨i, j, h1, h2, rfl, h4⟩ := (mem_wallsL hb).1 hp
  refine ⟨(mem_wallsL hb').2 ⟨i, j, h1, by rw [h.len]; exact h2, rfl, ?_⟩, by simp only; omega⟩
  obtain ⟨a1, a2, a3⟩ := h.spots i (by omega)
  obtain ⟨b1, b2, b3⟩ := h.spots j h2
  have r1 := reachK_mono hb h.tool a2
  have r2 := reachK_mono hb h.tool b2
  obtain ⟨_, c1, c2⟩ := cutAt_bd hb (show i < k.cuts.length by omega)
  obtain ⟨_, d1, d2⟩ := cutAt_bd hb h2
  have q1 := (reachK_bd hb c1 c2).1
  have q2 := (reachK_bd hb d1 d2).1
  obtain ⟨⟨w1, _⟩, ⟨p1, _⟩, _⟩ := fields_bd (workB_iff.1 hb).2.1
  have w2 := h.wall
  have p2 := h.play
  unfold breaksB at h4 ⊢
  rw [Bool.and_eq_true] at h4 ⊢
  rw [a1, b1, a3, b3]
  exact ⟨h4.1, nearB_mono (by omega) (by omega) h4.2⟩
theorem worse_deep {k k' : WkT} (h : WorseIs k k') (hb : workB k = true) (hb' : workB k' = true) : ∀ z, z ∈ deepL k → z ∈ deepL k' := by
  intro z hz
  have e1 : deepL k = deepTo k k.cuts.length := if_pos hb
  have e2 : deepL k' = deepTo k' k'.cuts.length := if_pos hb'
  rw [e1, mem_deepTo] at hz
  obtain ⟨i, h1, rfl, h3⟩ := hz
  rw [e2, mem_deepTo]
  refine ⟨i, by rw [h.len]; exact h1, rfl, ?_⟩
  have := hiK_mono hb h.tool.2.2.2 (h.spots i h1).2.1
  rw [h.deep]
  omega
/-- Cuts that do not break a wall stay apart, whatever the play. -/
theorem stands {k : WkT} (hb : workB k = true) (h0 : wallsL k = []) {i j : Nat} (hij : i < j) (hj : j < k.cuts.length) (hc : ((cutAt k i).2.2 && (cutAt k j).2.2) = false) {xs ys : List (Int × Int)} (hx : Wrong k.play (cutAt k i).1 xs) (hy : Wrong k.play (cutAt k j).1 ys) : nearB xs ys (reachK k (cutAt k i) + reachK k (cutAt k j) + k.wall) = false := by
  have hno : breaksB k (cutAt k i) (cutAt k j) = false := by
    cases hbr : breaksB k (cutAt k i) (cutAt k j) with
    | false => rfl
    | true =>
      have := (mem_wallsL hb).2 ⟨i, j, hij, hj, rfl, hbr⟩
      rw [h0] at this
      cases this
  unfold breaksB at hno
  rw [hc, Bool.not_false, Bool.true_and] at hno
  obtain ⟨l1, c1, c2⟩ := cutAt_bd hb (show i < k.cuts.length by omega)
  obtain ⟨l2, d1, d2⟩ := cutAt_bd hb hj
  have q1 := (reachK_bd hb c1 c2).1
  have q2 := (reachK_bd hb d1 d2).1
  obtain ⟨⟨w1, _⟩, ⟨p1, _⟩, _⟩ := fields_bd (workB_iff.1 hb).2.1
  have n1 := (lineB_iff.1 l1).2
  have n2 := (lineB_iff.1 l2).2
  unfold nearB at hno ⊢
  rw [decide_eq_false_iff_not] at hno ⊢
  exact far_wrong (by omega) p1 (fun e => by rw [e] at n1; simp at n1) (fun e => by rw [e] at n2; simp at n2) hx hy hno
end Go.Proofs.Ytgeapenglcohfaa
