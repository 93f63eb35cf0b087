/- Masks of words: plain. No program. -/
import Derived.Test.YtkjgcmdabelohaaLay
namespace Go.Proofs.Ytkjgcmdabelohaa
section
/-- The bit of a glyph in a row and a column. -/
def gbit (n r k : Nat) : Bool := decide (n / 2 ^ (14 - (3 * r + k)) % 2 = 1)
/-- What a mask says at a row and a column, while the cell k of the glyph i is come to. -/
def maskB (ws : List Nat) (size r i k c : Nat) : Bool :=
  decide (c / size % 4 < 3) && (decide (c / size / 4 < i) || (decide (c / size / 4 = i) && decide (c / size % 4 < k))) && gbit (ws[c / size / 4]?.getD 0) r (c / size % 4)
def maskR (ws : List Nat) (size cols r i k : Nat) : List Bool := (List.range cols).map (maskB ws size r i k)
theorem maskR_len {ws : List Nat} {size cols r i k : Nat} : (maskR ws size cols r i k).length = cols := by simp [maskR]
theorem maskR_zero {ws : List Nat} {size cols r : Nat} : maskR ws size cols r 0 0 = List.replicate cols false := by
  apply List.ext_getElem
  · simp [maskR]
  · intro c h1 h2
    simp [maskR, maskB]
theorem maskR_next {ws : List Nat} {size cols r i : Nat} : maskR ws size cols r i 3 = maskR ws size cols r (i + 1) 0 := by
  unfold maskR
  refine List.map_congr_left fun c _ => ?_
  unfold maskB
  congr 1
  rw [Bool.eq_iff_iff]
  simp only [Bool.and_eq_true, Bool.or_eq_true, decide_eq_true_eq]
  omega
/-- A slice of a list is written over. -/
def overL {α : Type} (xs : List α) (a : Nat) (ys : List α) : List α := xs.take a ++ ys ++ xs.drop (a + ys.length)
theorem div_block {c size q : Nat} (h : 0 < size) : c / size = q ↔ size * q ≤ c ∧ c < size * q + size := by
  rw [Nat.div_eq_iff h]
  rw [Nat.mul_comm]
  omega
theorem maskR_step {ws : List Nat} {size cols r i k : Nat} (hs : 0 < size) (hk : k < 3) (hc : size * (4 * i + k) + size ≤ cols) (_ : i < ws.length) :
    overL (maskR ws size cols r i k) (size * (4 * i + k)) (List.replicate size (gbit (ws[i]?.getD 0) r k)) = maskR ws size cols r i (k + 1) := by
  apply List.ext_getElem
  · simp [overL, maskR]; omega
  · intro c h1 h2
    have hcc : c < cols := by simpa [maskR] using h2
    obtain ⟨u, hu⟩ : ∃ u, u = c / size := ⟨_, rfl⟩
    by_cases hlo : c < size * (4 * i + k)
    · have hne : u < 4 * i + k := by rw [hu]; exact Nat.div_lt_of_lt_mul hlo
      have e1 : (overL (maskR ws size cols r i k) (size * (4 * i + k)) (List.replicate size (gbit (ws[i]?.getD 0) r k)))[c]? = some (maskB ws size r i k c) := by
        unfold overL
        rw [List.append_assoc, List.getElem?_append_left (by simp [maskR]; omega), List.getElem?_take_of_lt hlo]
        simp [maskR, hcc]
      have e2 := List.getElem?_eq_getElem h1
      rw [e1, Option.some.injEq] at e2
      rw [← e2]
      simp only [maskR, List.getElem_map, List.getElem_range]
      unfold maskB
      rw [← hu]
      congr 1
      rw [Bool.eq_iff_iff]
      simp only [Bool.and_eq_true, Bool.or_eq_true, decide_eq_true_eq]
      omega
    · by_cases hhi : c < size * (4 * i + k) + size
      · have hue : u = 4 * i + k := by rw [hu]; exact (div_block hs).2 ⟨by omega, hhi⟩
        have e1 : (overL (maskR ws size cols r i k) (size * (4 * i + k)) (List.replicate size (gbit (ws[i]?.getD 0) r k)))[c]? = some (gbit (ws[i]?.getD 0) r k) := by
          unfold overL
          have hl : ((maskR ws size cols r i k).take (size * (4 * i + k))).length = size * (4 * i + k) := by simp [maskR]; omega
          rw [List.append_assoc, List.getElem?_append_right (by rw [hl]; omega), hl, List.getElem?_append_left (by simp; omega), List.getElem?_replicate, if_pos (by omega)]
        have e2 := List.getElem?_eq_getElem h1
        rw [e1, Option.some.injEq] at e2
        rw [← e2]
        simp only [maskR, List.getElem_map, List.getElem_range]
        unfold maskB
        rw [← hu, hue, show (4 * i + k) % 4 = k by omega, show (4 * i + k) / 4 = i by omega]
        simp [hk]
      · have hne : 4 * i + k < u := by
          rw [hu]
          have := (Nat.le_div_iff_mul_le hs (x := 4 * i + k + 1) (y := c)).2 (by rw [Nat.mul_comm, Nat.mul_add]; omega)
          omega
        have e1 : (overL (maskR ws size cols r i k) (size * (4 * i + k)) (List.replicate size (gbit (ws[i]?.getD 0) r k)))[c]? = some (maskB ws size r i k c) := by
          unfold overL
          have hl : ((maskR ws size cols r i k).take (size * (4 * i + k)) ++ List.replicate size (gbit (ws[i]?.getD 0) r k)).length = size * (4 * i + k) + size := by simp [maskR]; omega
          rw [List.getElem?_append_right (by rw [hl]; omega), hl, List.getElem?_drop, List.length_replicate, show size * (4 * i + k) + size + (c - (size * (4 * i + k) + size)) = c by omega]
          simp [maskR, hcc]
        have e2 := List.getElem?_eq_getElem h1
        rw [e1, Option.some.injEq] at e2
        rw [← e2]
        simp only [maskR, List.getElem_map, List.getElem_range]
        unfold maskB
        rw [← hu]
        congr 1
        rw [Bool.eq_iff_iff]
        simp only [Bool.and_eq_true, Bool.or_eq_true, decide_eq_true_eq]
        omega
/-- The whole mask at a cell's columns. -/
theorem maskB_at {ws : List Nat} {size r i k j : Nat} (hi : i < ws.length) (hk : k < 3) (hj : j < size) : maskB ws size r ws.length 0 (size * (4 * i + k) + j) = gbit ws[i] r k := by
  have hu : (size * (4 * i + k) + j) / size = 4 * i + k := (div_block (by omega)).2 ⟨by omega, by omega⟩
  unfold maskB
  rw [hu, show (4 * i + k) % 4 = k by omega, show (4 * i + k) / 4 = i by omega, List.getElem?_eq_getElem hi]
  simp [hk, hi]
/-- The number of a glyph, cell by cell. -/
def numTo (n : Nat) : Nat → Nat
  | 0 => 0
  | t + 1 => 2 * numTo n t + if gbit n (t / 3) (t % 3) then 1 else 0
theorem numTo_eq {n : Nat} (h : n < 2 ^ 15) : ∀ t, t ≤ 15 → numTo n t = n / 2 ^ (15 - t)
  | 0, _ => by rw [numTo, Nat.sub_zero, Nat.div_eq_of_lt h]
  | t + 1, ht => by
    rw [numTo, numTo_eq h t (by omega), gbit, show 3 * (t / 3) + t % 3 = t by omega]
    have e : 2 ^ (15 - t) = 2 ^ (14 - t) * 2 := by rw [show 15 - t = (14 - t) + 1 by omega, Nat.pow_succ]
    rw [e, ← Nat.div_div_eq_div_mul, show 15 - (t + 1) = 14 - t by omega]
    generalize n / 2 ^ (14 - t) = z
    by_cases hz : z % 2 = 1
    · rw [if_pos (decide_eq_true hz)]; omega
    · rw [if_neg (by simp [hz])]; omega
theorem numTo_all {n : Nat} (h : n < 2 ^ 15) : numTo n 15 = n := by
  rw [numTo_eq h 15 (Nat.le_refl _)]
  simp
/-- The glyph's cells while they are read off a number: n after s shifts. -/
theorem gbit_shift {n r k : Nat} : gbit n r k = decide ((n / 2 ^ (14 - (3 * r + k))) % 2 = 1) := rfl
end
end Go.Proofs.Ytkjgcmdabelohaa
