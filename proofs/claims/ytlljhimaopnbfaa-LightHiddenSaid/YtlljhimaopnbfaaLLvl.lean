/- light.Levels and the reference's. Condition: the slice reads as a list. -/
import Derived.Test.YtlljhimaopnbfaaLRm
namespace Go.Proofs.Ytlljhimaopnbfaa
open Go.RowKit Go.Shelf

attribute [local go_sem] Oper.semAt_some

theorem shade_bd {tx ty p lx ly lz : Int} (ht1 : -400 ≤ tx) (ht2 : tx ≤ 400) (ht3 : -400 ≤ ty) (ht4 : ty ≤ 400) (hp1 : 1 ≤ p) (hp2 : p ≤ 100)
    (hl1 : -30 ≤ lx) (hl2 : lx ≤ 30) (hl3 : -30 ≤ ly) (hl4 : ly ≤ 30) (hl5 : 1 ≤ lz) (hl6 : lz ≤ 30) :
    (0 ≤ shadeN tx ty p lx ly lz ∧ shadeN tx ty p lx ly lz ≤ 1000000000) ∧ 1 ≤ shadeD tx ty p lx ly lz ∧ shadeD tx ty p lx ly lz ≤ 1000000000 := by
  obtain ⟨ha1, ha2⟩ := abs_mul_bd (b := tx) (B := 400) hl1 hl2 (by omega) (by omega)
  obtain ⟨hb1, hb2⟩ := abs_mul_bd (b := ty) (B := 400) hl3 hl4 (by omega) (by omega)
  obtain ⟨hc1, hc2⟩ := mul_bd (a := 2 * p) (A := 200) (by omega) (by omega) (by omega : 0 ≤ lz) hl6
  obtain ⟨hd1, hd2⟩ := sq_bd ht1 ht2
  obtain ⟨he1, he2⟩ := sq_bd ht3 ht4
  obtain ⟨hf1, hf2⟩ := mul_bd (a := 4 * p) (A := 400) (by omega) (by omega) (by omega : 0 ≤ p) hp2
  obtain ⟨hg1, hg2⟩ := sq_bd hl1 hl2
  obtain ⟨hh1, hh2⟩ := sq_bd hl3 hl4
  obtain ⟨hi1, hi2⟩ := sq_bd (a := lz) (A := 30) (by omega) hl6
  obtain ⟨hal1, hal2⟩ := sq_bd (a := alongOf tx ty p lx ly lz) (A := 30000) (by unfold alongOf; omega) (by unfold alongOf; omega)
  have hn0 : 1 ≤ 4 * p * p := by
    have := Int.mul_le_mul (show (1 : Int) ≤ 4 * p by omega) hp1 (by decide) (by omega)
    omega
  have hm0 : 1 ≤ lz * lz := by
    have := Int.mul_le_mul hl5 hl5 (by decide) (by omega)
    omega
  have hnm := mul_bd (a := tx * tx + ty * ty + 4 * p * p) (b := lx * lx + ly * ly + lz * lz) (A := 360000) (B := 2700) (by omega) (by omega) (by omega) (by omega)
  have hnm1 : 1 ≤ (tx * tx + ty * ty + 4 * p * p) * (lx * lx + ly * ly + lz * lz) := by
    have := Int.mul_le_mul (show (1 : Int) ≤ tx * tx + ty * ty + 4 * p * p by omega) (show (1 : Int) ≤ lx * lx + ly * ly + lz * lz by omega) (by decide) (by omega)
    omega
  unfold shadeN shadeD
  split
  · omega
  · have hde : denOf tx ty p lx ly lz = (tx * tx + ty * ty + 4 * p * p) * (lx * lx + ly * ly + lz * lz) := rfl
    have hg : 1 ≤ (Int.gcd (alongOf tx ty p lx ly lz * alongOf tx ty p lx ly lz) (denOf tx ty p lx ly lz) : Int) := by
      have := Int.gcd_pos_of_ne_zero_right (alongOf tx ty p lx ly lz * alongOf tx ty p lx ly lz) (show denOf tx ty p lx ly lz ≠ 0 by rw [hde]; omega)
      omega
    have hdv : (Int.gcd (alongOf tx ty p lx ly lz * alongOf tx ty p lx ly lz) (denOf tx ty p lx ly lz) : Int) ∣ denOf tx ty p lx ly lz := Int.gcd_dvd_right _ _
    rw [← hde] at hnm hnm1
    generalize (Int.gcd (alongOf tx ty p lx ly lz * alongOf tx ty p lx ly lz) (denOf tx ty p lx ly lz) : Int) = g at *
    have q1 := Int.ediv_nonneg hal1 (show 0 ≤ g by omega)
    have q2 := Int.ediv_le_self g hal1
    have q4 := Int.ediv_le_self g hnm.1
    have q5 : 1 ≤ denOf tx ty p lx ly lz / g := by
      obtain ⟨k, hk⟩ := hdv
      rw [hk, Int.mul_ediv_cancel_left _ (by omega)]
      rcases Int.lt_or_le k 1 with h | h
      · have : g * k ≤ 0 := Int.mul_nonpos_of_nonneg_of_nonpos (by omega) (by omega)
        omega
      · exact h
    omega

def levelOf (n : Int) (s : Int × Int) : Int := min (n * s.1 / s.2) (n - 1)
theorem level_is {n a b : Int} (hn : 1 ≤ n) (hb : 1 ≤ b) : levelOf n (a, b) = if a < b then n * a / b else n - 1 := by
  unfold levelOf
  simp only
  split
  · have h1 : n * a / b < n := Int.ediv_lt_of_lt_mul (by omega) (Int.mul_lt_mul_of_pos_left (by assumption) (by omega))
    omega
  · have h1 : n ≤ n * a / b := by
      rw [Int.le_ediv_iff_mul_le (by omega)]
      exact Int.mul_le_mul_of_nonneg_left (by omega) (by omega)
    omega
end Go.Proofs.Ytlljhimaopnbfaa
