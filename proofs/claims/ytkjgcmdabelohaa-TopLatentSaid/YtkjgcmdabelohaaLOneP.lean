/- Shades in plain Lean: from 0 to 1, in order, along the normal, multiples, turned. No program. -/
import Derived.Test.YtkjgcmdabelohaaLTools
namespace Go.Proofs.Ytkjgcmdabelohaa
section
/-- A fraction in lowest terms, from 0 to 1, with a small denominator. -/
structure FracIs (n d : Int) : Prop where
  n0 : 0 ≤ n
  nd : n ≤ d
  d1 : 1 ≤ d
  d2 : d ≤ 1000000000
  g : Int.gcd n d = 1
theorem sq_nonneg (a : Int) : 0 ≤ a * a := by
  rcases Int.le_total 0 a with h | h
  · exact Int.mul_nonneg h h
  · exact Int.mul_nonneg_of_nonpos_of_nonpos h h
theorem sq_zero {a : Int} (h : a * a = 0) : a = 0 := by
  rcases Int.mul_eq_zero.1 h with h | h <;> exact h
/-- Lagrange's identity. -/
theorem along_den (tx ty p lx ly lz : Int) : denOf tx ty p lx ly lz - alongOf tx ty p lx ly lz * alongOf tx ty p lx ly lz = (tx * ly - ty * lx) * (tx * ly - ty * lx) + (tx * lz + 2 * p * lx) * (tx * lz + 2 * p * lx) + (ty * lz + 2 * p * ly) * (ty * lz + 2 * p * ly) := by
  unfold denOf alongOf
  grind
theorem along_le (tx ty p lx ly lz : Int) : alongOf tx ty p lx ly lz * alongOf tx ty p lx ly lz ≤ denOf tx ty p lx ly lz := by
  have h := along_den tx ty p lx ly lz
  have a := sq_nonneg (tx * ly - ty * lx)
  have b := sq_nonneg (tx * lz + 2 * p * lx)
  have c := sq_nonneg (ty * lz + 2 * p * ly)
  omega
theorem den_pos {tx ty p lx ly lz : Int} (hp : 1 ≤ p) (hz : 1 ≤ lz) : 0 < denOf tx ty p lx ly lz := by
  unfold denOf
  have a := sq_nonneg tx
  have b := sq_nonneg ty
  have c : 0 < p * p := Int.mul_pos (by omega) (by omega)
  have d := sq_nonneg lx
  have e := sq_nonneg ly
  have f : 0 < lz * lz := Int.mul_pos (by omega) (by omega)
  have h : 4 * p * p = 4 * (p * p) := by grind
  rw [h]
  exact Int.mul_pos (by omega) (by omega)
theorem den_le {tx ty p lx ly lz : Int} (ht : tiltB tx ty = true) (hp : inB 1 100 p = true) (hl : lightB lx ly lz = true) : denOf tx ty p lx ly lz ≤ 1000000000 := by
  unfold tiltB at ht
  unfold lightB at hl
  rw [Bool.and_eq_true, inB_iff, inB_iff] at ht
  rw [Bool.and_eq_true, Bool.and_eq_true, inB_iff, inB_iff, inB_iff] at hl
  rw [inB_iff] at hp
  have a := sq_bd (a := tx) (A := 400) (by omega) (by omega)
  have b := sq_bd (a := ty) (A := 400) (by omega) (by omega)
  have c := sq_bd (a := p) (A := 100) (by omega) (by omega)
  have d := sq_bd (a := lx) (A := 30) (by omega) (by omega)
  have e := sq_bd (a := ly) (A := 30) (by omega) (by omega)
  have f := sq_bd (a := lz) (A := 30) (by omega) (by omega)
  unfold denOf
  have h : 4 * p * p = 4 * (p * p) := by grind
  rw [h]
  have := (mul_bd (a := tx * tx + ty * ty + 4 * (p * p)) (b := lx * lx + ly * ly + lz * lz) (A := 360000) (B := 2700) (by omega) (by omega) (by omega) (by omega)).2
  omega
theorem gcd_quo {a b : Int} (hb : 0 < b) : Int.gcd (a / (Int.gcd a b : Int)) (b / (Int.gcd a b : Int)) = 1 := by
  have hg : 0 < Int.gcd a b := Int.gcd_pos_of_ne_zero_right a (by omega)
  exact Int.gcd_ediv_gcd_ediv_gcd hg
theorem frac_of {a b : Int} (h0 : 0 ≤ a) (h1 : a ≤ b) (hb : 0 < b) (h2 : b ≤ 1000000000) : FracIs (a / (Int.gcd a b : Int)) (b / (Int.gcd a b : Int)) := by
  have hg : (0 : Int) < (Int.gcd a b : Int) := by
    have := Int.gcd_pos_of_ne_zero_right a (b := b) (by omega)
    omega
  have ha := Int.mul_ediv_cancel' (Int.gcd_dvd_left a b)
  have hb' := Int.mul_ediv_cancel' (Int.gcd_dvd_right a b)
  refine ⟨Int.ediv_nonneg h0 (Int.le_of_lt hg), Int.ediv_le_ediv hg h1, ?_, ?_, gcd_quo hb⟩
  · have : 0 < b / (Int.gcd a b : Int) := by
      apply Int.pos_of_mul_pos_right (a := (Int.gcd a b : Int)) _ hg
      rw [hb']
      exact hb
    omega
  · exact Int.le_trans (Int.ediv_le_self _ (by omega)) h2
theorem frac_zero : FracIs 0 1 := ⟨by decide, by decide, by decide, by decide, rfl⟩
theorem shade_frac {tx ty p lx ly lz : Int} (ht : tiltB tx ty = true) (hp : inB 1 100 p = true) (hl : lightB lx ly lz = true) : FracIs (shadeN tx ty p lx ly lz) (shadeD tx ty p lx ly lz) := by
  have h1 := den_le ht hp hl
  have h2 : 1 ≤ p := (inB_iff.1 hp).1
  have h3 : 1 ≤ lz := by
    unfold lightB at hl
    rw [Bool.and_eq_true, inB_iff (lo := 1)] at hl
    exact hl.2.1
  have h4 := den_pos (tx := tx) (ty := ty) (lx := lx) (ly := ly) h2 h3
  unfold shadeN shadeD
  by_cases h : alongOf tx ty p lx ly lz ≤ 0
  · rw [if_pos h, if_pos h]
    exact frac_zero
  · rw [if_neg h, if_neg h]
    exact frac_of (sq_nonneg _) (along_le ..) h4 h1
theorem dvd_of_gcd {a b c : Int} (h : Int.gcd a b = 1) (hd : b ∣ a * c) : b ∣ c := by
  have h1 := Int.natAbs_dvd_natAbs.2 hd
  rw [Int.natAbs_mul] at h1
  have h2 : Nat.Coprime b.natAbs a.natAbs := by
    rw [Nat.coprime_comm]
    exact h
  exact Int.natAbs_dvd_natAbs.1 (h2.dvd_of_dvd_mul_left h1)
/-- Fractions in lowest terms that are equal are the same. -/
theorem frac_eq {a b c d : Int} (h : FracIs a b) (k : FracIs c d) (e : a * d = c * b) : a = c ∧ b = d := by
  have h1 : b ∣ d := by
    have : b ∣ a * d := ⟨c, by rw [e, Int.mul_comm]⟩
    exact dvd_of_gcd h.g this
  have h2 : d ∣ b := by
    have : d ∣ c * b := ⟨a, by rw [← e, Int.mul_comm]⟩
    exact dvd_of_gcd k.g this
  have hbd : b = d := by
    have a1 := Int.le_of_dvd (by have := k.d1; omega) h1
    have a2 := Int.le_of_dvd (by have := h.d1; omega) h2
    omega
  refine ⟨?_, hbd⟩
  subst hbd
  exact Int.eq_of_mul_eq_mul_right (by have := h.d1; omega) e
theorem FracIs.shaped {n d : Int} (h : FracIs n d) : shapedB n d = true := by
  unfold shapedB
  rw [Bool.and_eq_true, inB_iff, inB_iff]
  exact ⟨⟨h.d1, h.d2⟩, h.n0, h.nd⟩
theorem compare_frac {a b c d : Int} (h : FracIs a b) (k : FracIs c d) : compareOf a b c d = if a * d < c * b then -1 else if c * b < a * d then 1 else 0 := by
  unfold compareOf
  rw [h.shaped, k.shaped]
  rfl
theorem compare_le {a b c d : Int} (h : FracIs a b) (k : FracIs c d) : compareOf a b c d ≤ 0 ↔ a * d ≤ c * b := by
  rw [compare_frac h k]
  by_cases h1 : a * d < c * b
  · rw [if_pos h1]
    constructor <;> intro <;> omega
  · rw [if_neg h1]
    by_cases h2 : c * b < a * d
    · rw [if_pos h2]
      constructor <;> intro <;> omega
    · rw [if_neg h2]
      constructor <;> intro <;> omega
theorem compare_neg {a b c d : Int} (h : FracIs a b) (k : FracIs c d) : compareOf a b c d = -compareOf c d a b := by
  rw [compare_frac h k, compare_frac k h]
  split
  · rename_i h1
    rw [if_neg (by omega)]
  · rename_i h1
    split
    · rfl
    · rfl
theorem compare_zero {a b c d : Int} (h : FracIs a b) (k : FracIs c d) : compareOf a b c d = 0 ↔ a = c ∧ b = d := by
  rw [compare_frac h k]
  constructor
  · intro he
    by_cases h1 : a * d < c * b
    · rw [if_pos h1] at he
      cases he
    · rw [if_neg h1] at he
      by_cases h2 : c * b < a * d
      · rw [if_pos h2] at he
        cases he
      · exact frac_eq h k (by omega)
  · rintro ⟨rfl, rfl⟩
    rw [if_neg (by omega), if_neg (by omega)]
theorem le_trans3 {a b c d e f : Int} (hb : 0 < b) (hd : 0 < d) (hf : 0 < f) (h1 : a * d ≤ c * b) (h2 : c * f ≤ e * d) : a * f ≤ e * b := by
  have a1 : a * d * f ≤ c * b * f := Int.mul_le_mul_of_nonneg_right h1 (by omega)
  have a2 : c * f * b ≤ e * d * b := Int.mul_le_mul_of_nonneg_right h2 (by omega)
  have a3 : d * (a * f) ≤ d * (e * b) := by
    have e1 : d * (a * f) = a * d * f := by grind
    have e2 : d * (e * b) = e * d * b := by grind
    have e3 : c * b * f = c * f * b := by grind
    omega
  exact Int.le_of_mul_le_mul_left a3 hd
theorem compare_trans {a b c d e f : Int} (h : FracIs a b) (k : FracIs c d) (m : FracIs e f) (h1 : compareOf a b c d ≤ 0) (h2 : compareOf c d e f ≤ 0) : compareOf a b e f ≤ 0 := by
  rw [compare_le h k] at h1
  rw [compare_le k m] at h2
  rw [compare_le h m]
  have := h.d1
  have := k.d1
  have := m.d1
  exact le_trans3 (by omega) (by omega) (by omega) h1 h2
theorem frac_one {n d : Int} (h : FracIs n d) (e : n = d) : n = 1 ∧ d = 1 := by
  have := frac_eq h (c := 1) (d := 1) ⟨by decide, by decide, by decide, by decide, rfl⟩ (by omega)
  exact this
theorem one_frac : FracIs 1 1 := ⟨by decide, by decide, by decide, by decide, rfl⟩
/-- A shade is 1 just if the light is along the normal. -/
theorem shade_one {tx ty p lx ly lz : Int} (hp : inB 1 100 p = true) (hl : lightB lx ly lz = true) : (shadeN tx ty p lx ly lz = 1 ∧ shadeD tx ty p lx ly lz = 1) ↔ (-tx * lz = 2 * p * lx ∧ -ty * lz = 2 * p * ly) := by
  have h2 : 1 ≤ p := (inB_iff.1 hp).1
  have h3 : 1 ≤ lz := by
    unfold lightB at hl
    rw [Bool.and_eq_true, inB_iff (lo := 1)] at hl
    exact hl.2.1
  have hL := along_den tx ty p lx ly lz
  have h4 := den_pos (tx := tx) (ty := ty) (lx := lx) (ly := ly) h2 h3
  have hd1 := Int.gcd_dvd_left (alongOf tx ty p lx ly lz * alongOf tx ty p lx ly lz) (denOf tx ty p lx ly lz)
  have hd2 := Int.gcd_dvd_right (alongOf tx ty p lx ly lz * alongOf tx ty p lx ly lz) (denOf tx ty p lx ly lz)
  have e1 := Int.mul_ediv_cancel' hd1
  have e2 := Int.mul_ediv_cancel' hd2
  constructor
  · rintro ⟨hn, hdd⟩
    unfold shadeN at hn
    unfold shadeD at hdd
    split at hn
    · cases hn
    · rename_i h
      rw [if_neg h] at hdd
      rw [hn] at e1
      rw [hdd] at e2
      have he : alongOf tx ty p lx ly lz * alongOf tx ty p lx ly lz = denOf tx ty p lx ly lz := e1.symm.trans e2
      have a := sq_nonneg (tx * ly - ty * lx)
      have b := sq_nonneg (tx * lz + 2 * p * lx)
      have c := sq_nonneg (ty * lz + 2 * p * ly)
      have b0 := sq_zero (a := tx * lz + 2 * p * lx) (by omega)
      have c0 := sq_zero (a := ty * lz + 2 * p * ly) (by omega)
      exact ⟨by rw [Int.neg_mul]; omega, by rw [Int.neg_mul]; omega⟩
  · rintro ⟨h5, h6⟩
    rw [Int.neg_mul] at h5 h6
    have b0 : tx * lz + 2 * p * lx = 0 := by omega
    have c0 : ty * lz + 2 * p * ly = 0 := by omega
    have a0 : tx * ly - ty * lx = 0 := by
      have h7 : 2 * p * (tx * ly - ty * lx) = 0 := by
        have e3 : 2 * p * (tx * ly - ty * lx) = tx * (ty * lz + 2 * p * ly) - ty * (tx * lz + 2 * p * lx) := by grind
        rw [e3, b0, c0, Int.mul_zero, Int.mul_zero]
        rfl
      rcases Int.mul_eq_zero.1 h7 with h | h
      · omega
      · exact h
    rw [a0, b0, c0] at hL
    have he : denOf tx ty p lx ly lz = alongOf tx ty p lx ly lz * alongOf tx ty p lx ly lz := by omega
    have hpos : 0 < alongOf tx ty p lx ly lz := by
      have h8 : lz * alongOf tx ty p lx ly lz = 2 * p * (lx * lx + ly * ly + lz * lz) := by
        unfold alongOf
        have e3 : lz * (2 * p * lz - lx * tx - ly * ty) = 2 * p * (lz * lz) - lx * (tx * lz) - ly * (ty * lz) := by grind
        have e4 : tx * lz = -(2 * p * lx) := by omega
        have e5 : ty * lz = -(2 * p * ly) := by omega
        rw [e3, e4, e5]
        grind
      have h9 : 0 < 2 * p * (lx * lx + ly * ly + lz * lz) := by
        have := sq_nonneg lx
        have := sq_nonneg ly
        have : 0 < lz * lz := Int.mul_pos (by omega) (by omega)
        exact Int.mul_pos (by omega) (by omega)
      rw [← h8] at h9
      exact Int.pos_of_mul_pos_right h9 (by omega)
    have hne : ¬ alongOf tx ty p lx ly lz ≤ 0 := by omega
    unfold shadeN shadeD
    rw [if_neg hne, if_neg hne, he, Int.gcd_self]
    rw [he] at h4
    have hab : ((alongOf tx ty p lx ly lz * alongOf tx ty p lx ly lz).natAbs : Int) = alongOf tx ty p lx ly lz * alongOf tx ty p lx ly lz := by omega
    rw [hab, Int.ediv_self (by omega)]
    exact ⟨rfl, rfl⟩
/-- A multiple of the light gives the same. -/
theorem quo_scale {a b c : Int} (hc : 0 < c) : c * a / (Int.gcd (c * a) (c * b) : Int) = a / (Int.gcd a b : Int) ∧ c * b / (Int.gcd (c * a) (c * b) : Int) = b / (Int.gcd a b : Int) := by
  have hg : ((Int.gcd (c * a) (c * b) : Nat) : Int) = c * (Int.gcd a b : Int) := by
    rw [Int.gcd_mul_left, Int.natCast_mul]
    congr 1
    omega
  rw [hg]
  exact ⟨Int.mul_ediv_mul_of_pos _ _ hc, Int.mul_ediv_mul_of_pos _ _ hc⟩
theorem shade_times {tx ty p lx ly lz t : Int} (ht : 1 ≤ t) : shadeN tx ty p (t * lx) (t * ly) (t * lz) = shadeN tx ty p lx ly lz ∧ shadeD tx ty p (t * lx) (t * ly) (t * lz) = shadeD tx ty p lx ly lz := by
  have h1 : alongOf tx ty p (t * lx) (t * ly) (t * lz) = t * alongOf tx ty p lx ly lz := by
    unfold alongOf
    grind
  have h2 : denOf tx ty p (t * lx) (t * ly) (t * lz) = t * t * denOf tx ty p lx ly lz := by
    unfold denOf
    grind
  have htt : 0 < t * t := Int.mul_pos (by omega) (by omega)
  unfold shadeN shadeD
  rw [h1, h2]
  by_cases h : alongOf tx ty p lx ly lz ≤ 0
  · have h5 : t * alongOf tx ty p lx ly lz ≤ 0 := Int.mul_nonpos_of_nonneg_of_nonpos (by omega) h
    rw [if_pos h, if_pos h, if_pos h5, if_pos h5]
    exact ⟨rfl, rfl⟩
  · have h5 : ¬ t * alongOf tx ty p lx ly lz ≤ 0 := by
      have := Int.mul_pos (a := t) (b := alongOf tx ty p lx ly lz) (by omega) (by omega)
      omega
    rw [if_neg h, if_neg h, if_neg h5, if_neg h5]
    have e : t * alongOf tx ty p lx ly lz * (t * alongOf tx ty p lx ly lz) = t * t * (alongOf tx ty p lx ly lz * alongOf tx ty p lx ly lz) := by grind
    rw [e]
    exact quo_scale htt
/-- Tilts (t, 0) and (0, t) are equally bright where the light's X and Y are equal. -/
theorem shade_even (t p x z : Int) : shadeN t 0 p x x z = shadeN 0 t p x x z ∧ shadeD t 0 p x x z = shadeD 0 t p x x z := by
  have h1 : alongOf t 0 p x x z = alongOf 0 t p x x z := by
    unfold alongOf
    grind
  have h2 : denOf t 0 p x x z = denOf 0 t p x x z := by
    unfold denOf
    grind
  unfold shadeN shadeD
  rw [h1, h2]
  exact ⟨rfl, rfl⟩
/-- What is turned by a quarter, or mirrored, looks the same. -/
theorem shade_turn (tx ty p lx ly lz : Int) : shadeN (-ty) tx p (-ly) lx lz = shadeN tx ty p lx ly lz ∧ shadeD (-ty) tx p (-ly) lx lz = shadeD tx ty p lx ly lz := by
  have h1 : alongOf (-ty) tx p (-ly) lx lz = alongOf tx ty p lx ly lz := by
    unfold alongOf
    grind
  have h2 : denOf (-ty) tx p (-ly) lx lz = denOf tx ty p lx ly lz := by
    unfold denOf
    grind
  unfold shadeN shadeD
  rw [h1, h2]
  exact ⟨rfl, rfl⟩
theorem shade_mirror (tx ty p lx ly lz : Int) : shadeN (-tx) ty p (-lx) ly lz = shadeN tx ty p lx ly lz ∧ shadeD (-tx) ty p (-lx) ly lz = shadeD tx ty p lx ly lz := by
  have h1 : alongOf (-tx) ty p (-lx) ly lz = alongOf tx ty p lx ly lz := by
    unfold alongOf
    grind
  have h2 : denOf (-tx) ty p (-lx) ly lz = denOf tx ty p lx ly lz := by
    unfold denOf
    grind
  unfold shadeN shadeD
  rw [h1, h2]
  exact ⟨rfl, rfl⟩
end
end Go.Proofs.Ytkjgcmdabelohaa
