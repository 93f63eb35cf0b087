/- LightCarved in plain Lean: a point that is carved lies near a cut. No program. -/
import Derived.Test.YtlljhimaopnbfaaLCarP
import Derived.Test.YtlljhimaopnbfaaLX
namespace Go.Proofs.Ytlljhimaopnbfaa
section
theorem dist_farL {xs ys : List (Int × Int)} (hx : lineB xs = true) (hy : lineB ys = true) : ∃ g : Int, 1 ≤ g ∧ (farL xs ys).1 = (distP xs ys).1 * g ∧ (farL xs ys).2 = (distP xs ys).2 * g := by
  have h := (far_eq (lineB_co hx) (lineB_co hy)).1
  obtain ⟨e, -, -⟩ := dist_bd hx hy
  rw [e]
  have d0 := h.d0
  generalize (farL xs ys).1 = n at *
  generalize (farL xs ys).2 = d at *
  have hg : 0 < (Int.gcd n d : Int) := by
    have : Int.gcd n d ≠ 0 := fun e => by
      rw [Int.gcd_eq_zero_iff] at e
      omega
    omega
  exact ⟨(Int.gcd n d : Int), by omega, (Int.ediv_mul_cancel (Int.gcd_dvd_left n d)).symm, (Int.ediv_mul_cancel (Int.gcd_dvd_right n d)).symm⟩
theorem half_den {tip num den d : Int} (hd : 1 ≤ den) : tip * den + d * num ≤ halfOf tip num den d * den := by
  unfold halfOf
  have h1 := Int.mul_ediv_add_emod (d * num + den - 1) den
  have h2 := Int.emod_lt_of_pos (d * num + den - 1) (show 0 < den by omega)
  rw [Int.add_mul, Int.mul_comm ((d * num + den - 1) / den)]
  omega
theorem half_bd {tip num den d : Int} (t1 : 0 ≤ tip) (t2 : tip ≤ 100) (n1 : 1 ≤ num) (nd : num ≤ den) (d1 : 1 ≤ den) (h1 : 0 ≤ d) (h2 : d ≤ 100) : 0 ≤ halfOf tip num den d ∧ halfOf tip num den d ≤ 300 := by
  unfold halfOf
  have a1 := Int.mul_nonneg h1 (show 0 ≤ num by omega)
  have a2 : d * num ≤ d * den := Int.mul_le_mul_of_nonneg_left nd h1
  have a3 : d * den ≤ 100 * den := Int.mul_le_mul_of_nonneg_right h2 (by omega)
  have a4 := Int.ediv_nonneg (show 0 ≤ d * num + den - 1 by omega) (show 0 ≤ den by omega)
  have a5 : (d * num + den - 1) / den ≤ 101 := by
    have : (d * num + den - 1) / den < 102 := Int.ediv_lt_of_lt_mul (by omega) (by omega)
    omega
  omega
/-- A cut that is deep at a spot is near it. -/
theorem near_deep {k : WkT} {c : CutT} {s : Int × Int} (hb : toolB k.tip k.num k.den k.bite k.slack = true) (hs : lineB [s] = true) (hc : lineB c.1 = true) (h : 0 < deepC k c s) : nearB [s] c.1 (halfOf k.tip k.num k.den (hiC k c) + 1) = true := by
  obtain ⟨⟨t1, t2⟩, ⟨n1, n2⟩, ⟨d1, d2⟩, hnd, -, -⟩ := toolB_iff.1 hb
  obtain ⟨i, hi, hf, -⟩ := dep_pos h
  unfold profC at hi hf
  rw [profL_at] at hf
  rw [profL_len] at hi
  obtain ⟨g, hg, e1, e2⟩ := dist_farL hs hc
  obtain ⟨-, ⟨q0, -⟩, q1, -⟩ := dist_bd hs hc
  unfold nearB
  rw [decide_eq_true_eq, e1, e2]
  unfold fitB at hf
  rw [decide_eq_true_eq] at hf
  have hh := half_den (tip := k.tip) (num := k.num) (d := hiC k c) d1
  have f0 : 0 ≤ farAt k.tip k.num k.den i := by
    unfold farAt
    have a1 := Int.mul_nonneg t1 (show 0 ≤ k.den by omega)
    have a2 := Int.mul_nonneg (Int.natCast_nonneg i) (show 0 ≤ k.num by omega)
    omega
  have f1 : farAt k.tip k.num k.den i ≤ halfOf k.tip k.num k.den (hiC k c) * k.den := by
    unfold farAt
    have a2 : (i : Int) * k.num ≤ hiC k c * k.num := Int.mul_le_mul_of_nonneg_right (by omega) (by omega)
    omega
  have hR : 0 ≤ halfOf k.tip k.num k.den (hiC k c) := by
    by_cases hR : 0 ≤ halfOf k.tip k.num k.den (hiC k c)
    · exact hR
    · have := Int.mul_le_mul_of_nonneg_right (show halfOf k.tip k.num k.den (hiC k c) ≤ -1 by omega) (show 0 ≤ k.den by omega)
      omega
  generalize halfOf k.tip k.num k.den (hiC k c) = R at *
  generalize farAt k.tip k.num k.den i = F at *
  generalize (distP [s] c.1).1 = A at *
  generalize (distP [s] c.1).2 = B at *
  generalize k.den = D at *
  have s1 : F * F ≤ (R * D) * (R * D) := Int.mul_le_mul f1 f1 f0 (by omega)
  have s2 : F * F * B ≤ (R * D) * (R * D) * B := Int.mul_le_mul_of_nonneg_right s1 (by omega)
  have s3 : A * (D * D) ≤ (R * R * B) * (D * D) := by
    have : (R * D) * (R * D) * B = (R * R * B) * (D * D) := by
      simp only [Int.mul_comm, Int.mul_left_comm]
    omega
  have hDD : 0 < D * D := Int.mul_pos (by omega) (by omega)
  have s4 : A ≤ R * R * B := Int.le_of_mul_le_mul_right s3 hDD
  have s5 : R * R * B < (R + 1) * (R + 1) * B := Int.mul_lt_mul_of_pos_right (by
    rw [Int.add_mul, Int.mul_add]
    omega) (by omega)
  have s6 : A * g < (R + 1) * (R + 1) * B * g := Int.mul_lt_mul_of_pos_right (by omega) (by omega)
  rw [← Int.mul_assoc]
  exact s6
theorem deepUp_mem {k : WkT} {s : Int × Int} : ∀ {j : Nat}, j ≤ k.cuts.length → 0 < deepUp k s j → ∃ (q : Nat) (hq : q < k.cuts.length), q < j ∧ deepC k k.cuts[q] s = deepUp k s j
  | 0, _, h => absurd h (by simp [deepUp])
  | j + 1, hj, h => by
    rw [deepUp_step (by omega)] at h ⊢
    by_cases hm : deepUp k s j ≤ deepC k k.cuts[j] s
    · exact ⟨j, by omega, by omega, by omega⟩
    · obtain ⟨q, hq, hqj, e⟩ := deepUp_mem (k := k) (s := s) (j := j) (by omega) (by omega)
      exact ⟨q, hq, by omega, by omega⟩
/-- What is carved is a surface. -/
theorem carve_surf {k : WkT} {fx fy p : Int} {W H : Nat} (h : carveE k fx fy p W H = 0) : surfE W H p (carvL k fx fy p W H) = 0 := by
  obtain ⟨-, ha, hl, -⟩ := carveE_zero.1 h
  obtain ⟨-, -, ⟨a5, a6⟩, ⟨a7, a8⟩, a9, a10⟩ := argsB_iff.1 ha
  unfold surfE
  rw [if_pos]
  unfold surfB
  simp only [Bool.and_eq_true, inB_iff, decide_eq_true_eq]
  refine ⟨⟨⟨⟨⟨a7, a8⟩, a9, a10⟩, a5, a6⟩, by simp [carvL]⟩, ?_⟩
  unfold allB
  rw [List.all_eq_true]
  intro x hx
  unfold carvL at hx
  rw [List.mem_map] at hx
  obtain ⟨i, -, rfl⟩ := hx
  have := deepUp_le (k := k) (s := pointC fx fy p W i) hl (j := k.cuts.length) (Nat.le_refl _)
  rw [inB_iff]
  unfold carvC
  omega
end
end Go.Proofs.Ytlljhimaopnbfaa
