/- GrooveApart in plain Lean. No program. -/
import Derived.Test.YtgeapenglcohfaaGMovP
namespace Go.Proofs.Ytgeapenglcohfaa
open Go.RowKit

theorem farL_sq {xs ys : List (Int × Int)} (h : distE xs ys = 0) : SqB (farL xs ys) ∧ distP xs ys = lowF (farL xs ys).1 (farL xs ys).2 := by
  obtain ⟨h1, h2⟩ := distE_iff.1 h
  refine ⟨(far_eq (lineB_co h1) (lineB_co h2)).1, ?_⟩
  unfold distP
  rw [h1, h2]
  rfl
theorem distP_sq {xs ys : List (Int × Int)} (h : distE xs ys = 0) : SqT (distP xs ys) := by
  obtain ⟨h1, h2⟩ := farL_sq h
  rw [h2]
  exact h1.low
/-- Apart asks what Distance says. -/
theorem apart_dist {xs ys : List (Int × Int)} {n : Int} (h : distE xs ys = 0) (hn : 0 ≤ n ∧ n ≤ 30000) : apE xs ys n = 0 ∧ apB xs ys n = decide (n * n ≤ (distP xs ys).1 / (distP xs ys).2) := by
  obtain ⟨h1, h2⟩ := distE_iff.1 h
  obtain ⟨hs, hd⟩ := farL_sq h
  have hb : inB 0 30000 n = true := inB_iff.2 hn
  unfold apE apB nearB
  rw [h1, h2, hb, hd]
  refine ⟨rfl, ?_⟩
  obtain ⟨g, hg, g1, gn, gd, g3⟩ := gcd_parts (n := (farL xs ys).1) hs.d0
  unfold lowF
  simp only [Bool.and_true, if_true]
  rw [← hg]
  generalize (farL xs ys).1 / g = p at *
  generalize (farL xs ys).2 / g = q at *
  rw [Bool.eq_iff_iff]
  simp only [Bool.not_eq_true', decide_eq_false_iff_not, decide_eq_true_eq, Int.not_lt]
  rw [gn, gd, Int.le_ediv_iff_mul_le (by omega), show n * n * (g * q) = g * (n * n * q) by simp only [Int.mul_left_comm, Int.mul_comm]]
  constructor
  · intro hle
    rcases Int.lt_or_le p (n * n * q) with hl | hl
    · exact absurd ((mul_lt_iff g1).2 hl) (by omega)
    · exact hl
  · intro hle
    exact Int.mul_le_mul_of_nonneg_left hle (by omega)
theorem apart_bad {xs ys : List (Int × Int)} {n : Int} (hn : ¬ (0 ≤ n ∧ n ≤ 30000)) : apE xs ys n = 2 := by
  unfold apE
  have : inB 0 30000 n = false := inB_false.2 hn
  rw [this, Bool.and_false]
  rfl
theorem lineB_one {xs : List (Int × Int)} (h : lineB xs = true) {s : Int × Int} (hs : s ∈ xs) : lineB [s] = true := by
  obtain ⟨h1, _⟩ := lineB_iff.1 h
  refine lineB_iff.2 ⟨fun p hp => ?_, by simp, by simp⟩
  rw [List.mem_singleton] at hp
  rw [hp]
  exact h1 s hs
/-- A spot of a line is no nearer to the other line. -/
theorem dist_one {xs ys : List (Int × Int)} (h : distE xs ys = 0) {s : Int × Int} (hs : s ∈ xs) : distE [s] ys = 0 ∧ decide ((distP [s] ys).1 * (distP xs ys).2 < (distP xs ys).1 * (distP [s] ys).2) = false := by
  obtain ⟨h1, h2⟩ := distE_iff.1 h
  have he := distE_iff.2 ⟨lineB_one h1 hs, h2⟩
  refine ⟨he, ?_⟩
  obtain ⟨a1, a2⟩ := farL_sq h
  obtain ⟨b1, b2⟩ := farL_sq he
  have hsub := far_sub (xs := xs) (ys := ys) (xs' := [s]) (ys' := ys) (fun x y hp => by
    rw [onP_one] at hp
    rw [hp.1, hp.2]
    exact onP_spot hs) fun _ _ hp => hp
  rw [a2, b2]
  have := lessF_low (s := farL [s] ys) (t := farL xs ys) b1.d0 a1.d0
  unfold lessF at this
  rw [this, decide_eq_false_iff_not]
  omega
/-- Lines that share a spot. -/
theorem dist_share {xs ys : List (Int × Int)} (h : distE xs ys = 0) (hl : xs.length ≤ 11) {i : Nat} (hi : i < ys.length) : distE (xs ++ [ys[i]]) ys = 0 ∧ distP (xs ++ [ys[i]]) ys = (0, 1) := by
  obtain ⟨h1, h2⟩ := distE_iff.1 h
  obtain ⟨l1, l2, l3⟩ := lineB_iff.1 h1
  obtain ⟨k1, k2, k3⟩ := lineB_iff.1 h2
  have h3 : lineB (xs ++ [ys[i]]) = true := by
    refine lineB_iff.2 ⟨fun p hp => ?_, by simp, by simp; omega⟩
    rcases List.mem_append.1 hp with hp | hp
    · exact l1 p hp
    · rw [List.mem_singleton] at hp
      rw [hp]
      exact k1 _ (List.getElem_mem hi)
  have he := distE_iff.2 ⟨h3, h2⟩
  obtain ⟨b1, b2⟩ := farL_sq he
  refine ⟨he, ?_⟩
  rw [b2, far_zero (p := ys[i]) (by simp) (List.getElem_mem hi)]
  exact lowF_zero (by have := b1.d0; omega)
end Go.Proofs.Ytgeapenglcohfaa
