/- Shadows of cells, plain. No condition. -/
import Derived.Test.YtlljhimaopnbfaaLCells
namespace Go.Proofs.Ytlljhimaopnbfaa
open Go.RowKit

def gL (lx ly : Int) : Int := (Int.gcd lx ly : Int)
def rayX (lx ly : Int) (x k : Nat) : Int := (x : Int) + (k : Int) * (lx / gL lx ly)
def rayY (lx ly : Int) (y k : Nat) : Int := (y : Int) + (k : Int) * (ly / gL lx ly)
def inC (n m : Nat) (i j : Int) : Bool := inB 0 ((n : Int) - 1) i && inB 0 ((m : Int) - 1) j
def hitB (n m : Nat) (p : Int) (hs : List Int) (lx ly lz : Int) (x y k : Nat) : Bool :=
  inC n m (rayX lx ly x k) (rayY lx ly y k) && decide (4 * (k : Int) * p * lz < gL lx ly * (midC n hs (rayX lx ly x k).toNat (rayY lx ly y k).toNat - midC n hs x y))
/-- Does a cell lie in shadow? -/
def darkB (n m : Nat) (p : Int) (hs : List Int) (lx ly lz : Int) (x y : Nat) : Bool := decide (gL lx ly ≠ 0) && (List.range 24).any fun k => decide (1 ≤ k) && hitB n m p hs lx ly lz x y k

theorem inC_iff {n m : Nat} {i j : Int} : inC n m i j = true ↔ (0 ≤ i ∧ i < n) ∧ 0 ≤ j ∧ j < m := by
  simp [inC, inB]
  omega
theorem gL_nonneg (lx ly : Int) : 0 ≤ gL lx ly := by unfold gL; omega
theorem gL_zero {lx ly : Int} : gL lx ly = 0 ↔ lx = 0 ∧ ly = 0 := by
  unfold gL
  rw [Int.natCast_eq_zero]
  exact Int.gcd_eq_zero_iff
theorem gL_x (lx ly : Int) : gL lx ly * (lx / gL lx ly) = lx := Int.mul_ediv_cancel' (Int.gcd_dvd_left lx ly)
theorem gL_y (lx ly : Int) : gL lx ly * (ly / gL lx ly) = ly := Int.mul_ediv_cancel' (Int.gcd_dvd_right lx ly)
theorem ray_divx {lx ly : Int} (h : gL lx ly ≠ 0) (k : Int) : (k * lx).tdiv (gL lx ly) = k * (lx / gL lx ly) := by
  have e : k * lx = (k * (lx / gL lx ly)) * gL lx ly := by
    rw [Int.mul_assoc, Int.mul_comm (lx / gL lx ly), gL_x]
  rw [e, Int.mul_tdiv_cancel _ h]
theorem ray_divy {lx ly : Int} (h : gL lx ly ≠ 0) (k : Int) : (k * ly).tdiv (gL lx ly) = k * (ly / gL lx ly) := by
  have e : k * ly = (k * (ly / gL lx ly)) * gL lx ly := by
    rw [Int.mul_assoc, Int.mul_comm (ly / gL lx ly), gL_y]
  rw [e, Int.mul_tdiv_cancel _ h]

theorem between {d a : Int} {k k' n : Nat} (h0 : 0 ≤ a) (h1 : a < n) (hk : k ≤ k') (h2 : 0 ≤ a + (k' : Int) * d) (h3 : a + (k' : Int) * d < n) : 0 ≤ a + (k : Int) * d ∧ a + (k : Int) * d < n := by
  have hk' : (k : Int) ≤ (k' : Int) := by omega
  rcases Int.le_total 0 d with hd | hd
  · have e1 := Int.mul_le_mul_of_nonneg_right hk' hd
    have e2 := Int.mul_nonneg (show (0 : Int) ≤ k by omega) hd
    omega
  · have e1 := Int.mul_le_mul_of_nonpos_right hk' hd
    have e2 := Int.mul_nonpos_of_nonneg_of_nonpos (show (0 : Int) ≤ k by omega) hd
    omega
theorem out_mono {n m : Nat} {lx ly : Int} {x y k k' : Nat} (hx : x < n) (hy : y < m) (hk : k ≤ k') (h : inC n m (rayX lx ly x k) (rayY lx ly y k) = false) : inC n m (rayX lx ly x k') (rayY lx ly y k') = false := by
  cases h' : inC n m (rayX lx ly x k') (rayY lx ly y k')
  · rfl
  · obtain ⟨⟨a1, a2⟩, b1, b2⟩ := inC_iff.1 h'
    have := inC_iff.2 ⟨between (n := n) (show (0 : Int) ≤ (x : Int) by omega) (by omega) hk a1 a2, between (n := m) (show (0 : Int) ≤ (y : Int) by omega) (by omega) hk b1 b2⟩
    rw [show inC n m (rayX lx ly x k) (rayY lx ly y k) = true from this] at h
    cases h
theorem out_24 {n m : Nat} {lx ly : Int} {x y : Nat} (hx : x < n) (hy : y < m) (hn : n ≤ 23) (hm : m ≤ 23) (hg : gL lx ly ≠ 0) : inC n m (rayX lx ly x 24) (rayY lx ly y 24) = false := by
  cases h' : inC n m (rayX lx ly x 24) (rayY lx ly y 24)
  · rfl
  · obtain ⟨⟨a1, a2⟩, b1, b2⟩ := inC_iff.1 h'
    have ex := gL_x lx ly
    have ey := gL_y lx ly
    simp only [rayX, rayY] at a1 a2 b1 b2
    generalize lx / gL lx ly = dx at *
    generalize ly / gL lx ly = dy at *
    have d1 : dx = 0 := by omega
    have d2 : dy = 0 := by omega
    rw [d1, Int.mul_zero] at ex
    rw [d2, Int.mul_zero] at ey
    exact absurd (gL_zero.2 ⟨ex.symm, ey.symm⟩) hg
theorem hit_in {n m : Nat} {p : Int} {hs : List Int} {lx ly lz : Int} {x y k : Nat} (h : inC n m (rayX lx ly x k) (rayY lx ly y k) = false) : hitB n m p hs lx ly lz x y k = false := by simp [hitB, h]
theorem in_lt {n m : Nat} {lx ly : Int} {x y k : Nat} (hx : x < n) (hy : y < m) (hn : n ≤ 23) (hm : m ≤ 23) (hg : gL lx ly ≠ 0) (h : inC n m (rayX lx ly x k) (rayY lx ly y k) = true) : k < 24 := by
  rcases Nat.lt_or_ge k 24 with h1 | h1
  · exact h1
  · rw [out_mono hx hy h1 (out_24 hx hy hn hm hg)] at h
    cases h
theorem dark_no {n m : Nat} {p : Int} {hs : List Int} {lx ly lz : Int} {x y k : Nat} (hx : x < n) (hy : y < m) (h : ∀ j, 1 ≤ j → j < k → hitB n m p hs lx ly lz x y j = false) (ho : inC n m (rayX lx ly x k) (rayY lx ly y k) = false) : darkB n m p hs lx ly lz x y = false := by
  have : ((List.range 24).any fun k => decide (1 ≤ k) && hitB n m p hs lx ly lz x y k) = false := by
    rw [List.any_eq_false]
    intro j _
    rcases Nat.lt_or_ge j k with hj | hj
    · by_cases h1 : 1 ≤ j
      · simp [h j h1 hj]
      · simp [h1]
    · simp [hit_in (out_mono hx hy hj ho)]
  rw [darkB, this, Bool.and_false]
theorem dark_yes {n m : Nat} {p : Int} {hs : List Int} {lx ly lz : Int} {x y k : Nat} (hg : gL lx ly ≠ 0) (h1 : 1 ≤ k) (hk : k < 24) (h : hitB n m p hs lx ly lz x y k = true) : darkB n m p hs lx ly lz x y = true := by
  rw [darkB, Bool.and_eq_true]
  exact ⟨by simpa using hg, List.any_eq_true.2 ⟨k, List.mem_range.2 hk, by simp [h1, h]⟩⟩
theorem dark_flat {n m : Nat} {p : Int} {hs : List Int} {lx ly lz : Int} {x y : Nat} (hg : gL lx ly = 0) : darkB n m p hs lx ly lz x y = false := by simp [darkB, hg]
theorem dark_iff {n m : Nat} {p : Int} {hs : List Int} {lx ly lz : Int} {x y : Nat} : darkB n m p hs lx ly lz x y = true ↔ gL lx ly ≠ 0 ∧ ∃ k, 1 ≤ k ∧ k < 24 ∧ hitB n m p hs lx ly lz x y k = true := by
  rw [darkB, Bool.and_eq_true, List.any_eq_true]
  constructor
  · rintro ⟨h, k, hk, h2⟩
    rw [Bool.and_eq_true] at h2
    exact ⟨by simpa using h, k, by simpa using h2.1, List.mem_range.1 hk, h2.2⟩
  · rintro ⟨h, k, h1, hk, h2⟩
    exact ⟨by simpa using h, k, List.mem_range.2 hk, by simp [h1, h2]⟩
end Go.Proofs.Ytlljhimaopnbfaa
