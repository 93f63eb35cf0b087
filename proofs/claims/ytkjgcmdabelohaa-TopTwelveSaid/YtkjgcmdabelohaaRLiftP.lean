/- What lifted and under make: the plain laws. -/
import Derived.Test.YtkjgcmdabelohaaRLift
namespace Go.Proofs.Ytkjgcmdabelohaa

theorem foldMax {g : Nat → Int} (s : Int) : ∀ q : Nat, 1 ≤ q → (List.range q).foldl (fun acc j => max acc (g j)) s = max s ((List.range q).foldl (fun acc j => if j = 0 then g j else max acc (g j)) 0)
  | 0, h => absurd h (by omega)
  | 1, _ => by simp [List.range_succ]
  | q + 2, _ => by
    rw [List.range_succ, List.foldl_append, List.foldl_append, foldMax s (q + 1) (by omega)]
    simp only [List.foldl_cons, List.foldl_nil]
    rw [if_neg (by omega)]
    omega
theorem foldMax_ge {g : Nat → Int} : ∀ (q : Nat) (j : Nat), j < q → g j ≤ (List.range q).foldl (fun acc j => if j = 0 then g j else max acc (g j)) 0
  | 0, j, h => absurd h (by omega)
  | q + 1, j, h => by
    rw [List.range_succ, List.foldl_append]
    simp only [List.foldl_cons, List.foldl_nil]
    split
    · rename_i h0; subst h0
      obtain rfl : j = 0 := by omega
      exact Int.le_refl _
    · rcases (by omega : j < q ∨ j = q) with h1 | rfl
      · have := foldMax_ge (g := g) q j h1
        omega
      · omega
theorem foldMax_le {g : Nat → Int} {M : Int} (h : ∀ j, g j ≤ M) : ∀ q : Nat, 1 ≤ q → (List.range q).foldl (fun acc j => if j = 0 then g j else max acc (g j)) 0 ≤ M
  | 0, h0 => absurd h0 (by omega)
  | q + 1, _ => by
    rw [List.range_succ, List.foldl_append]
    simp only [List.foldl_cons, List.foldl_nil]
    split
    · exact h _
    · have := foldMax_le h q (by omega)
      have := h q
      omega
theorem foldMin {g : Nat → Int} (s : Int) : ∀ q : Nat, 1 ≤ q → (List.range q).foldl (fun acc j => min acc (g j)) s = min s ((List.range q).foldl (fun acc j => if j = 0 then g j else min acc (g j)) 0)
  | 0, h => absurd h (by omega)
  | 1, _ => by simp [List.range_succ]
  | q + 2, _ => by
    rw [List.range_succ, List.foldl_append, List.foldl_append, foldMin s (q + 1) (by omega)]
    simp only [List.foldl_cons, List.foldl_nil]
    rw [if_neg (by omega)]
    omega
theorem foldMin_le {g : Nat → Int} : ∀ (q : Nat) (j : Nat), j < q → (List.range q).foldl (fun acc j => if j = 0 then g j else min acc (g j)) 0 ≤ g j
  | 0, j, h => absurd h (by omega)
  | q + 1, j, h => by
    rw [List.range_succ, List.foldl_append]
    simp only [List.foldl_cons, List.foldl_nil]
    split
    · rename_i h0; subst h0
      obtain rfl : j = 0 := by omega
      exact Int.le_refl _
    · rcases (by omega : j < q ∨ j = q) with h1 | rfl
      · have := foldMin_le (g := g) q j h1
        omega
      · omega
theorem foldMin_ge {g : Nat → Int} {M : Int} (h : ∀ j, M ≤ g j) : ∀ q : Nat, 1 ≤ q → M ≤ (List.range q).foldl (fun acc j => if j = 0 then g j else min acc (g j)) 0
  | 0, h0 => absurd h0 (by omega)
  | q + 1, _ => by
    rw [List.range_succ, List.foldl_append]
    simp only [List.foldl_cons, List.foldl_nil]
    split
    · exact h _
    · have := foldMin_ge h q (by omega)
      have := h q
      omega

theorem bestL_eq (xs ys : List Int) (m k : Nat) (pre : List Nat) : bestL xs ys m k pre = pre.foldl (fun acc j => if j = 0 then askOf xs ys m k j else max acc (askOf xs ys m k j)) 0 := rfl
theorem bestU_eq (xs ys : List Int) (m k : Nat) (pre : List Nat) : bestU xs ys m k pre = pre.foldl (fun acc j => if j = 0 then askU xs ys m k j else min acc (askU xs ys m k j)) 0 := rfl

/-- The middle asks nothing. -/
theorem askOf_mid {xs ys : List Int} {m k : Nat} (hm : m % 2 = 1) (h0 : ys[m / 2]?.getD 0 = 0) (hk : k < xs.length) : askOf xs ys m k (m / 2) = xs[k]?.getD 0 := by
  unfold askOf
  rw [h0, Nat.min_eq_left (by omega), show ((k : Int) + (((m / 2 : Nat) : Int) - (m : Int) / 2)) = k by omega, Int.emod_eq_of_lt (by omega) (by omega)]
  simp
theorem askU_mid {xs ys : List Int} {m k : Nat} (hm : m % 2 = 1) (h0 : ys[m / 2]?.getD 0 = 0) (hk : k < xs.length) : askU xs ys m k (m / 2) = xs[k]?.getD 0 := by
  unfold askU
  rw [h0, Nat.min_eq_left (by omega), show ((k : Int) + -(((m / 2 : Nat) : Int) - (m : Int) / 2)) = k by omega, Int.emod_eq_of_lt (by omega) (by omega)]
  simp
theorem liftL_len (xs ys : List Int) : (liftL xs ys).length = xs.length := by simp [liftL, pickTo]
theorem underL_len (xs ys : List Int) : (underL xs ys).length = xs.length := by simp [underL, pickU]
theorem liftL_at {xs ys : List Int} {k : Nat} (hk : k < xs.length) : (liftL xs ys)[k]?.getD 0 = bestL xs ys ys.length k (List.range ys.length) := by simp [liftL, pickTo, hk]
theorem underL_at {xs ys : List Int} {k : Nat} (hk : k < xs.length) : (underL xs ys)[k]?.getD 0 = bestU xs ys ys.length k (List.range ys.length) := by simp [underL, pickU, hk]
/-- Heights from 0 to 10000. -/
def Hts (xs : List Int) : Prop := ∀ i : Nat, 0 ≤ xs[i]?.getD 0 ∧ xs[i]?.getD 0 ≤ 10000
theorem liftL_hts {xs ys : List Int} (hx : Hts xs) (hy : Hts ys) (hm : ys.length % 2 = 1) (h0 : ys[ys.length / 2]?.getD 0 = 0) : Hts (liftL xs ys) := by
  intro i
  rcases Nat.lt_or_ge i xs.length with hi | hi
  · rw [liftL_at hi, bestL_eq]
    constructor
    · have h1 := foldMax_ge (g := askOf xs ys ys.length i) ys.length (ys.length / 2) (by omega)
      rw [askOf_mid hm h0 hi] at h1
      have := (hx i).1
      omega
    · exact foldMax_le (fun j => by
        unfold askOf
        have h1 := (hx ((((i : Int) + (((min j ys.length : Nat) : Int) - (ys.length : Int) / 2)) % (xs.length : Int))).toNat).2
        have h2 := (hy j).1
        omega) _ (by omega)
  · rw [List.getElem?_eq_none (by rw [liftL_len]; exact hi)]
    simp
theorem underL_hts {xs ys : List Int} (hx : Hts xs) (hy : Hts ys) (hm : ys.length % 2 = 1) (h0 : ys[ys.length / 2]?.getD 0 = 0) : Hts (underL xs ys) := by
  intro i
  rcases Nat.lt_or_ge i xs.length with hi | hi
  · rw [underL_at hi, bestU_eq]
    constructor
    · exact foldMin_ge (fun j => by
        unfold askU
        have h1 := (hx ((((i : Int) + -(((min j ys.length : Nat) : Int) - (ys.length : Int) / 2)) % (xs.length : Int))).toNat).1
        have h2 := (hy j).1
        omega) _ (by omega)
    · have h1 := foldMin_le (g := askU xs ys ys.length i) ys.length (ys.length / 2) (by omega)
      rw [askU_mid hm h0 hi] at h1
      have := (hx i).2
      omega
  · rw [List.getElem?_eq_none (by rw [underL_len]; exact hi)]
    simp
end Go.Proofs.Ytkjgcmdabelohaa
