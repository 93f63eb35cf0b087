/- Closed and ground rosettes, and those that are found: the plain laws. No program. -/
import Derived.Test.YtaaceadcnnfngaaRGal
import Derived.Test.YtaaceadcnnfngaaCCount
namespace Go.Proofs.Ytaaceadcnnfngaa

def closeL (f b : List Int) : List Int := underL (liftL f b) b
def grindL (f b : List Int) : List Int := liftL (underL f b) b
section
variable {f g b : List Int}
theorem Fine.close (h : Fine f b) : Fine (closeL f b) b := h.lift.under
theorem Fine.grind (h : Fine f b) : Fine (grindL f b) b := h.under.lift
theorem closeL_len (f b : List Int) : (closeL f b).length = f.length := by rw [closeL, underL_len, liftL_len]
theorem grindL_len (f b : List Int) : (grindL f b).length = f.length := by rw [grindL, liftL_len, underL_len]
theorem lift_close' (h : Fine f b) : liftL (closeL f b) b = liftL f b := lift_close h
theorem close_close (h : Fine f b) : closeL (closeL f b) b = closeL f b := by
  show underL (liftL (closeL f b) b) b = _
  rw [lift_close' h]
  rfl
theorem grind_grind (h : Fine f b) : grindL (grindL f b) b = grindL f b := by
  show liftL (underL (grindL f b) b) b = _
  rw [show underL (grindL f b) b = underL f b from under_grind h]
  rfl
theorem same_close (hf : Fine f b) (hg : Fine g b) : (closeL g b == closeL f b) = (liftL g b == liftL f b) := by
  rw [Bool.eq_iff_iff, beq_iff_eq, beq_iff_eq]
  constructor
  · intro h
    rw [← lift_close' hg, h, lift_close' hf]
  · intro h
    rw [closeL, h]
    rfl
theorem below_close (hg : Fine g b) (h : liftL g b = liftL f b) : LeL g (closeL f b) := by
  have := le_close hg
  rwa [h] at this
theorem found_lift (h : Fine f b) : foundB (liftL f b) b = true := by
  rw [foundB, beq_iff_eq]
  exact lift_close h
theorem found_iff (f b : List Int) : foundB f b = (grindL f b == f) := rfl
theorem below_grind (hf : Fine f b) (hg : Fine g b) (h : LeL (liftL g b) f) : LeL (liftL g b) (grindL f b) := by
  have hl : g.length = f.length := by rw [← h.1, liftL_len]
  have h1 := (adjoint hg.b1 hg.n1 hl).1 h
  exact lift_mono hg hf.under h1
end

theorem touch_one {g ls : List Int} {p : Nat} (hp : p < g.length) (h : g = ls) : touchB g [0] p (ls[p]?.getD 0) = 1 := by
  subst h
  simp [touchB, tBits, List.range_succ, askOf_plc, plc_zero hp]
theorem lift_one (f : List Int) : liftL f [0] = f := by
  refine LeL.antisymm ⟨liftL_len _ _, fun i hi => ?_⟩ ⟨(liftL_len _ _).symm, fun i hi => ?_⟩
  · rw [liftL_len] at hi
    rw [lift_le_iff (by simp) hi]
    intro j hj
    obtain rfl : j = 0 := by simpa using hj
    rw [askOf_plc _ _ (by simp)]
    simp [plc_zero hi]
  · have := (lift_le_iff (ys := [0]) (by simp) hi (M := (liftL f [0])[i]?.getD 0)).1 (Int.le_refl _) 0 (by simp)
    rw [askOf_plc _ _ (by simp)] at this
    simpa [plc_zero hi] using this
theorem under_one (f : List Int) : underL f [0] = f := by
  refine LeL.antisymm ⟨underL_len _ _, fun i hi => ?_⟩ ⟨(underL_len _ _).symm, fun i hi => ?_⟩
  · rw [underL_len] at hi
    have := (le_under_iff (ys := [0]) (by simp) hi (M := (underL f [0])[i]?.getD 0)).1 (Int.le_refl _) 0 (by simp)
    rw [askU_plc _ _ (by simp)] at this
    simpa [plc_zero hi] using this
  · rw [le_under_iff (by simp) hi]
    intro j hj
    obtain rfl : j = 0 := by simpa using hj
    rw [askU_plc _ _ (by simp)]
    simp [plc_zero hi]
theorem cnt_one (ls : List Int) (hn : 1 ≤ ls.length) : ∀ (f q : Nat), q + f = ls.length → cntV ls ls [0] f q 0 0 = 1
  | 0, _, _ => rfl
  | f + 1, q, h => by
    have hq : q < ls.length := by omega
    have hm : midAt ls [0] q = q := by
      unfold midAt
      simp only [List.length_cons, List.length_nil]
      rw [show ((q : Int) - (((0 + 1 : Nat) : Int) - 1) / 2) = q by simp, Int.emod_eq_of_lt (by omega) (by omega)]
      rfl
    have ht : tbAt ls ls [0] q = 1 := by rw [tbAt, hm]; exact touch_one hq rfl
    have h1 : okX ls ls [0] q 1 0 = true := by simp [okX, ht, bitsX]
    have h0 : okX ls ls [0] q 0 0 = false := by simp [okX, ht, bitsX]
    have hA : stepA 0 q 1 0 = 0 := by simp [stepA]
    have hB : stepB 0 1 0 = 0 := by simp [stepB, bitsX]
    rw [cntV, if_neg (by omega), cntA, if_pos h1, cntA, if_neg (by rw [h0]; decide)]
    simp only [List.length_cons, List.length_nil, Nat.zero_add, Nat.sub_self, hA, hB, Int.mul_zero, Int.add_zero]
    exact cnt_one ls hn f (q + 1) (by omega)
theorem count_lift {f b : List Int} (h : Fine f b) (h7 : b.length ≤ 7) : 0 ≤ countN (liftL f b) b ∧ countN (liftL f b) b < 1000000007 ∧ (b.length = 1 → countN (liftL f b) b = 1) := by
  rw [countN, if_pos ⟨fine_iff.2 h.lift, h7, found_lift h⟩]
  refine ⟨Int.emod_nonneg _ (by decide), Int.emod_lt_of_pos _ (by decide), fun h1 => ?_⟩
  have hb : b = [0] := by
    have hm := h.mid
    rw [h1] at hm
    obtain ⟨x, rfl⟩ := List.length_eq_one_iff.1 h1
    simp at hm
    rw [hm]
  subst hb
  rw [lift_one, under_one, cnt_one f h.n1 _ 0 (by simp)]
  rfl
end Go.Proofs.Ytaaceadcnnfngaa
