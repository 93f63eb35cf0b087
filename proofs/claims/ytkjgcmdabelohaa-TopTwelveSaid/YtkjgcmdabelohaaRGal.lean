/- Lifts and what is under: a pair of maps of lattices. No program. -/
import Derived.Test.YtkjgcmdabelohaaRMadeB
namespace Go.Proofs.Ytkjgcmdabelohaa

/-- No height is greater. -/
def LeL (f g : List Int) : Prop := f.length = g.length ∧ ∀ i, i < f.length → f[i]?.getD 0 ≤ g[i]?.getD 0
def belowB (f g : List Int) : Bool := decide (f.length = g.length) && (List.range f.length).all fun i => decide (f[i]?.getD 0 ≤ g[i]?.getD 0)
theorem belowB_iff {f g : List Int} : belowB f g = true ↔ LeL f g := by
  simp [belowB, LeL]
theorem belowB_of {f g : List Int} (h : LeL f g) : belowB f g = true := belowB_iff.2 h
theorem LeL.refl (f : List Int) : LeL f f := ⟨rfl, fun _ _ => Int.le_refl _⟩
theorem LeL.trans {f g h : List Int} (a : LeL f g) (b : LeL g h) : LeL f h := ⟨a.1.trans b.1, fun i hi => Int.le_trans (a.2 i hi) (b.2 i (by rw [← a.1]; exact hi))⟩
theorem LeL.antisymm {f g : List Int} (a : LeL f g) (b : LeL g f) : f = g := by
  refine List.ext_getElem a.1 fun i h1 h2 => ?_
  have h3 := a.2 i h1
  have h4 := b.2 i h2
  simp [h1, h2] at h3 h4
  omega

theorem foldMax_le_iff {g : Nat → Int} {M : Int} : ∀ q : Nat, 1 ≤ q → ((List.range q).foldl (fun acc j => if j = 0 then g j else max acc (g j)) 0 ≤ M ↔ ∀ j, j < q → g j ≤ M) := fun q hq =>
  ⟨fun h j hj => Int.le_trans (foldMax_ge q j hj) h, fun h => by
    induction q with
    | zero => omega
    | succ q ih =>
      rw [List.range_succ, List.foldl_append]
      simp only [List.foldl_cons, List.foldl_nil]
      split
      · exact h _ (by omega)
      · have h1 := ih (by omega) fun j hj => h j (by omega)
        have h2 := h q (by omega)
        omega⟩
theorem le_foldMin_iff {g : Nat → Int} {M : Int} : ∀ q : Nat, 1 ≤ q → (M ≤ (List.range q).foldl (fun acc j => if j = 0 then g j else min acc (g j)) 0 ↔ ∀ j, j < q → M ≤ g j) := fun q hq =>
  ⟨fun h j hj => Int.le_trans h (foldMin_le q j hj), fun h => by
    induction q with
    | zero => omega
    | succ q ih =>
      rw [List.range_succ, List.foldl_append]
      simp only [List.foldl_cons, List.foldl_nil]
      split
      · exact h _ (by omega)
      · have h1 := ih (by omega) fun j hj => h j (by omega)
        have h2 := h q (by omega)
        omega⟩

theorem lift_le_iff {xs ys : List Int} (hy : 1 ≤ ys.length) {k : Nat} (hk : k < xs.length) {M : Int} : (liftL xs ys)[k]?.getD 0 ≤ M ↔ ∀ j, j < ys.length → askOf xs ys ys.length k j ≤ M := by
  rw [liftL_at hk, bestL_eq]
  exact foldMax_le_iff _ hy
theorem le_under_iff {xs ys : List Int} (hy : 1 ≤ ys.length) {k : Nat} (hk : k < xs.length) {M : Int} : M ≤ (underL xs ys)[k]?.getD 0 ↔ ∀ j, j < ys.length → M ≤ askU xs ys ys.length k j := by
  rw [underL_at hk, bestU_eq]
  exact le_foldMin_iff _ hy

/-- The place at an offset of the rubber. -/
def plc (n : Nat) (k : Nat) (d : Int) : Nat := (((k : Int) + d) % (n : Int)).toNat
theorem plc_lt {n k : Nat} {d : Int} (hn : 1 ≤ n) : plc n k d < n := by
  have h1 := Int.emod_nonneg ((k : Int) + d) (show (n : Int) ≠ 0 by omega)
  have h2 := Int.emod_lt_of_pos ((k : Int) + d) (show (0 : Int) < n by omega)
  unfold plc
  omega
theorem plc_cast {n k : Nat} {d : Int} (hn : 1 ≤ n) : ((plc n k d : Nat) : Int) = ((k : Int) + d) % (n : Int) := by
  have h1 := Int.emod_nonneg ((k : Int) + d) (show (n : Int) ≠ 0 by omega)
  unfold plc
  omega
theorem plc_plc {n k : Nat} {d e : Int} (hn : 1 ≤ n) : plc n (plc n k d) e = plc n k (d + e) := by
  have h1 := plc_cast (k := k) (d := d) hn
  unfold plc at h1 ⊢
  rw [h1, Int.emod_add_emod, Int.add_assoc]
theorem plc_zero {n k : Nat} (hk : k < n) : plc n k 0 = k := by
  unfold plc
  rw [Int.add_zero, Int.emod_eq_of_lt (by omega) (by omega)]
  rfl
theorem askOf_plc (xs ys : List Int) {m k j : Nat} (hj : j < m) : askOf xs ys m k j = xs[plc xs.length k ((j : Int) - (m : Int) / 2)]?.getD 0 - ys[j]?.getD 0 := by
  rw [askOf, Nat.min_eq_left (by omega)]
  rfl
theorem askU_plc (xs ys : List Int) {m k j : Nat} (hj : j < m) : askU xs ys m k j = xs[plc xs.length k (-((j : Int) - (m : Int) / 2))]?.getD 0 + ys[j]?.getD 0 := by
  rw [askU, Nat.min_eq_left (by omega)]
  rfl

/-- The lift of f is below h exactly if f is below what is under h. -/
theorem adjoint {f h b : List Int} (hb : 1 ≤ b.length) (hn : 1 ≤ f.length) (hl : f.length = h.length) : LeL (liftL f b) h ↔ LeL f (underL h b) := by
  constructor
  · intro ⟨_, h2⟩
    refine ⟨by rw [underL_len, hl], fun i hi => ?_⟩
    rw [le_under_iff hb (by omega)]
    intro j hj
    rw [askU_plc h b hj, ← hl]
    have hp := plc_lt (n := f.length) (k := i) (d := -((j : Int) - (b.length : Int) / 2)) hn
    have h3 := (lift_le_iff hb hp).1 (h2 _ (by rw [liftL_len]; exact hp)) j hj
    rw [askOf_plc f b hj, plc_plc hn, show -((j : Int) - (b.length : Int) / 2) + ((j : Int) - (b.length : Int) / 2) = 0 by omega, plc_zero hi] at h3
    omega
  · intro ⟨_, h2⟩
    refine ⟨by rw [liftL_len, hl], fun i hi => ?_⟩
    rw [liftL_len] at hi
    rw [lift_le_iff hb hi]
    intro j hj
    rw [askOf_plc f b hj]
    have hp := plc_lt (n := f.length) (k := i) (d := (j : Int) - (b.length : Int) / 2) hn
    have h3 := (le_under_iff hb (by omega)).1 (h2 _ hp) j hj
    rw [askU_plc h b hj, ← hl, plc_plc hn, show ((j : Int) - (b.length : Int) / 2) + -((j : Int) - (b.length : Int) / 2) = 0 by omega, plc_zero hi] at h3
    omega

section
variable {f g b : List Int}
theorem Fine.b1 (h : Fine f b) : 1 ≤ b.length := by have := h.odd; omega
theorem fine_check (h : Fine f b) : checkB f = true := checkB_iff.2 ⟨h.lo, h.hi, hts_of_all.2 h.hx⟩
theorem Fine.n1 (h : Fine f b) : 1 ≤ f.length := by have := h.lo; omega
theorem le_lift (h : Fine f b) : LeL f (liftL f b) := ⟨by rw [liftL_len], fun i hi => by
  have h1 := (lift_le_iff h.b1 hi (M := (liftL f b)[i]?.getD 0)).1 (Int.le_refl _) (b.length / 2) (by have := h.odd; omega)
  rwa [askOf_mid h.odd h.mid hi] at h1⟩
theorem under_le (h : Fine f b) : LeL (underL f b) f := ⟨by rw [underL_len], fun i hi => by
  rw [underL_len] at hi
  have h1 := (le_under_iff h.b1 hi (M := (underL f b)[i]?.getD 0)).1 (Int.le_refl _) (b.length / 2) (by have := h.odd; omega)
  rwa [askU_mid h.odd h.mid hi] at h1⟩
theorem le_close (h : Fine f b) : LeL f (underL (liftL f b) b) := (adjoint h.b1 h.n1 (liftL_len _ _).symm).1 (LeL.refl _)
theorem grind_le (h : Fine f b) : LeL (liftL (underL f b) b) f := (adjoint h.b1 h.under.n1 (underL_len _ _)).2 (LeL.refl _)
theorem lift_mono (hf : Fine f b) (hg : Fine g b) (h : LeL f g) : LeL (liftL f b) (liftL g b) := (adjoint hf.b1 hf.n1 (by rw [liftL_len]; exact h.1)).2 (h.trans (le_close hg))
theorem under_mono (hf : Fine f b) (h : LeL f g) : LeL (underL f b) (underL g b) := (adjoint hf.b1 hf.under.n1 (by rw [underL_len]; exact h.1)).1 ((grind_le hf).trans h)
theorem lift_close (h : Fine f b) : liftL (underL (liftL f b) b) b = liftL f b := LeL.antisymm (grind_le h.lift) (lift_mono h h.lift.under (le_close h))
theorem under_grind (h : Fine f b) : underL (liftL (underL f b) b) b = underL f b := LeL.antisymm (under_mono h.under.lift (grind_le h)) (le_close h.under)
end
end Go.Proofs.Ytkjgcmdabelohaa
