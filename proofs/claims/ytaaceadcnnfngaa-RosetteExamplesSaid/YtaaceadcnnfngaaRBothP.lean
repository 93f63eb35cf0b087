/- A rubber upon another one: the plain laws. No program. -/
import Derived.Test.YtaaceadcnnfngaaRGal
namespace Go.Proofs.Ytaaceadcnnfngaa

/-- The least sum at k of the first n cells of b. -/
def minTo (b c : List Int) (k : Nat) : Nat → Int
  | 0 => 10000
  | i + 1 => if i ≤ k ∧ k - i < c.length then min (minTo b c k i) (b[i]?.getD 0 + c[k - i]?.getD 0) else minTo b c k i
def bothL (b c : List Int) : List Int := (List.range (b.length + c.length - 1)).map fun k => minTo b c k b.length
theorem bothL_len (b c : List Int) : (bothL b c).length = b.length + c.length - 1 := by simp [bothL]
theorem bothL_at {b c : List Int} {k : Nat} (h : k < b.length + c.length - 1) : (bothL b c)[k]?.getD 0 = minTo b c k b.length := by simp [bothL, h]
theorem le_minTo_iff {b c : List Int} {k : Nat} {M : Int} : ∀ n, M ≤ minTo b c k n ↔ M ≤ 10000 ∧ ∀ i, i < n → i ≤ k → k - i < c.length → M ≤ b[i]?.getD 0 + c[k - i]?.getD 0
  | 0 => by simp [minTo]
  | n + 1 => by
    have ih := le_minTo_iff (b := b) (c := c) (k := k) (M := M) n
    unfold minTo
    split
    · rename_i hc
      constructor
      · intro h
        obtain ⟨h1, h2⟩ := ih.1 (by omega)
        refine ⟨h1, fun i hi hk hl => ?_⟩
        rcases (by omega : i < n ∨ i = n) with h3 | rfl
        · exact h2 i h3 hk hl
        · omega
      · intro ⟨h1, h2⟩
        have h3 := ih.2 ⟨h1, fun i hi => h2 i (by omega)⟩
        have h4 := h2 n (by omega) hc.1 hc.2
        omega
    · rename_i hc
      rw [ih]
      constructor
      · intro ⟨h1, h2⟩
        refine ⟨h1, fun i hi hk hl => ?_⟩
        rcases (by omega : i < n ∨ i = n) with h3 | rfl
        · exact h2 i h3 hk hl
        · exact absurd ⟨hk, hl⟩ hc
      · intro ⟨h1, h2⟩
        exact ⟨h1, fun i hi => h2 i (by omega)⟩
theorem minTo_comm (b c : List Int) (k : Nat) : minTo b c k b.length = minTo c b k c.length := by
  refine Int.le_antisymm ?_ ?_
  · rw [le_minTo_iff]
    obtain ⟨h1, h2⟩ := (le_minTo_iff (b := b) (c := c) (k := k) b.length).1 (Int.le_refl _)
    refine ⟨h1, fun i hi hk hl => ?_⟩
    have := h2 (k - i) hl (by omega) (by omega)
    rw [show k - (k - i) = i by omega] at this
    omega
  · rw [le_minTo_iff]
    obtain ⟨h1, h2⟩ := (le_minTo_iff (b := c) (c := b) (k := k) c.length).1 (Int.le_refl _)
    refine ⟨h1, fun i hi hk hl => ?_⟩
    have := h2 (k - i) hl (by omega) (by omega)
    rw [show k - (k - i) = i by omega] at this
    omega
theorem both_comm (b c : List Int) : bothL b c = bothL c b := by
  unfold bothL
  rw [Nat.add_comm b.length c.length]
  exact List.map_congr_left fun k _ => minTo_comm b c k

section
variable {f b c : List Int}
theorem both_le {i j : Nat} (hi : i < b.length) (hj : j < c.length) : (bothL b c)[i + j]?.getD 0 ≤ b[i]?.getD 0 + c[j]?.getD 0 := by
  rw [bothL_at (by omega)]
  have := ((le_minTo_iff (b := b) (c := c) (k := i + j) b.length).1 (Int.le_refl _)).2 i hi (by omega) (by omega)
  rwa [show i + j - i = j by omega] at this
theorem Fine.both (hb : Fine f b) (hc : Fine f c) (h : b.length + c.length ≤ 32) (hl : (bothL b c).length ≤ f.length) : Fine f (bothL b c) := by
  have ob := hb.odd
  have oc := hc.odd
  have hh : Hts (bothL b c) := fun k => by
    rcases Nat.lt_or_ge k (b.length + c.length - 1) with hk | hk
    · rw [bothL_at hk]
      refine ⟨(le_minTo_iff _).2 ⟨by decide, fun i _ _ _ => ?_⟩, ((le_minTo_iff (b := b) (c := c) (k := k) b.length).1 (Int.le_refl _)).1⟩
      have h1 := (hb.hy i).1
      have h2 := (hc.hy (k - i)).1
      omega
    · rw [List.getElem?_eq_none (by rw [bothL_len]; exact hk)]
      simp
  refine ⟨hb.lo, hb.hi, by rw [bothL_len]; omega, hl, by rw [bothL_len]; omega, hb.hx, hh, ?_⟩
  have h1 := (hh ((bothL b c).length / 2)).1
  have h2 := both_le (b := b) (c := c) (i := b.length / 2) (j := c.length / 2) (by omega) (by omega)
  rw [hb.mid, hc.mid] at h2
  rw [show b.length / 2 + c.length / 2 = (bothL b c).length / 2 by rw [bothL_len]; omega] at h2
  omega
theorem both_half (hb : b.length % 2 = 1) (hc : c.length % 2 = 1) : ((bothL b c).length : Int) / 2 = (b.length : Int) / 2 + (c.length : Int) / 2 := by
  rw [bothL_len]; omega
theorem lift_both (hb : Fine f b) (hc : Fine f c) (hd : Fine f (bothL b c)) : liftL (liftL f b) c = liftL f (bothL b c) := by
  have hh := both_half hb.odd hc.odd
  refine LeL.antisymm ⟨by simp only [liftL_len], fun k hk => ?_⟩ ⟨by simp only [liftL_len], fun k hk => ?_⟩
  · simp only [liftL_len] at hk
    rw [lift_le_iff hc.b1 (by rw [liftL_len]; exact hk)]
    intro j hj
    rw [askOf_plc _ _ hj, liftL_len]
    have hp := plc_lt (n := f.length) (k := k) (d := (j : Int) - (c.length : Int) / 2) hb.n1
    have h1 : (liftL f b)[plc f.length k ((j : Int) - (c.length : Int) / 2)]?.getD 0 ≤ (liftL f (bothL b c))[k]?.getD 0 + c[j]?.getD 0 := by
      rw [lift_le_iff hb.b1 hp]
      intro i hi
      rw [askOf_plc _ _ hi, plc_plc hb.n1]
      have h2 := (lift_le_iff hd.b1 hk).1 (Int.le_refl _) (i + j) (by rw [bothL_len]; omega)
      rw [askOf_plc _ _ (by rw [bothL_len]; omega), hh, show (((i + j : Nat) : Int) - ((b.length : Int) / 2 + (c.length : Int) / 2)) = ((j : Int) - (c.length : Int) / 2) + ((i : Int) - (b.length : Int) / 2) by omega] at h2
      have h3 := both_le hi hj
      omega
    omega
  · rw [liftL_len] at hk
    rw [lift_le_iff hd.b1 hk]
    intro j hj
    rw [askOf_plc _ _ hj, hh]
    rw [bothL_len] at hj
    have h1 : f[plc f.length k ((j : Int) - ((b.length : Int) / 2 + (c.length : Int) / 2))]?.getD 0 - (liftL (liftL f b) c)[k]?.getD 0 ≤ (bothL b c)[j]?.getD 0 := by
      rw [bothL_at hj, le_minTo_iff]
      refine ⟨?_, fun i hi hk1 hk2 => ?_⟩
      · have h2 := (hb.hx (plc f.length k ((j : Int) - ((b.length : Int) / 2 + (c.length : Int) / 2)))).2
        have h3 := (liftL_hts hb.lift.hx hc.hy hc.odd hc.mid k).1
        omega
      · have h2 := (lift_le_iff hc.b1 (k := k) (xs := liftL f b) (by rw [liftL_len]; exact hk)).1 (Int.le_refl _) (j - i) hk2
        rw [askOf_plc _ _ hk2, liftL_len] at h2
        have hp := plc_lt (n := f.length) (k := k) (d := ((j - i : Nat) : Int) - (c.length : Int) / 2) hb.n1
        have h3 := (lift_le_iff hb.b1 hp).1 (Int.le_refl _) i hi
        rw [askOf_plc _ _ hi, plc_plc hb.n1, show (((j - i : Nat) : Int) - (c.length : Int) / 2) + ((i : Int) - (b.length : Int) / 2) = (j : Int) - ((b.length : Int) / 2 + (c.length : Int) / 2) by omega] at h3
        omega
    omega
theorem under_both (hb : Fine f b) (hc : Fine f c) (hd : Fine f (bothL b c)) : underL (underL f b) c = underL f (bothL b c) := by
  have hh := both_half hb.odd hc.odd
  refine LeL.antisymm ⟨by simp only [underL_len], fun k hk => ?_⟩ ⟨by simp only [underL_len], fun k hk => ?_⟩
  · simp only [underL_len] at hk
    rw [le_under_iff hd.b1 hk]
    intro j hj
    rw [askU_plc _ _ hj, hh]
    rw [bothL_len] at hj
    have h1 : (underL (underL f b) c)[k]?.getD 0 - f[plc f.length k (-((j : Int) - ((b.length : Int) / 2 + (c.length : Int) / 2)))]?.getD 0 ≤ (bothL b c)[j]?.getD 0 := by
      rw [bothL_at hj, le_minTo_iff]
      refine ⟨?_, fun i hi hk1 hk2 => ?_⟩
      · have h2 := (hb.hx (plc f.length k (-((j : Int) - ((b.length : Int) / 2 + (c.length : Int) / 2))))).1
        have h3 := (underL_hts hb.under.hx hc.hy hc.odd hc.mid k).2
        omega
      · have h2 := (le_under_iff hc.b1 (k := k) (xs := underL f b) (by rw [underL_len]; exact hk)).1 (Int.le_refl _) (j - i) hk2
        rw [askU_plc _ _ hk2, underL_len] at h2
        have hp := plc_lt (n := f.length) (k := k) (d := -(((j - i : Nat) : Int) - (c.length : Int) / 2)) hb.n1
        have h3 := (le_under_iff hb.b1 hp).1 (Int.le_refl _) i hi
        rw [askU_plc _ _ hi, plc_plc hb.n1, show -(((j - i : Nat) : Int) - (c.length : Int) / 2) + -((i : Int) - (b.length : Int) / 2) = -((j : Int) - ((b.length : Int) / 2 + (c.length : Int) / 2)) by omega] at h3
        omega
    omega
  · rw [underL_len] at hk
    rw [le_under_iff hc.b1 (by rw [underL_len]; exact hk)]
    intro j hj
    rw [askU_plc _ _ hj, underL_len]
    have hp := plc_lt (n := f.length) (k := k) (d := -((j : Int) - (c.length : Int) / 2)) hb.n1
    have h1 : (underL f (bothL b c))[k]?.getD 0 - c[j]?.getD 0 ≤ (underL f b)[plc f.length k (-((j : Int) - (c.length : Int) / 2))]?.getD 0 := by
      rw [le_under_iff hb.b1 hp]
      intro i hi
      rw [askU_plc _ _ hi, plc_plc hb.n1]
      have h2 := (le_under_iff hd.b1 hk).1 (Int.le_refl _) (i + j) (by rw [bothL_len]; omega)
      rw [askU_plc _ _ (by rw [bothL_len]; omega), hh, show -(((i + j : Nat) : Int) - ((b.length : Int) / 2 + (c.length : Int) / 2)) = -((j : Int) - (c.length : Int) / 2) + -((i : Int) - (b.length : Int) / 2) by omega] at h2
      have h3 := both_le hi hj
      omega
    omega
end
end Go.Proofs.Ytaaceadcnnfngaa
