/- What is lifted, closed, ground or counted turns with the rosette, and mirrors with it: the plain laws. No program. -/
import Derived.Test.YtaaceadcnnfngaaRAll
import Derived.Test.YtaaceadcnnfngaaCCount2
import Derived.Test.YtaaceadcnnfngaaRPer2
namespace Go.Proofs.Ytaaceadcnnfngaa

theorem under_turn (f b : List Int) (hb : 1 ≤ b.length) (a : Int) : underL (mvL f a) b = mvL (underL f b) a := by
  refine list_ext (by rw [underL_len, mvL_len, mvL_len, underL_len]) fun i hi => ?_
  rw [underL_len, mvL_len] at hi
  have hn : 1 ≤ f.length := by omega
  have e1 := Int.emod_nonneg ((i : Int) - a) (show (f.length : Int) ≠ 0 by omega)
  have e2 := Int.emod_lt_of_pos ((i : Int) - a) (show (0 : Int) < f.length by omega)
  rw [mvL_at (by rw [underL_len]; exact hi), underL_len]
  have hp : (((i : Int) - a) % (f.length : Int)).toNat < f.length := by omega
  have key : ∀ j, j < b.length → askU (mvL f a) b b.length i j = askU f b b.length (((i : Int) - a) % (f.length : Int)).toNat j := fun j hj => by
    rw [askU_plc _ _ hj, askU_plc _ _ hj, mvL_len, mvL_at (plc_lt hn), plc_cast hn]
    congr 3
    unfold plc
    rw [Int.toNat_of_nonneg e1, emod_sub_emod, Int.emod_add_emod]
    congr 2
    omega
  have h1 : ∀ M, M ≤ (underL (mvL f a) b)[i]?.getD 0 ↔ M ≤ (underL f b)[(((i : Int) - a) % (f.length : Int)).toNat]?.getD 0 := fun M => by
    rw [le_under_iff hb (by rw [mvL_len]; exact hi), le_under_iff hb hp]
    exact ⟨fun h j hj => by rw [← key j hj]; exact h j hj, fun h j hj => by rw [key j hj]; exact h j hj⟩
  exact Int.le_antisymm ((h1 _).1 (Int.le_refl _)) ((h1 _).2 (Int.le_refl _))
theorem rev_at {b : List Int} {j : Nat} (hj : j < b.length) : b.reverse[j]?.getD 0 = b[b.length - 1 - j]?.getD 0 := by rw [List.getElem?_reverse hj]
theorem lift_img (f b : List Int) (ho : b.length % 2 = 1) : liftL (imgL f) b.reverse = imgL (liftL f b) := by
  have hb : 1 ≤ b.length := by omega
  have hr : 1 ≤ b.reverse.length := by rw [List.length_reverse]; exact hb
  refine list_ext (by rw [liftL_len, imgL_len, imgL_len, liftL_len]) fun i hi => ?_
  rw [liftL_len, imgL_len] at hi
  have hn : 1 ≤ f.length := by omega
  have e1 := Int.emod_nonneg (-(i : Int)) (show (f.length : Int) ≠ 0 by omega)
  have e2 := Int.emod_lt_of_pos (-(i : Int)) (show (0 : Int) < f.length by omega)
  rw [imgL_at (by rw [liftL_len]; exact hi), liftL_len]
  have hp : ((-(i : Int)) % (f.length : Int)).toNat < f.length := by omega
  have key : ∀ j, j < b.length → askOf (imgL f) b.reverse b.reverse.length i j = askOf f b b.length ((-(i : Int)) % (f.length : Int)).toNat (b.length - 1 - j) := fun j hj => by
    rw [List.length_reverse, askOf_plc _ _ hj, askOf_plc _ _ (by omega), imgL_len, imgL_at (plc_lt hn), plc_cast hn, rev_at hj]
    congr 3
    unfold plc
    rw [Int.toNat_of_nonneg e1, Int.emod_add_emod]
    have h3 : -(((i : Int) + ((j : Int) - (b.length : Int) / 2)) % (f.length : Int)) = 0 - ((i : Int) + ((j : Int) - (b.length : Int) / 2)) % (f.length : Int) := by omega
    rw [h3, sub_emod_emod]
    congr 2
    omega
  have h1 : ∀ M, (liftL (imgL f) b.reverse)[i]?.getD 0 ≤ M ↔ (liftL f b)[((-(i : Int)) % (f.length : Int)).toNat]?.getD 0 ≤ M := fun M => by
    rw [lift_le_iff hr (by rw [imgL_len]; exact hi), lift_le_iff hb hp]
    constructor
    · intro h j hj
      have := h (b.length - 1 - j) (by rw [List.length_reverse]; omega)
      rw [key _ (by omega), show b.length - 1 - (b.length - 1 - j) = j by omega] at this
      exact this
    · intro h j hj
      rw [List.length_reverse] at hj
      rw [key j hj]
      exact h _ (by omega)
  exact Int.le_antisymm ((h1 _).2 (Int.le_refl _)) ((h1 _).1 (Int.le_refl _))
theorem under_img (f b : List Int) (ho : b.length % 2 = 1) : underL (imgL f) b.reverse = imgL (underL f b) := by
  have hb : 1 ≤ b.length := by omega
  have hr : 1 ≤ b.reverse.length := by rw [List.length_reverse]; exact hb
  refine list_ext (by rw [underL_len, imgL_len, imgL_len, underL_len]) fun i hi => ?_
  rw [underL_len, imgL_len] at hi
  have hn : 1 ≤ f.length := by omega
  have e1 := Int.emod_nonneg (-(i : Int)) (show (f.length : Int) ≠ 0 by omega)
  have e2 := Int.emod_lt_of_pos (-(i : Int)) (show (0 : Int) < f.length by omega)
  rw [imgL_at (by rw [underL_len]; exact hi), underL_len]
  have hp : ((-(i : Int)) % (f.length : Int)).toNat < f.length := by omega
  have key : ∀ j, j < b.length → askU (imgL f) b.reverse b.reverse.length i j = askU f b b.length ((-(i : Int)) % (f.length : Int)).toNat (b.length - 1 - j) := fun j hj => by
    rw [List.length_reverse, askU_plc _ _ hj, askU_plc _ _ (by omega), imgL_len, imgL_at (plc_lt hn), plc_cast hn, rev_at hj]
    congr 3
    unfold plc
    rw [Int.toNat_of_nonneg e1, Int.emod_add_emod]
    have h3 : -(((i : Int) + -((j : Int) - (b.length : Int) / 2)) % (f.length : Int)) = 0 - ((i : Int) + -((j : Int) - (b.length : Int) / 2)) % (f.length : Int) := by omega
    rw [h3, sub_emod_emod]
    congr 2
    omega
  have h1 : ∀ M, M ≤ (underL (imgL f) b.reverse)[i]?.getD 0 ↔ M ≤ (underL f b)[((-(i : Int)) % (f.length : Int)).toNat]?.getD 0 := fun M => by
    rw [le_under_iff hr (by rw [imgL_len]; exact hi), le_under_iff hb hp]
    constructor
    · intro h j hj
      have := h (b.length - 1 - j) (by rw [List.length_reverse]; omega)
      rw [key _ (by omega), show b.length - 1 - (b.length - 1 - j) = j by omega] at this
      exact this
    · intro h j hj
      rw [List.length_reverse] at hj
      rw [key j hj]
      exact h _ (by omega)
  exact Int.le_antisymm ((h1 _).1 (Int.le_refl _)) ((h1 _).2 (Int.le_refl _))

section
variable {f b : List Int}
theorem close_turn (hb : 1 ≤ b.length) (a : Int) : closeL (mvL f a) b = mvL (closeL f b) a := by rw [closeL, closeL, lift_turn f b hb, under_turn _ b hb]
theorem grind_turn (hb : 1 ≤ b.length) (a : Int) : grindL (mvL f a) b = mvL (grindL f b) a := by rw [grindL, grindL, under_turn f b hb, lift_turn _ b hb]
theorem close_img (ho : b.length % 2 = 1) : closeL (imgL f) b.reverse = imgL (closeL f b) := by rw [closeL, closeL, lift_img f b ho, under_img _ b ho]
theorem grind_img (ho : b.length % 2 = 1) : grindL (imgL f) b.reverse = imgL (grindL f b) := by rw [grindL, grindL, under_img f b ho, lift_img _ b ho]
theorem imgL_hts (h : Hts f) : Hts (imgL f) := fun i => by
  rcases Nat.lt_or_ge i f.length with hi | hi
  · rw [imgL_at hi]; exact h _
  · rw [List.getElem?_eq_none (by rw [imgL_len]; exact hi)]; simp
theorem rev_hts (h : Hts b) : Hts b.reverse := fun i => by
  rcases Nat.lt_or_ge i b.length with hi | hi
  · rw [rev_at hi]; exact h _
  · rw [List.getElem?_eq_none (by rw [List.length_reverse]; exact hi)]; simp
theorem Fine.turn (h : Fine f b) (a : Int) : Fine (mvL f a) b := ⟨by rw [mvL_len]; exact h.lo, by rw [mvL_len]; exact h.hi, h.odd, by rw [mvL_len]; exact h.le, h.le31, mvL_hts h.hx a, h.hy, h.mid⟩
theorem Fine.img (h : Fine f b) : Fine (imgL f) b.reverse := by
  have ho := h.odd
  refine ⟨by rw [imgL_len]; exact h.lo, by rw [imgL_len]; exact h.hi, by rw [List.length_reverse]; exact ho, by rw [imgL_len, List.length_reverse]; exact h.le, by rw [List.length_reverse]; exact h.le31, imgL_hts h.hx, rev_hts h.hy, ?_⟩
  rw [List.length_reverse, rev_at (by omega), show b.length - 1 - b.length / 2 = b.length / 2 by omega]
  exact h.mid

theorem rev_turn (zs : List Int) : (mvL zs ((zs.length : Int) - 1)).reverse = imgL zs := by
  refine list_ext (by rw [List.length_reverse, mvL_len, imgL_len]) fun i hi => ?_
  rw [List.length_reverse, mvL_len] at hi
  rw [rev_at (by rw [mvL_len]; exact hi), mvL_len, mvL_at (by omega), imgL_at hi]
  congr 4
  omega
theorem get_mem {zs : List Int} {M : Int} (h : ∀ x ∈ zs, 0 ≤ x ∧ x ≤ M) (hM : 0 ≤ M) (i : Nat) : 0 ≤ zs[i]?.getD 0 ∧ zs[i]?.getD 0 ≤ M := by
  rcases Nat.lt_or_ge i zs.length with hi | hi
  · rw [List.getElem?_eq_getElem hi]; exact h _ (List.getElem_mem hi)
  · rw [List.getElem?_eq_none hi]; exact ⟨Int.le_refl _, hM⟩
theorem mem_get {zs : List Int} {M : Int} (h : ∀ i, i < zs.length → 0 ≤ zs[i]?.getD 0 ∧ zs[i]?.getD 0 ≤ M) : ∀ x ∈ zs, 0 ≤ x ∧ x ≤ M := fun x hx => by
  obtain ⟨i, hi, rfl⟩ := List.getElem_of_mem hx
  have := h i hi
  rwa [List.getElem?_eq_getElem hi] at this
theorem allL_turn {M n : Nat} {x : List Int} (h : x ∈ allL M n) (a : Int) : mvL x a ∈ allL M n := by
  obtain ⟨h1, h2⟩ := allL_mem.1 h
  refine allL_mem.2 ⟨by rw [mvL_len]; exact h1, mem_get fun i hi => ?_⟩
  rw [mvL_len] at hi
  rw [mvL_at hi]
  exact get_mem h2 (by omega) _
theorem allL_img {M n : Nat} {x : List Int} (h : x ∈ allL M n) : imgL x ∈ allL M n := by
  obtain ⟨h1, h2⟩ := allL_mem.1 h
  refine allL_mem.2 ⟨by rw [imgL_len]; exact h1, mem_get fun i hi => ?_⟩
  rw [imgL_len] at hi
  rw [imgL_at hi]
  exact get_mem h2 (by omega) _
theorem turn_back (x : List Int) (a : Int) : mvL (mvL x a) (-a) = x := by rw [mvL_add, show a + -a = 0 by omega, mvL_zero]
theorem allN_turn_le (hb : 1 ≤ b.length) (M : Nat) (a : Int) : allN M f b ≤ allN M (mvL f a) b := by
  unfold allN
  rw [mvL_len]
  refine countP_le_of (φ := fun x => mvL x a) (allL_nodup M _) (fun x hx => allL_turn hx a) (fun x _ y _ e => ?_) fun x _ h => ?_
  · have := congrArg (fun z => mvL z (-a)) e
    simpa only [turn_back] using this
  · rw [beq_iff_eq] at h ⊢
    rw [lift_turn x b hb, h]
theorem allN_turn (hb : 1 ≤ b.length) (M : Nat) (a : Int) : allN M (mvL f a) b = allN M f b := by
  refine Nat.le_antisymm ?_ (allN_turn_le hb M a)
  have := allN_turn_le (f := mvL f a) hb M (-a)
  rwa [turn_back] at this
theorem allN_img_le (ho : b.length % 2 = 1) (M : Nat) : allN M f b ≤ allN M (imgL f) b.reverse := by
  unfold allN
  rw [imgL_len]
  refine countP_le_of (φ := imgL) (allL_nodup M _) (fun x hx => allL_img hx) (fun x _ y _ e => ?_) fun x _ h => ?_
  · have := congrArg imgL e
    simpa only [imgL_imgL] using this
  · rw [beq_iff_eq] at h ⊢
    rw [lift_img x b ho, h]
theorem allN_img (ho : b.length % 2 = 1) (M : Nat) : allN M (imgL f) b.reverse = allN M f b := by
  refine Nat.le_antisymm ?_ (allN_img_le ho M)
  have := allN_img_le (f := imgL f) (b := b.reverse) (by rw [List.length_reverse]; exact ho) M
  rwa [imgL_imgL, List.reverse_reverse] at this
theorem countN_all (hf : Fine f b) {M : Nat} (hM : ∀ i : Nat, f[i]?.getD 0 ≤ (M : Int)) (hM2 : M ≤ 10000) (h7 : b.length ≤ 7) : countN f b = (allN M f b : Int) % 1000000007 := by
  unfold countN
  by_cases hfd : foundB f b = true
  · rw [if_pos ⟨fine_iff.2 hf, h7, hfd⟩, count_all hf (beq_iff_eq.1 hfd) hM]
  · rw [if_neg (fun h => hfd h.2.2), allN_none hf (fun e => hfd (beq_iff_eq.2 e)) M hM2]
    rfl
theorem countN_big (h7 : ¬ b.length ≤ 7) : countN f b = 0 := by rw [countN, if_neg (fun h => h7 h.2.1)]
theorem countEr_fine (hf : Fine f b) : countEr f b = if 7 < b.length then 4 else 0 := by rw [countEr, if_pos (fine_iff.2 hf)]
theorem count_turn (hf : Fine f b) (a : Int) : countN (mvL f a) b = countN f b ∧ countEr (mvL f a) b = countEr f b := by
  refine ⟨?_, by rw [countEr_fine hf, countEr_fine (hf.turn a)]⟩
  by_cases h7 : b.length ≤ 7
  · rw [countN_all (hf.turn a) (M := 10000) (fun i => ((hf.turn a).hx i).2) (by decide) h7, countN_all hf (M := 10000) (fun i => (hf.hx i).2) (by decide) h7, allN_turn hf.b1]
  · rw [countN_big h7, countN_big h7]
theorem count_img (hf : Fine f b) : countN (imgL f) b.reverse = countN f b ∧ countEr (imgL f) b.reverse = countEr f b := by
  refine ⟨?_, by rw [countEr_fine hf, countEr_fine hf.img, List.length_reverse]⟩
  by_cases h7 : b.length ≤ 7
  · rw [countN_all hf.img (M := 10000) (fun i => (hf.img.hx i).2) (by decide) (by rw [List.length_reverse]; exact h7), countN_all hf (M := 10000) (fun i => (hf.hx i).2) (by decide) h7, allN_img hf.odd]
  · rw [countN_big h7, countN_big (by rw [List.length_reverse]; exact h7)]
end
end Go.Proofs.Ytaaceadcnnfngaa
