/- Lifts turn with the rosette; how many axes there are: the plain laws. No program. -/
import Derived.Test.YtaaceadcnnfngaaRPer
namespace Go.Proofs.Ytaaceadcnnfngaa

theorem filter_mod_len (t r : Nat) (hr : r < t) : ∀ m : Nat, ((List.range (t * m)).filter fun k => k % t == r).length = m
  | 0 => by simp
  | m + 1 => by
    have ih := filter_mod_len t r hr m
    rw [Nat.mul_succ, List.range_add, List.filter_append, List.length_append, ih, List.filter_map, List.length_map]
    have h1 : (List.range t).filter ((fun k => k % t == r) ∘ fun x => t * m + x) = (List.range t).filter fun x => x == r := by
      refine List.filter_congr fun x hx => ?_
      have hx := List.mem_range.1 hx
      simp only [Function.comp_apply]
      rw [Nat.mul_add_mod, Nat.mod_eq_of_lt hx]
    have h2 : ∀ n : Nat, r < n → ((List.range n).filter fun x => x == r).length = 1 := fun n => by
      induction n with
      | zero => intro h; omega
      | succ n ih =>
        intro h
        rw [List.range_succ, List.filter_append, List.length_append]
        rcases (by omega : r < n ∨ r = n) with h3 | rfl
        · rw [ih h3]
          have : ((n == r) : Bool) = false := by simp; omega
          simp [this]
        · have : (List.range r).filter (fun x => x == r) = [] := by
            rw [List.filter_eq_nil_iff]
            intro a ha
            have := List.mem_range.1 ha
            simp
            omega
          rw [this]
          simp
    rw [h1, h2 t hr]

theorem imgL_at {zs : List Int} {i : Nat} (h : i < zs.length) : (imgL zs)[i]?.getD 0 = zs[((-(i : Int)) % (zs.length : Int)).toNat]?.getD 0 := by
  simp [imgL, imgTo, h]
theorem imgL_mvL (zs : List Int) (a : Int) : imgL (mvL zs a) = mvL (imgL zs) (-a) := by
  refine list_ext (by rw [imgL_len, mvL_len, mvL_len, imgL_len]) fun i hi => ?_
  rw [imgL_len, mvL_len] at hi
  have e1 := Int.emod_nonneg (-(i : Int)) (show (zs.length : Int) ≠ 0 by omega)
  have e2 := Int.emod_lt_of_pos (-(i : Int)) (show (0 : Int) < zs.length by omega)
  have e3 := Int.emod_nonneg ((i : Int) - -a) (show (zs.length : Int) ≠ 0 by omega)
  have e4 := Int.emod_lt_of_pos ((i : Int) - -a) (show (0 : Int) < zs.length by omega)
  rw [imgL_at (by rw [mvL_len]; exact hi), mvL_len, mvL_at (by omega), mvL_at (by rw [imgL_len]; exact hi), imgL_len, imgL_at (by omega)]
  congr 3
  rw [Int.toNat_of_nonneg e1, Int.toNat_of_nonneg e3, emod_sub_emod]
  rw [show -((i : Int)) - a = 0 - ((i : Int) - -a) by omega, show -(((i : Int) - -a) % (zs.length : Int)) = 0 - ((i : Int) - -a) % (zs.length : Int) by omega, sub_emod_emod]
theorem imgL_imgL (zs : List Int) : imgL (imgL zs) = zs := by
  refine list_ext (by rw [imgL_len, imgL_len]) fun i hi => ?_
  rw [imgL_len, imgL_len] at hi
  have e1 := Int.emod_nonneg (-(i : Int)) (show (zs.length : Int) ≠ 0 by omega)
  have e2 := Int.emod_lt_of_pos (-(i : Int)) (show (0 : Int) < zs.length by omega)
  rw [imgL_at (by rw [imgL_len]; exact hi), imgL_len, imgL_at (by omega), Int.toNat_of_nonneg e1]
  have : (-((-(i : Int)) % (zs.length : Int))) % (zs.length : Int) = i := by
    rw [show -((-(i : Int)) % (zs.length : Int)) = 0 - (-(i : Int)) % (zs.length : Int) by omega, sub_emod_emod, show (0 : Int) - -(i : Int) = i by omega, Int.emod_eq_of_lt (by omega) (by omega)]
  rw [this]
  rfl
section
variable {zs ys f b : List Int} {t : Nat}
theorem LeastT.img (h : LeastT zs t) (hn : 1 ≤ zs.length) : LeastT (imgL zs) t := by
  have key0 : ∀ a : Int, mvL (imgL zs) (-a) = imgL zs ↔ mvL zs a = zs := fun a => by
    rw [← imgL_mvL]
    exact ⟨fun he => by have := congrArg imgL he; rwa [imgL_imgL, imgL_imgL] at this, fun he => by rw [he]⟩
  have key : ∀ a : Int, mvL (imgL zs) a = imgL zs ↔ mvL zs a = zs := fun a => by
    have h1 := key0 (-a)
    rw [Int.neg_neg] at h1
    rw [h1, h.int hn, h.int hn]
    exact ⟨fun h => Int.emod_eq_zero_of_dvd (Int.dvd_neg.1 (Int.dvd_of_emod_eq_zero h)), fun h => Int.emod_eq_zero_of_dvd (Int.dvd_neg.2 (Int.dvd_of_emod_eq_zero h))⟩
  exact ⟨h.pos, (key t).2 h.is, fun s h1 h2 he => h.least s h1 h2 ((key s).1 he)⟩
theorem axes_len (h : LeastT zs t) (hn : 1 ≤ zs.length) : (matchL (imgL zs) zs).length = 0 ∨ (matchL (imgL zs) zs).length = zs.length / t := by
  cases hm : matchL (imgL zs) zs with
  | nil => exact .inl rfl
  | cons a r =>
    obtain ⟨k0, rfl, hk, he, _⟩ := match_some hm
    right
    rw [← hm]
    have hi := h.img hn
    have hni : 1 ≤ (imgL zs).length := by rw [imgL_len]; exact hn
    have h0 := Nat.div_add_mod zs.length t
    rw [h.dvd, Nat.add_zero] at h0
    unfold matchL matchTo
    rw [List.length_map, imgL_len]
    have hf : ((List.range zs.length).filter fun k : Nat => mvL (imgL zs) k == zs) = (List.range (t * (zs.length / t))).filter fun k => k % t == k0 % t := by
      rw [h0]
      refine List.filter_congr fun k _ => ?_
      rw [Bool.eq_iff_iff, beq_iff_eq, beq_iff_eq]
      have h1 : mvL (imgL zs) k = zs ↔ mvL (imgL zs) k = mvL (imgL zs) k0 := by rw [he]
      rw [h1, hi.eq_iff hni, ← Int.emod_eq_emod_iff_emod_sub_eq_zero]
      omega
    rw [hf, filter_mod_len t (k0 % t) (Nat.mod_lt _ h.pos)]
theorem matchTo_pre (xs ys : List Int) (k : Nat) : ∀ m, ∃ r, matchTo xs ys (k + m) = matchTo xs ys k ++ r
  | 0 => ⟨[], by simp⟩
  | m + 1 => by
    obtain ⟨r, hr⟩ := matchTo_pre xs ys k m
    exact ⟨_, by rw [← Nat.add_assoc, matchTo_succ, hr, List.append_assoc]⟩
theorem match_at {xs : List Int} {k : Nat} (hk : k < xs.length) (h : mvL xs k = ys) : (matchTo xs ys k).length < (matchL xs ys).length ∧ (matchL xs ys)[(matchTo xs ys k).length]?.getD 0 = (k : Int) := by
  obtain ⟨r, hr⟩ := matchTo_pre xs ys (k + 1) (xs.length - (k + 1))
  rw [Nat.add_sub_cancel' (by omega), matchTo_succ, if_pos (by simpa using h)] at hr
  unfold matchL
  rw [hr]
  simp
theorem lift_turn (f b : List Int) (hb : 1 ≤ b.length) (a : Int) : liftL (mvL f a) b = mvL (liftL f b) a := by
  refine list_ext (by rw [liftL_len, mvL_len, mvL_len, liftL_len]) fun i hi => ?_
  rw [liftL_len, mvL_len] at hi
  have hn : 1 ≤ f.length := by omega
  have e1 := Int.emod_nonneg ((i : Int) - a) (show (f.length : Int) ≠ 0 by omega)
  have e2 := Int.emod_lt_of_pos ((i : Int) - a) (show (0 : Int) < f.length by omega)
  rw [mvL_at (by rw [liftL_len]; exact hi), liftL_len]
  have hp : (((i : Int) - a) % (f.length : Int)).toNat < f.length := by omega
  have key : ∀ j, j < b.length → askOf (mvL f a) b b.length i j = askOf f b b.length (((i : Int) - a) % (f.length : Int)).toNat j := fun j hj => by
    rw [askOf_plc _ _ hj, askOf_plc _ _ hj, mvL_len, mvL_at (plc_lt hn), plc_cast hn]
    congr 3
    unfold plc
    rw [Int.toNat_of_nonneg e1, emod_sub_emod, Int.emod_add_emod]
    congr 2
    omega
  have h1 : ∀ M, (liftL (mvL f a) b)[i]?.getD 0 ≤ M ↔ (liftL f b)[(((i : Int) - a) % (f.length : Int)).toNat]?.getD 0 ≤ M := fun M => by
    rw [lift_le_iff hb (by rw [mvL_len]; exact hi), lift_le_iff hb hp]
    exact ⟨fun h j hj => by rw [← key j hj]; exact h j hj, fun h j hj => by rw [key j hj]; exact h j hj⟩
  exact Int.le_antisymm ((h1 _).2 (Int.le_refl _)) ((h1 _).1 (Int.le_refl _))
theorem period_lift {t' : Nat} (h : LeastT f t) (h' : LeastT (liftL f b) t') (hb : 1 ≤ b.length) : t % t' = 0 := by
  rw [← least_iff h', ← lift_turn f b hb, h.is]
end
end Go.Proofs.Ytaaceadcnnfngaa
