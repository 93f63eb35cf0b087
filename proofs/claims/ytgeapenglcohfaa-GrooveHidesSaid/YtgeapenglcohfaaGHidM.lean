/- GrooveHides: the law's walk. Condition: slices read as lists. -/
import Derived.Test.YtgeapenglcohfaaGHidL
namespace Go.Proofs.Ytgeapenglcohfaa
open Go.RowKit Go.Shelf

set_option maxRecDepth 100000 in
set_option maxHeartbeats 4000000 in
theorem refHide_any (v : Value) (made : List Int) (left most : Int) (w : World) (hI : IsI w v made) :
    Calls Try.prog 27 #[v, .int .i64 left, .int .i64 most] w (RetIE w (hideO made left most) (hideE made left most)) := by
  obtain ⟨A, k, c, rfl, hc0, hz, hkm⟩ := hI.open_
  have hlen := hz.len
  have HNI := Lib.hid fun W : World => (OwnI.nil 0 W).isI
  by_cases h1 : 60 < k
  · have HR := Lib.hid (show hideE made left most = 4 ∧ hideO made left most = [] by unfold hideE hideO; rw [if_pos (by omega), if_pos (by omega)]; exact ⟨rfl, rfl⟩)
    have hkd : decide ((60 : Int) < (k : Int)) = true := by simp; omega
    clear h1 hI hz hlen hc0
    go_enter Try.func27, Try.ntmps27
    go_wp2_with fail
    go_ret2
    exact ⟨_, by rw [HR.out.1]; rfl, by rw [HR.out.2]; exact HNI.out _, by (repeat' (first | with_reducible exact Ext.refl _ | with_reducible apply Ext.alloc | with_reducible apply Ext.drew | with_reducible apply Ext.drewN | with_reducible refine Ext.setCell ?_ ?_ _ | with_reducible apply Ext.step | with_reducible assumption | with_reducible exact Nat.le_refl _ | (simp; done) | (simp; omega)))⟩
  have hkd : decide ((60 : Int) < (k : Int)) = false := by simp; omega
  have HB := Lib.hid fun hb => hide_bad (made := made) (left := left) (most := most) (fun h => h1 (by omega)) hb
  by_cases h2 : k = 0
  · have HR := Lib.hid (HB.out (by unfold hideOk; rw [hlen, h2]; rfl))
    have hkb : ((k : Int) == 0) = true := by simp; omega
    clear h1 hI hz hlen hc0 HB h2
    go_enter Try.func27, Try.ntmps27
    go_wp2_with fail
    go_ret2
    exact ⟨_, by rw [HR.out.1]; rfl, by rw [HR.out.2]; exact HNI.out _, by (repeat' (first | with_reducible exact Ext.refl _ | with_reducible apply Ext.alloc | with_reducible apply Ext.drew | with_reducible apply Ext.drewN | with_reducible refine Ext.setCell ?_ ?_ _ | with_reducible apply Ext.step | with_reducible assumption | with_reducible exact Nat.le_refl _ | (simp; done) | (simp; omega)))⟩
  have hkb : ((k : Int) == 0) = false := by simp; omega
  have HG := Lib.hid (within_any left 0 60 w)
  have HG2 := Lib.hid (within_any most 0 20 w)
  cases h4 : inB 0 60 left
  · have HR := Lib.hid (HB.out (by unfold hideOk; rw [h4]; simp))
    rw [h4] at HG
    clear h1 hI hz hlen hc0 HB h2 h4
    go_enter Try.func27, Try.ntmps27
    go_wp2_with fail
    refine HG.out.mono ?_
    rintro e _ ⟨rfl, rfl⟩
    go_wp2_with fail
    go_ret2
    exact ⟨_, by rw [HR.out.1]; rfl, by rw [HR.out.2]; exact HNI.out _, by (repeat' (first | with_reducible exact Ext.refl _ | with_reducible apply Ext.alloc | with_reducible apply Ext.drew | with_reducible apply Ext.drewN | with_reducible refine Ext.setCell ?_ ?_ _ | with_reducible apply Ext.step | with_reducible assumption | with_reducible exact Nat.le_refl _ | (simp; done) | (simp; omega)))⟩
  cases h5 : inB 0 20 most
  · have HR := Lib.hid (HB.out (by unfold hideOk; rw [h5]; simp))
    rw [h4] at HG
    rw [h5] at HG2
    clear h1 hI hz hlen hc0 HB h2 h4 h5
    go_enter Try.func27, Try.ntmps27
    go_wp2_with fail
    refine HG.out.mono ?_
    rintro e _ ⟨rfl, rfl⟩
    go_wp2_with fail
    refine HG2.out.mono ?_
    rintro e _ ⟨rfl, rfl⟩
    go_wp2_with fail
    go_ret2
    exact ⟨_, by rw [HR.out.1]; rfl, by rw [HR.out.2]; exact HNI.out _, by (repeat' (first | with_reducible exact Ext.refl _ | with_reducible apply Ext.alloc | with_reducible apply Ext.drew | with_reducible apply Ext.drewN | with_reducible refine Ext.setCell ?_ ?_ _ | with_reducible apply Ext.step | with_reducible assumption | with_reducible exact Nat.le_refl _ | (simp; done) | (simp; omega)))⟩
  cases h3 : allB (-20) 20 made
  · have HR := Lib.hid (HB.out (by unfold hideOk; rw [h3]; simp))
    rw [h4] at HG
    rw [h5] at HG2
    have HAT := Lib.hid fun (j : Nat) (h : j < k) => hz.at_ j h
    have HNO := Lib.hid (show (∀ j, j < k → inB (-20) 20 (made[j]?.getD 0) = true) → False from fun h => by
      have : allB (-20) 20 made = true := List.all_eq_true.2 fun x hx => by
        obtain ⟨j, hj, rfl⟩ := List.getElem_of_mem hx
        have := h j (by omega)
        rwa [List.getElem?_eq_getElem hj] at this
      rw [h3] at this
      cases this)
    clear hI hz hlen hc0 HB h4 h5 h3
    go_enter Try.func27, Try.ntmps27
    go_wp2_with fail
    refine HG.out.mono ?_
    rintro e _ ⟨rfl, rfl⟩
    go_wp2_with fail
    refine HG2.out.mono ?_
    rintro e _ ⟨rfl, rfl⟩
    go_wp2_with fail
    go_loop [8] (fun iv => ∃ j : Nat, j ≤ k ∧ iv = .int .i64 j ∧ Hid (∀ q, q < j → inB (-20) 20 (made[q]?.getD 0) = true)) (fun iv => k - (intOf iv).toNat)
    case atStart => exact ⟨0, by omega, rfl, fun q hq => by omega⟩
    case round =>
      obtain ⟨j, hj, rfl, Ha⟩ := hrel
      by_cases hjk : j < k
      · obtain ⟨b2, o2, rfl, _, hc⟩ := HAT.out j hjk
        have HGY := Lib.hid (within_any (made[j]?.getD 0) (-20) 20 w)
        obtain ⟨y, hy⟩ : ∃ y, y = made[j]?.getD 0 := ⟨_, rfl⟩
        rw [← hy] at hc HGY
        have HY := Lib.hid hy
        clear hy
        cases h6 : inB (-20) 20 y
        · rw [h6] at HGY
          clear h6
          go_wp2_with fail
          refine HGY.out.mono ?_
          rintro e _ ⟨rfl, rfl⟩
          go_wp2_with fail
          go_ret2
          exact ⟨_, by rw [HR.out.1]; rfl, by rw [HR.out.2]; exact HNI.out _, by (repeat' (first | with_reducible exact Ext.refl _ | with_reducible apply Ext.alloc | with_reducible apply Ext.drew | with_reducible apply Ext.drewN | with_reducible refine Ext.setCell ?_ ?_ _ | with_reducible apply Ext.step | with_reducible assumption | with_reducible exact Nat.le_refl _ | (simp; done) | (simp; omega)))⟩
        · rw [h6] at HGY
          have HA2 := Lib.hid (show ∀ q, q < j + 1 → inB (-20) 20 (made[q]?.getD 0) = true from fun q hq => by
            rcases (by omega : q < j ∨ q = j) with h | rfl
            · exact Ha.out q h
            · rw [← HY.out]; exact h6)
          clear h6
          go_wp2_with fail
          refine HGY.out.mono ?_
          rintro e _ ⟨rfl, rfl⟩
          go_wp2_with fail
          go_round
          case rel => exact ⟨j + 1, by omega, by go_num, HA2⟩
          case measure => simp [intOf]; omega
      · obtain rfl : j = k := by omega
        exact (HNO.out Ha.out).elim
  obtain ⟨L, rfl⟩ : ∃ L : Nat, left = L := ⟨left.toNat, by have := (inB_iff.1 h4).1; omega⟩
  have hL := (inB_iff.1 h4).2
  obtain ⟨hm0, hm1⟩ := inB_iff.1 h5
  have hok : hideOk made L most = true := by unfold hideOk; rw [h3, h4, h5]; simp; omega
  have hE : hideE made L most = if (hideRes made L most).isSome then 0 else 6 := by unfold hideE; rw [if_neg (by omega), if_pos hok]
  have hO : hideO made L most = ((hideRes made L most).map Prod.fst).getD [] := by unfold hideO; rw [if_neg (by omega), if_pos hok]
  have hR : hideRes made L most = hideR (made[0]?.getD 0) most L (made[k - 1]?.getD 0) (L + 1) := by unfold hideRes; rw [hlen, Int.toNat_natCast]
  refine (refHide_good A k c made L most w hz (by omega) (by omega) h3 (by omega) hm0 hm1).mono ?_
  rintro e w' ⟨v, er, xs, rfl, hi, hx, ⟨g3, rfl, rfl⟩ | ⟨la, g3, rfl⟩⟩
  · rw [hE, hO, hR, g3]
    exact ⟨v, rfl, hi, hx⟩
  · rw [hE, hO, hR, g3]
    exact ⟨v, rfl, hi, hx⟩

set_option maxRecDepth 100000 in
set_option maxHeartbeats 4000000 in
theorem lawHides_any (v : Value) (made : List Int) (left most : Int) (w : World) (hI : IsI w v made) :
    Calls Try.prog 4 #[v, .int .i64 left, .int .i64 most] w fun e w' => e = .returned (.bool true) ∧ Ext w w' := by
  have HI := Lib.hid hI
  obtain ⟨A, k, c, rfl, hc0, hz, hkm⟩ := hI.open_
  have hlen := hz.len
  clear hI hz hc0
  by_cases h1 : 80 < k
  · have hkd : decide ((80 : Int) < (k : Int)) = true := by simp; omega
    clear h1 hlen
    go_enter Try.func4, Try.ntmps4
    go_wp2_with fail
    go_ret
    exact ⟨rfl, by (repeat' (first | with_reducible exact Ext.refl _ | with_reducible apply Ext.alloc | with_reducible apply Ext.drew | with_reducible apply Ext.drewN | with_reducible refine Ext.setCell ?_ ?_ _ | with_reducible apply Ext.step | with_reducible assumption | with_reducible exact Nat.le_refl _ | (simp; done) | (simp; omega)))⟩
  have hkd : decide ((80 : Int) < (k : Int)) = false := by simp; omega
  have HZ := Lib.hid (show ([] : List Int).length + made.length ≤ 10000000000 by rw [List.length_nil]; omega)
  have HM := Lib.hid (OwnI.made w.heap.size w 0 (Nat.le_refl _) #[] (by decide) rfl)
  have HBB := Lib.hid (show w.heap.size ≤ (w.alloc (.cells #[] 3)).heap.size by simp)
  have HU := Lib.hid (HI.out.ext ((Ext.refl w).alloc (.cells #[] 3)))
  clear h1 hlen
  go_enter Try.func4, Try.ntmps4
  go_wp2_with (at_builtin; refine app_all rfl _ _ rfl rfl rfl HU.out HM.out HBB.out HZ.out ?_; intro v1 w1 o1 b1)
  have X1 := Lib.hid (show Ext w w1 from ((Ext.refl w).alloc (.cells #[] 3)).below b1 (Nat.le_refl _))
  have O1 := Lib.hid (show IsI w1 v1 made from (show OwnI w.heap.size w1 v1 made by simpa using o1).isI)
  clear o1 b1 HM HBB HU HZ
  refine (hide_any v1 made left most w1 O1.out).mono ?_
  rintro e w2 ⟨v2, rfl, i2, x2⟩
  have X2 := Lib.hid (X1.out.trans x2)
  have O2 := Lib.hid (O1.out.ext x2)
  have I2 := Lib.hid i2
  clear x2 i2 O1 X1
  go_wp2_with fail
  refine (refHide_any _ made left most w2 (HI.out.ext X2.out)).mono ?_
  rintro e w3 ⟨v3, rfl, i3, x3⟩
  have X3 := Lib.hid (X2.out.trans x3)
  have O3 := Lib.hid (O2.out.ext x3)
  have I3 := Lib.hid (I2.out.ext x3)
  have J3 := Lib.hid i3
  clear x3 i3 O2 X2 I2
  generalize hideO made left most = zs at *
  generalize hideE made left most = er at *
  go_wp2_with fail
  refine (same_any v2 v3 zs zs w3 I3.out J3.out).mono ?_
  rintro e w4 ⟨rfl, x4⟩
  have X4 := Lib.hid (X3.out.trans x4)
  have O4 := Lib.hid (O3.out.ext x4)
  have Hb := Lib.hid (show (zs == zs) = true from beq_self_eq_true zs)
  rw [Hb.out]
  clear x4 X3 O3 I3 J3 Hb
  go_wp2_with fail
  refine (same_any v1 _ made made w4 O4.out (HI.out.ext X4.out)).mono ?_
  rintro e w5 ⟨rfl, x5⟩
  have X5 := Lib.hid (X4.out.trans x5)
  rw [show (made == made) = true from beq_self_eq_true made]
  clear x5 X4 O4
  go_wp2_with fail
  go_ret
  exact ⟨rfl, X5.out⟩
end Go.Proofs.Ytgeapenglcohfaa
