/- Whether two slices of ints are the same: the reference's, the law's, and slices.Equal. Condition: slices read as lists. -/
import Derived.Test.YtkjgcmdabelohaaRCheck
namespace Go.Proofs.Ytkjgcmdabelohaa
open Go.RowKit

theorem beq_false_at {xs ys : List Int} {k : Nat} (hne : xs[k]?.getD 0 ≠ ys[k]?.getD 0) : (xs == ys) = false := by
  rw [beq_eq_false_iff_ne]
  rintro rfl
  exact hne rfl
theorem beq_true_of {xs ys : List Int} (h : xs.length = ys.length) (he : ∀ j, j < xs.length → xs[j]?.getD 0 = ys[j]?.getD 0) : (xs == ys) = true := by
  rw [beq_iff_eq]
  refine List.ext_getElem h fun j h1 h2 => ?_
  have := he j h1
  simpa [h1, h2] using this

set_option maxHeartbeats 400000 in
theorem same_any (u v : Value) (xs ys : List Int) (w : World) (hu : IsI w u xs) (hv : IsI w v ys) :
    Calls Try.prog 23 #[u, v] w fun e w' => e = .returned (.bool (xs == ys)) ∧ Ext w w' := by
  obtain ⟨A, n, c, rfl, hc0, hr, hn⟩ := hu.open_
  obtain ⟨B, m, d, rfl, hd0, hs, hm⟩ := hv.open_
  have HL1 := Lib.hid hr.len
  have HL2 := Lib.hid hs.len
  cases hnm : ((n : Int) != (m : Int))
  · have hnm' : n = m := by
      have := hnm
      simp at this
      omega
    subst hnm'
    go_enter Try.func23, Try.ntmps23
    go_wp2
    go_loopw [5] (fun i wr => ∃ k : Nat, k ≤ n ∧ i = .int .i64 k ∧ Hid (∀ j, j < k → xs[j]?.getD 0 = ys[j]?.getD 0) ∧ Ext w wr) (fun i _ => n - (intOf i).toNat)
    case atStart => exact ⟨0, by omega, rfl, fun j hj => absurd hj (by omega), Ext.refl _⟩
    case round =>
      obtain ⟨k, hk, rfl, Ha, hx⟩ := hrel
      by_cases hlt : k < n
      · obtain ⟨b, o, rfl, _, hc⟩ := hr.at_ k hlt
        obtain ⟨b', o', rfl, _, hc'⟩ := hs.at_ k hlt
        have hc1 := hx.cell_some hc
        have hc2 := hx.cell_some hc'
        clear hc hc'
        by_cases he : xs[k]?.getD 0 = ys[k]?.getD 0
        · have he' := Lib.hid he
          have hne : (xs[k]?.getD 0 != ys[k]?.getD 0) = false := by simp [he]
          clear he
          go_wp2_with fail
          go_quiet (fail)
          go_wp2_with fail
          go_roundw
          case rel =>
            refine ⟨k + 1, by omega, by go_num, fun j hj => ?_, hx.drewN _⟩
            rcases (by omega : j < k ∨ j = k) with h | rfl
            · exact Ha.out j h
            · exact he'.out
          case measure => simp [intOf]; omega
        · have he' := Lib.hid he
          have hne : (xs[k]?.getD 0 != ys[k]?.getD 0) = true := by simp [he]
          clear he
          go_wp2_with fail
          go_quiet (fail)
          go_wp2_with fail
          go_ret
          exact ⟨ret_b (beq_false_at he'.out).symm, hx.drewN _⟩
      · go_wp2
        go_ret
        exact ⟨ret_b (beq_true_of (HL1.out.trans HL2.out.symm) (by rw [HL1.out]; intro j hj; exact Ha.out j (by omega))).symm, hx⟩
  · go_enter Try.func23, Try.ntmps23
    go_wp2
    go_ret
    refine ⟨ret_b ?_, Ext.refl _⟩
    symm
    rw [beq_eq_false_iff_ne]
    rintro rfl
    have := HL1.out.symm.trans HL2.out
    subst this
    simp at hnm

set_option maxHeartbeats 400000 in
theorem equal_any (u v : Value) (xs ys : List Int) (w : World) (hu : IsI w u xs) (hv : IsI w v ys) :
    Calls Try.prog 108 #[u, v] w fun e w' => e = .returned (.bool (xs == ys)) ∧ Ext w w' := by
  obtain ⟨A, n, c, rfl, hc0, hr, hn⟩ := hu.open_
  obtain ⟨B, m, d, rfl, hd0, hs, hm⟩ := hv.open_
  have HL1 := Lib.hid hr.len
  have HL2 := Lib.hid hs.len
  cases hnm : ((n : Int) != (m : Int))
  · have hnm' : n = m := by
      have := hnm
      simp at this
      omega
    subst hnm'
    go_enter Try.func108, Try.ntmps108
    go_wp2
    go_loopw [13, 5] (fun i _ wr => ∃ k : Nat, k ≤ n ∧ i = .int .i64 k ∧ Hid (∀ j, j < k → xs[j]?.getD 0 = ys[j]?.getD 0) ∧ Ext w wr) (fun i _ _ => n - (intOf i).toNat)
    case atStart => exact ⟨0, by omega, rfl, fun j hj => absurd hj (by omega), Ext.refl _⟩
    case round =>
      obtain ⟨k, hk, rfl, Ha, hx⟩ := hrel
      by_cases hlt : k < n
      · obtain ⟨b, o, rfl, _, hc⟩ := hr.at_ k hlt
        obtain ⟨b', o', rfl, _, hc'⟩ := hs.at_ k hlt
        have hc1 := hx.cell_some hc
        have hc2 := hx.cell_some hc'
        clear hc hc'
        by_cases he : xs[k]?.getD 0 = ys[k]?.getD 0
        · have he' := Lib.hid he
          have hne : (xs[k]?.getD 0 != ys[k]?.getD 0) = false := by simp [he]
          clear he
          go_wp2_with fail
          go_quiet (fail)
          go_wp2_with fail
          go_roundw
          case rel =>
            refine ⟨k + 1, by omega, by go_num, fun j hj => ?_, hx.drewN _⟩
            rcases (by omega : j < k ∨ j = k) with h | rfl
            · exact Ha.out j h
            · exact he'.out
          case measure => simp [intOf]; omega
        · have he' := Lib.hid he
          have hne : (xs[k]?.getD 0 != ys[k]?.getD 0) = true := by simp [he]
          clear he
          go_wp2_with fail
          go_quiet (fail)
          go_wp2_with fail
          go_ret
          exact ⟨ret_b (beq_false_at he'.out).symm, hx.drewN _⟩
      · go_wp2
        go_ret
        exact ⟨ret_b (beq_true_of (HL1.out.trans HL2.out.symm) (by rw [HL1.out]; intro j hj; exact Ha.out j (by omega))).symm, hx⟩
  · go_enter Try.func108, Try.ntmps108
    go_wp2
    go_ret
    refine ⟨ret_b ?_, Ext.refl _⟩
    symm
    rw [beq_eq_false_iff_ne]
    rintro rfl
    have := HL1.out.symm.trans HL2.out
    subst this
    simp at hnm

theorem Great_any (v : Value) (zs : List Int) (w : World) (hv : IsI w v zs) :
    Calls Try.prog 27 #[v] w fun e w' => e = .returned (.bool (decide (120 < zs.length))) ∧ w = w' := by
  obtain ⟨A, n, c, rfl, hc0, hr, hn⟩ := hv.open_
  have HL1 := Lib.hid hr.len
  by_cases h : 120 < n
  all_goals
    go_enter Try.func27, Try.ntmps27
    go_wp2
    go_ret
    refine ⟨ret_b ?_, rfl⟩
    rw [HL1.out]
    simp [h]
    try omega
end Go.Proofs.Ytkjgcmdabelohaa
