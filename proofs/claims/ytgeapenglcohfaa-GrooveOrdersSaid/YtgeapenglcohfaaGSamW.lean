/- The law's same: two works of the same cuts. Condition: the cuts read as lists. -/
import Derived.Test.YtgeapenglcohfaaGPairs
import Derived.Test.YtgeapenglcohfaaGChk
import Derived.Deep.Cut
namespace Go.Proofs.Ytgeapenglcohfaa
open Go.RowKit

set_option maxRecDepth 100000 in
set_option maxHeartbeats 4000000 in
theorem sameW_any (k : WkT) (u v : Value) (w : World) (hu : CutsIs w u k.cuts) (hv : CutsIs w v k.cuts) :
    Calls Try.prog 42 #[k.val u, k.val v] w fun e w' => e = .returned (.bool true) ∧ Ext w w' := by
  obtain ⟨A, c, rfl, -, ⟨hcl, hcm⟩, hat⟩ := cutsIs_at hu
  obtain ⟨A', c', rfl, -, ⟨hcl', hcm'⟩, hat'⟩ := cutsIs_at hv
  have HAT := Lib.hid hat
  have HAT' := Lib.hid hat'
  unfold maxLen at hcm
  clear hu hv hat hat'
  obtain ⟨n, hn⟩ : ∃ n, n = k.cuts.length := ⟨_, rfl⟩
  rw [← hn] at hcl hcl' ⊢
  have HN := Lib.hid hn
  have hn63 : n ≤ 9223372036854775807 := by omega
  clear hn hcm hcl hcm' hcl'
  go_enter Try.func42, Try.ntmps42
  go_upto_region 1 with fail
  refine lay_wp (fun W => Ext w W ∧ W.cell? ⟨w.heap.size, 12, none⟩ = some (.slice A n c) ∧ W.cell? ⟨w.heap.size + 1, 12, none⟩ = some (.slice A' n c')) ⟨by (repeat' (first | with_reducible exact Ext.refl _ | with_reducible apply Ext.alloc | with_reducible apply Ext.drew | with_reducible apply Ext.drewN | with_reducible refine Ext.setCell ?_ ?_ _ | with_reducible apply Ext.step | with_reducible assumption | with_reducible exact Nat.le_refl _ | (simp; done) | (simp; omega))), by go_cell, by go_cell⟩ ?_
  rintro W1 ⟨x1, c12, c12'⟩
  have HX1 := Lib.hid x1
  have l12 := cell_lt c12
  have l12' := cell_lt c12'
  clear x1
  go_wp2_with fail
  go_loopw [19] (fun iv wr => ∃ j : Nat, j ≤ n ∧ iv = .int .i64 j ∧ Ext W1 wr) (fun iv _ => n - (intOf iv).toNat)
  case atStart => exact ⟨0, by omega, rfl, Ext.refl _⟩
  case round =>
    obtain ⟨j, hj, rfl, hx⟩ := hrel
    have HX := Lib.hid hx
    replace c12 := hx.cell_some c12
    replace c12' := hx.cell_some c12'
    replace l12 := cell_lt c12
    replace l12' := cell_lt c12'
    clear hx
    by_cases hlt : j < n
    · have hjl : j < k.cuts.length := by rw [← HN.out]; exact hlt
      obtain ⟨b, o, T, rfl, hb, d0, d1, d2, hsp⟩ := HAT.out j hjl
      obtain ⟨b', o', T', rfl, hb', d0', d1', d2', hsp'⟩ := HAT'.out j hjl
      have HE := Lib.hid (HX1.out.trans HX.out)
      replace d0 := HE.out.cell_some d0
      replace d1 := HE.out.cell_some d1
      replace d2 := HE.out.cell_some d2
      replace d0' := HE.out.cell_some d0'
      replace d1' := HE.out.cell_some d1'
      replace d2' := HE.out.cell_some d2'
      replace hb := cell_lt d0
      replace hb' := cell_lt d0'
      obtain ⟨A2, k2, c2⟩ := T
      obtain ⟨A3, k3, c3⟩ := T'
      obtain ⟨B2, m2, e2, he2, hm2, -, hr2, hq2⟩ := hsp.open_
      obtain ⟨B3, m3, e3, he3, hm3, -, hr3, hq3⟩ := hsp'.open_
      simp only [rowV, Value.slice.injEq] at he2 he3
      obtain ⟨rfl, rfl, rfl⟩ := he2
      obtain ⟨rfl, rfl, rfl⟩ := he3
      obtain rfl : k2 = k3 := by omega
      have HR2 := Lib.hid hr2
      have HR3 := Lib.hid hr3
      have HM := Lib.hid hm2
      simp only at d0 d0'
      generalize k.cuts[j].2.1 = y at *
      generalize k.cuts[j].2.2 = z at *
      have hz : (k2 : Int) = k2 := rfl
      have hjn : (j : Int) < (n : Int) := by omega
      clear hsp hsp' hr2 hr3 hm2 hm3 hz
      go_upto_region 9 with fail
      refine lay_wp (fun W => Ext wr W ∧ W.cell? ⟨wr.heap.size, 0, none⟩ = some (.slice A2 k2 c2) ∧ W.cell? ⟨wr.heap.size + 1, 0, none⟩ = some (.slice A3 k2 c3)) ⟨by (repeat' (first | with_reducible exact Ext.refl _ | with_reducible apply Ext.alloc | with_reducible apply Ext.drew | with_reducible apply Ext.drewN | with_reducible refine Ext.setCell ?_ ?_ _ | with_reducible apply Ext.step | with_reducible assumption | with_reducible exact Nat.le_refl _ | (simp; done) | (simp; omega))), by go_cell, by go_cell⟩ ?_
      rintro W2 ⟨x2, s0, s1⟩
      have HX2 := Lib.hid (HX.out.trans x2)
      have HE2 := Lib.hid (HE.out.trans x2)
      replace c12 := x2.cell_some c12
      replace c12' := x2.cell_some c12'
      replace l12 := cell_lt c12
      replace l12' := cell_lt c12'
      have ls0 := cell_lt s0
      have ls1 := cell_lt s1
      clear x2 d0 d1 d2 d0' d1' d2' hb hb'
      obtain ⟨wo, rfl⟩ : ∃ wo, wo = wr := ⟨wr, rfl⟩
      obtain ⟨jo, rfl⟩ : ∃ jo, jo = j := ⟨j, rfl⟩
      go_wp2_with fail
      go_loopw [53] (fun iv wr => ∃ i : Nat, i ≤ k2 ∧ iv = .int .i64 i ∧ Ext W2 wr) (fun iv _ => k2 - (intOf iv).toNat)
      case atStart => exact ⟨0, by omega, rfl, Ext.refl _⟩
      case round =>
        obtain ⟨i, hi, rfl, hx⟩ := hrel
        have HY := Lib.hid hx
        replace s0 := hx.cell_some s0
        replace s1 := hx.cell_some s1
        replace ls0 := cell_lt s0
        replace ls1 := cell_lt s1
        clear hx
        by_cases hlt2 : i < k2
        · have hil : i < k.cuts[jo].1.length := by rw [HM.out]; exact hlt2
          obtain ⟨b2, o2, rfl, hb2, g0, g1⟩ := pairs_at (K := spotK) rfl (fun _ => rfl) HR2.out i hil
          obtain ⟨b3, o3, rfl, hb3, g0', g1'⟩ := pairs_at (K := spotK) rfl (fun _ => rfl) HR3.out i hil
          have HE3 := Lib.hid (HE2.out.trans HY.out)
          replace g0 := HE3.out.cell_some g0
          replace g1 := HE3.out.cell_some g1
          replace g0' := HE3.out.cell_some g0'
          replace g1' := HE3.out.cell_some g1'
          replace hb2 := cell_lt g0
          replace hb3 := cell_lt g0'
          have hin : (i : Int) < (k2 : Int) := by omega
          generalize k.cuts[jo].1[i].1 = p1 at *
          generalize k.cuts[jo].1[i].2 = p2 at *
          go_wp2_with fail
          refine wp_region_bext (by kernel_rfl) (by kernel_rfl) ?_
          repeat (any_goals (go_big_quiet_step (fail)))
          all_goals refine wpQuiet_nil ?_
          all_goals rintro _ ⟨δ, rfl⟩
          go_wp2_with fail
          go_roundw
          case rel => exact ⟨i + 1, by omega, by go_num, HY.out.step _⟩
          case measure => simp [intOf]; omega
        · obtain rfl : i = k2 := by omega
          have HZ := Lib.hid (HX2.out.trans HY.out)
          go_wp2_with fail
          go_roundw
          case rel => exact ⟨jo + 1, by omega, by go_num, HZ.out⟩
          case measure => simp [intOf]; omega
    · obtain rfl : j = n := by omega
      have HE := Lib.hid (HX1.out.trans HX.out)
      go_wp2_with fail
      go_ret
      exact ⟨rfl, HE.out⟩
end Go.Proofs.Ytgeapenglcohfaa
