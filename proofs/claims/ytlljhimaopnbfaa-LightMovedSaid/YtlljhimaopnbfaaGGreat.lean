/- The reference's Great. Condition: the cuts read as a list. -/
import Derived.Test.YtlljhimaopnbfaaGChk
namespace Go.Proofs.Ytlljhimaopnbfaa
open Go.RowKit

/-- A work larger than the statements consider. -/
def greatK (k : WkT) : Bool := decide (20 < k.cuts.length) || k.cuts.any (fun c => decide (20 < c.1.length))

def longC (c : CutT) : Bool := decide (c.1.length ≤ 20)
theorem greatK_iff (k : WkT) : greatK k = (decide (20 < k.cuts.length) || !k.cuts.all longC) := by
  unfold greatK
  congr 1
  rw [Bool.eq_iff_iff]
  simp [longC, List.all_eq_false]

set_option maxRecDepth 100000 in
set_option maxHeartbeats 4000000 in
theorem great_any (k : WkT) (v : Value) (w : World) (hI : CutsIs w v k.cuts) :
    Calls Try.prog 46 #[k.val v] w fun e w' => e = .returned (.bool (greatK k)) ∧ Ext w w' := by
  obtain ⟨A, c, rfl, -, ⟨hcl, hcm⟩, hat⟩ := cutsIs_at hI
  have HAT := Lib.hid hat
  unfold maxLen at hcm
  clear hI hat
  have HG := Lib.hid (greatK_iff k)
  obtain ⟨n, hn⟩ : ∃ n, n = k.cuts.length := ⟨_, rfl⟩
  rw [← hn] at hcl HG ⊢
  have HN := Lib.hid hn
  have hn63 : n ≤ 9223372036854775807 := by omega
  clear hn hcm hcl
  by_cases hl : 20 < n
  · have hld : decide ((20 : Int) < (n : Int)) = true := by simp; omega
    have HR := Lib.hid (show greatK k = true by rw [HG.out]; simp [hl])
    clear hl
    go_enter Try.func46, Try.ntmps46
    go_wp2_with fail
    go_ret
    exact ⟨ret_b HR.out.symm, by (repeat' (first | with_reducible exact Ext.refl _ | with_reducible apply Ext.alloc | with_reducible apply Ext.drew | with_reducible apply Ext.drewN | with_reducible refine Ext.setCell ?_ ?_ _ | with_reducible apply Ext.step | with_reducible assumption | with_reducible exact Nat.le_refl _ | (simp; done) | (simp; omega)))⟩
  have hld : decide ((20 : Int) < (n : Int)) = false := by simp; omega
  have HR := Lib.hid (show greatK k = !k.cuts.all longC by rw [HG.out]; simp [hl])
  clear hl
  go_enter Try.func46, Try.ntmps46
  go_wp2_with fail
  refine lay_wp (fun W => Ext w W ∧ W.cell? ⟨w.heap.size, 12, none⟩ = some (.slice A n c)) ⟨by (repeat' (first | with_reducible exact Ext.refl _ | with_reducible apply Ext.alloc | with_reducible apply Ext.drew | with_reducible apply Ext.drewN | with_reducible refine Ext.setCell ?_ ?_ _ | with_reducible apply Ext.step | with_reducible assumption | with_reducible exact Nat.le_refl _ | (simp; done) | (simp; omega))), by go_cell⟩ ?_
  rintro W1 ⟨x1, c12⟩
  have HX1 := Lib.hid x1
  have l12 := cell_lt c12
  clear x1
  go_loop [3] (fun iv => ∃ j : Nat, j ≤ n ∧ iv = .int .i64 j ∧ Hid (∀ (q : Nat) (hq : q < k.cuts.length), q < j → longC k.cuts[q] = true)) (fun iv => n - (intOf iv).toNat)
  case atStart => exact ⟨0, by omega, rfl, (fun q hq h => by omega)⟩
  case round =>
    obtain ⟨j, hj, rfl, Ha⟩ := hrel
    by_cases hlt : j < n
    · have hjl : j < k.cuts.length := by rw [← HN.out]; exact hlt
      obtain ⟨b, o, T, rfl, hb, d0, d1, d2, hsp⟩ := HAT.out j hjl
      replace d0 := HX1.out.cell_some d0
      have lb := cell_lt d0
      obtain ⟨A2, k2, c2⟩ := T
      obtain ⟨A3, c3, he, -, -, -⟩ := hsp
      simp only [rowV, Value.slice.injEq] at he
      obtain ⟨rfl, rfl, rfl⟩ := he
      obtain ⟨m, hm⟩ : ∃ m, m = k.cuts[j].1.length := ⟨_, rfl⟩
      simp only at d0
      rw [← hm] at d0
      have HM := Lib.hid hm
      clear hm d1 d2
      by_cases hg : 20 < m
      · have hgd : decide ((20 : Int) < (m : Int)) = true := by simp; omega
        have HA2 := Lib.hid (show k.cuts.all longC = false from not_all_at hjl (by rw [longC, ← HM.out]; simp; omega))
        clear hg
        go_wp2_with fail
        go_ret
        exact ⟨ret_b (by rw [HR.out, HA2.out]; rfl), HX1.out⟩
      · have hgd : decide ((20 : Int) < (m : Int)) = false := by simp; omega
        have HA2 := Lib.hid (show ∀ (q : Nat) (hq : q < k.cuts.length), q < j + 1 → longC k.cuts[q] = true from fun q hq h => by
          rcases (by omega : q < j ∨ q = j) with h | rfl
          · exact Ha.out q hq h
          · rw [longC, ← HM.out]; simp; omega)
        clear hg
        go_wp2_with fail
        go_round
        case rel => exact ⟨j + 1, by omega, by go_num, HA2⟩
        case measure => simp [intOf]; omega
    · obtain rfl : j = n := by omega
      have HA2 := Lib.hid (show k.cuts.all longC = true from all_upto HN.out.symm Ha.out)
      go_wp2_with fail
      go_ret
      exact ⟨ret_b (by rw [HR.out, HA2.out]; rfl), HX1.out⟩
end Go.Proofs.Ytlljhimaopnbfaa
