/- groove.isLine, and the reference's Line. Condition: the slice reads as a list. -/
import Derived.Test.YtlljhimaopnbfaaFrom
import Derived.Test.YtlljhimaopnbfaaElem
import Derived.BigGuardPart
namespace Go.Proofs.Ytlljhimaopnbfaa
open Go.RowKit

def spotK : EK (Int × Int) := ⟨76, 104, 2, fun x => [.int .i64 x.1, .int .i64 x.2], .agg #[.int .i64 0, .int .i64 0], 16, Try.underlying104, by kernel_rfl, rfl, by decide, by decide, fun _ => rfl, by simp [Value.oneCell']⟩
def spotOk (s : Int × Int) : Bool := inB (-10000) 10000 s.1 && inB (-10000) 10000 s.2
def lineB (xs : List (Int × Int)) : Bool := xs.all spotOk && inB 1 12 xs.length
theorem spotK_at {w : World} {A : Option Addr} {xs : List (Int × Int)} (h : spotK.Row w A xs) {j : Nat} (hj : j < xs.length) : ∃ b o, A = some ⟨b, o, none⟩ ∧ b < w.heap.size ∧ w.cell? ⟨b, o + j * 2, none⟩ = some (.int .i64 xs[j].1) ∧ w.cell? ⟨b, o + j * 2 + 1, none⟩ = some (.int .i64 xs[j].2) := by
  obtain ⟨b, o, rfl, hb, hc⟩ := h j hj
  exact ⟨b, o, rfl, hb, hc 0 _ rfl, hc 1 _ rfl⟩
theorem all_upto {α : Type} {p : α → Bool} {xs : List α} {k : Nat} (hk : xs.length = k) (h : ∀ q (hq : q < xs.length), q < k → p xs[q] = true) : xs.all p = true := by
  rw [List.all_eq_true]
  intro x hx
  obtain ⟨q, hq, rfl⟩ := List.getElem_of_mem hx
  exact h q hq (by omega)
theorem not_all_at {α : Type} {p : α → Bool} {xs : List α} {j : Nat} (h : j < xs.length) (hn : p xs[j] = false) : xs.all p = false := by
  rw [List.all_eq_false]
  exact ⟨xs[j], List.getElem_mem h, by rw [hn]; simp⟩

set_option maxRecDepth 100000 in
set_option maxHeartbeats 4000000 in
theorem isLine_any (v : Value) (xs : List (Int × Int)) (w : World) (hI : spotK.Is w v xs) :
    Calls Try.prog 103 #[v] w fun e w' => e = .returned (.bool (lineB xs)) ∧ Ext w w' := by
  obtain ⟨A, k, c, rfl, hk, hk0, hr, hkm⟩ := hI.open_
  have HR := Lib.hid hr
  have HK := Lib.hid hk
  have HL := Lib.hid (show lineB xs = (xs.all spotOk && inB 1 12 k) by rw [lineB, hk])
  clear hI hr hk
  go_enter Try.func103, Try.ntmps103
  go_wp2_with fail
  go_loopw [7, 4] (fun iv _ wr => ∃ j : Nat, j ≤ k ∧ iv = .int .i64 j ∧ Hid (∀ (q : Nat) (hq : q < xs.length), q < j → spotOk xs[q] = true) ∧ Ext w wr) (fun iv _ _ => k - (intOf iv).toNat)
  case atStart => exact ⟨0, by omega, rfl, (fun q hq h => by omega), Ext.refl _⟩
  case round =>
    obtain ⟨j, hj, rfl, Ha, hx⟩ := hrel
    by_cases hlt : j < k
    · have hjl : j < xs.length := by rw [HK.out]; exact hlt
      obtain ⟨b, o, rfl, hb, h0, h1⟩ := spotK_at HR.out hjl
      have g0 := hx.cell_some h0
      have g1 := hx.cell_some h1
      have hbr := hx.lt hb
      have HJ := Lib.hid (show spotOk xs[j] = (inB (-10000) 10000 xs[j].1 && inB (-10000) 10000 xs[j].2) from rfl)
      have HX := Lib.hid hx
      generalize hl1 : xs[j].1 = lx at *
      generalize hl2 : xs[j].2 = ly at *
      have HF := Lib.hid fun (b : Nat) (W0 : World) (c0 : W0.cell? ⟨b, 0, none⟩ = some (.int .i64 lx)) (c1 : W0.cell? ⟨b, 1, none⟩ = some (.int .i64 ly)) => from_two b lx ly (-10000) 10000 2 W0 c0 c1
      clear h0 h1 hx hl1 hl2
      cases hv : (inB (-10000) 10000 lx && inB (-10000) 10000 ly)
      · have HA2 := Lib.hid (show xs.all spotOk = false from not_all_at hjl (HJ.out.trans hv))
        rw [hv] at HF
        clear hv
        go_wp2_with fail
        refine (HF.out _ _ (by go_cell) (by go_cell)).mono ?_
        rintro e W2 ⟨rfl, x2⟩
        have HX2 := Lib.hid (HX.out.trans (Ext.trans (by (repeat' (first | with_reducible exact Ext.refl _ | with_reducible apply Ext.alloc | with_reducible apply Ext.drew | with_reducible apply Ext.drewN | with_reducible refine Ext.setCell ?_ ?_ _ | with_reducible apply Ext.step | with_reducible assumption | with_reducible exact Nat.le_refl _ | (simp; done) | (simp; omega)))) x2))
        clear x2
        go_wp2_with fail
        go_ret
        exact ⟨by rw [HL.out, HA2.out]; rfl, HX2.out⟩
      · have HA2 := Lib.hid (show ∀ (q : Nat) (hq : q < xs.length), q < j + 1 → spotOk xs[q] = true from fun q hq h => by
          rcases (by omega : q < j ∨ q = j) with h | rfl
          · exact Ha.out q hq h
          · exact HJ.out.trans hv)
        rw [hv] at HF
        clear hv
        go_wp2_with fail
        refine (HF.out _ _ (by go_cell) (by go_cell)).mono ?_
        rintro e W2 ⟨rfl, x2⟩
        have HX2 := Lib.hid (HX.out.trans (Ext.trans (by (repeat' (first | with_reducible exact Ext.refl _ | with_reducible apply Ext.alloc | with_reducible apply Ext.drew | with_reducible apply Ext.drewN | with_reducible refine Ext.setCell ?_ ?_ _ | with_reducible apply Ext.step | with_reducible assumption | with_reducible exact Nat.le_refl _ | (simp; done) | (simp; omega)))) x2))
        clear x2
        go_wp2_with fail
        go_roundw
        case rel => exact ⟨j + 1, by omega, by go_num, HA2, HX2.out⟩
        case measure => simp [intOf]; omega
    · obtain rfl : j = k := by omega
      have HA2 := Lib.hid (show xs.all spotOk = true from all_upto HK.out Ha.out)
      have HX := Lib.hid hx
      have HF := Lib.hid fun (b : Nat) (W0 : World) (c0 : W0.cell? ⟨b, 0, none⟩ = some (.int .i64 (j : Int))) => from_one b (j : Int) 1 12 1 W0 c0
      clear hx
      go_wp2_with fail
      refine (HF.out _ _ (by go_cell)).mono ?_
      rintro e W2 ⟨rfl, x2⟩
      have HX2 := Lib.hid (HX.out.trans (Ext.trans (by (repeat' (first | with_reducible exact Ext.refl _ | with_reducible apply Ext.alloc | with_reducible apply Ext.drew | with_reducible apply Ext.drewN | with_reducible refine Ext.setCell ?_ ?_ _ | with_reducible apply Ext.step | with_reducible assumption | with_reducible exact Nat.le_refl _ | (simp; done) | (simp; omega)))) x2))
      clear x2
      go_wp2_with fail
      go_ret
      exact ⟨by rw [HL.out, HA2.out]; rfl, HX2.out⟩
end Go.Proofs.Ytlljhimaopnbfaa
