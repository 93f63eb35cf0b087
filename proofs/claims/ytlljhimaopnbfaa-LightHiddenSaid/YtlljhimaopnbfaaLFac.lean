/- light.Check, Facets and lit. Condition: the slices read as lists. -/
import Derived.Test.YtlljhimaopnbfaaLTilts
namespace Go.Proofs.Ytlljhimaopnbfaa
open Go.RowKit Go.Shelf

attribute [local go_sem] Oper.semAt_some

theorem surf_nm {W H P : Int} {hs : List Int} (h : surfB W H P hs = true) : ∃ n m : Nat, W = (n : Int) + 1 ∧ H = (m : Int) + 1 ∧ 1 ≤ n ∧ n ≤ 23 ∧ 1 ≤ m ∧ m ≤ 23 := by
  obtain ⟨⟨a1, a2⟩, ⟨b1, b2⟩, _⟩ := surfB_iff.1 h
  exact ⟨(W - 1).toNat, (H - 1).toNat, by omega, by omega, by omega, by omega, by omega, by omega⟩
/-- The cells of a row, and the rows of cells. -/
def nOf (W : Int) : Nat := (W - 1).toNat
theorem nOf_add (n : Nat) : nOf ((n : Int) + 1) = n := by unfold nOf; omega

set_option maxHeartbeats 1000000 in
theorem check_any (W H P : Int) (hv : Value) (hs : List Int) (w : World) (hI : intK.Is w hv hs) :
    Calls Try.prog 29 #[surfV W H P hv] w fun e w' => e = .returned (.int .i64 (surfE W H P hs)) ∧ Ext w w' := by
  have HI := Lib.hid fun (W0 : World) (x : Ext w W0) => hI.ext x
  have hI' := hI
  obtain ⟨A, L, c, rfl, _⟩ := hI'.open_
  clear hI' hI
  cases hb : surfB W H P hs
  · have HE := Lib.hid (show surfE W H P hs = 60 by simp [surfE, hb])
    have HB := Lib.hid hb
    clear hb
    go_enter Try.func29, Try.ntmps29
    go_wp2_with fail
    refine (open_bad W H P _ hs _ (HI.out _ (by (repeat' (first | with_reducible exact Ext.refl _ | with_reducible apply Ext.alloc | with_reducible apply Ext.drew | with_reducible apply Ext.drewN | with_reducible refine Ext.setCell ?_ ?_ _ | with_reducible apply Ext.step | with_reducible assumption | with_reducible exact Nat.le_refl _ | (simp; done) | (simp; omega))))) HB.out).mono ?_
    rintro e W1 ⟨rfl, x1⟩
    have HX1 := Lib.hid (show Ext w W1 from Ext.trans (by (repeat' (first | with_reducible exact Ext.refl _ | with_reducible apply Ext.alloc | with_reducible apply Ext.drew | with_reducible apply Ext.drewN | with_reducible refine Ext.setCell ?_ ?_ _ | with_reducible apply Ext.step | with_reducible assumption | with_reducible exact Nat.le_refl _ | (simp; done) | (simp; omega)))) x1)
    clear x1
    go_wp2_with fail
    go_ret
    exact ⟨by rw [HE.out]; rfl, HX1.out⟩
  · have HE := Lib.hid (show surfE W H P hs = 0 by simp [surfE, hb])
    obtain ⟨n, m, rfl, rfl, _⟩ := surf_nm hb
    have HB := Lib.hid hb
    clear hb
    go_enter Try.func29, Try.ntmps29
    go_wp2_with fail
    refine (open_good n m P _ hs _ (HI.out _ (by (repeat' (first | with_reducible exact Ext.refl _ | with_reducible apply Ext.alloc | with_reducible apply Ext.drew | with_reducible apply Ext.drewN | with_reducible refine Ext.setCell ?_ ?_ _ | with_reducible apply Ext.step | with_reducible assumption | with_reducible exact Nat.le_refl _ | (simp; done) | (simp; omega))))) HB.out).mono ?_
    rintro e W1 ⟨B, rfl, hF, hB, x1⟩
    have HX1 := Lib.hid (show Ext w W1 from Ext.trans (by (repeat' (first | with_reducible exact Ext.refl _ | with_reducible apply Ext.alloc | with_reducible apply Ext.drew | with_reducible apply Ext.drewN | with_reducible refine Ext.setCell ?_ ?_ _ | with_reducible apply Ext.step | with_reducible assumption | with_reducible exact Nat.le_refl _ | (simp; done) | (simp; omega)))) x1)
    clear x1 hF hB
    go_wp2_with fail
    go_ret
    exact ⟨by rw [HE.out]; rfl, HX1.out⟩

def facetsL (W H P : Int) (hs : List Int) : List (Int × Int) := if surfB W H P hs then tiltsL (nOf W) (nOf H) hs else []
set_option maxHeartbeats 1000000 in
theorem facets_any (W H P : Int) (hv : Value) (hs : List Int) (w : World) (hI : intK.Is w hv hs) :
    Calls Try.prog 27 #[surfV W H P hv] w (RetEE tiltK w (facetsL W H P hs) (surfE W H P hs)) := by
  have HI := Lib.hid fun (W0 : World) (x : Ext w W0) => hI.ext x
  have hI' := hI
  obtain ⟨A, L, c, rfl, _⟩ := hI'.open_
  clear hI' hI
  cases hb : surfB W H P hs
  · have HE := Lib.hid (show surfE W H P hs = 60 by simp [surfE, hb])
    have HR := Lib.hid (show facetsL W H P hs = [] by simp [facetsL, hb])
    have HB := Lib.hid hb
    clear hb
    go_enter Try.func27, Try.ntmps27
    go_wp2_with fail
    refine (open_bad W H P _ hs _ (HI.out _ (by (repeat' (first | with_reducible exact Ext.refl _ | with_reducible apply Ext.alloc | with_reducible apply Ext.drew | with_reducible apply Ext.drewN | with_reducible refine Ext.setCell ?_ ?_ _ | with_reducible apply Ext.step | with_reducible assumption | with_reducible exact Nat.le_refl _ | (simp; done) | (simp; omega))))) HB.out).mono ?_
    rintro e W1 ⟨rfl, x1⟩
    have HX1 := Lib.hid (show Ext w W1 from Ext.trans (by (repeat' (first | with_reducible exact Ext.refl _ | with_reducible apply Ext.alloc | with_reducible apply Ext.drew | with_reducible apply Ext.drewN | with_reducible refine Ext.setCell ?_ ?_ _ | with_reducible apply Ext.step | with_reducible assumption | with_reducible exact Nat.le_refl _ | (simp; done) | (simp; omega)))) x1)
    clear x1
    go_wp2_with fail
    go_ret2
    exact ⟨_, by rw [HE.out]; rfl, by rw [HR.out]; exact EK.Own.nil _ _, HX1.out⟩
  · have HE := Lib.hid (show surfE W H P hs = 0 by simp [surfE, hb])
    obtain ⟨n, m, rfl, rfl, _⟩ := surf_nm hb
    have HR := Lib.hid (show facetsL ((n : Int) + 1) ((m : Int) + 1) P hs = tiltsL n m hs by simp [facetsL, hb, nOf_add])
    have HB := Lib.hid hb
    clear hb
    go_enter Try.func27, Try.ntmps27
    go_wp2_with fail
    refine (open_good n m P _ hs _ (HI.out _ (by (repeat' (first | with_reducible exact Ext.refl _ | with_reducible apply Ext.alloc | with_reducible apply Ext.drew | with_reducible apply Ext.drewN | with_reducible refine Ext.setCell ?_ ?_ _ | with_reducible apply Ext.step | with_reducible assumption | with_reducible exact Nat.le_refl _ | (simp; done) | (simp; omega))))) HB.out).mono ?_
    rintro e W1 ⟨B, rfl, hF, hB, x1⟩
    have HX1 := Lib.hid (show Ext w W1 from Ext.trans (by (repeat' (first | with_reducible exact Ext.refl _ | with_reducible apply Ext.alloc | with_reducible apply Ext.drew | with_reducible apply Ext.drewN | with_reducible refine Ext.setCell ?_ ?_ _ | with_reducible apply Ext.step | with_reducible assumption | with_reducible exact Nat.le_refl _ | (simp; done) | (simp; omega)))) x1)
    have HF := Lib.hid hF
    clear x1 hF hB
    go_wp2_with fail
    refine (tilts_any B n m P hs W1 HF.out.at_).mono ?_
    rintro e W2 ⟨v, rfl, ov, x2⟩
    have HX2 := Lib.hid (HX1.out.trans x2)
    have HO := Lib.hid ov
    clear x2 ov
    go_wp2_with fail
    go_ret2
    exact ⟨_, by rw [HE.out]; rfl, by rw [HR.out]; exact HO.out.mono HX1.out.bel.size, HX2.out⟩
end Go.Proofs.Ytlljhimaopnbfaa
