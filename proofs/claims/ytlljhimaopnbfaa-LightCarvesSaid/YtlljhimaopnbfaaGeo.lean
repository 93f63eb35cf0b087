/- Steps and segments. Conditions: bounds of the coordinates. -/
import Derived.Test.YtlljhimaopnbfaaFrom
import Derived.BigGuardPart
namespace Go.Proofs.Ytlljhimaopnbfaa
open Go.RowKit

abbrev V2 (x y : Int) : Value := .agg #[.int .i64 x, .int .i64 y]

/-- A coordinate. -/
structure Co (x : Int) : Prop where
  lo : -11000 ≤ x
  hi : x ≤ 11000
/-- A difference of two coordinates. -/
structure Df (x : Int) : Prop where
  lo : -22000 ≤ x
  hi : x ≤ 22000
theorem Co.sub {x y : Int} (h : Co x) (k : Co y) : Df (x - y) := ⟨by have := h.lo; have := k.hi; omega, by have := h.hi; have := k.lo; omega⟩

theorem way_any (ax ay bx by' : Int) (w : World) (h1 : Co ax) (h2 : Co ay) (h3 : Co bx) (h4 : Co by') :
    Calls Try.prog 146 #[V2 ax ay, V2 bx by'] w fun e w' => e = .returned (V2 (bx - ax) (by' - ay)) ∧ Ext w w' := by
  obtain ⟨a1, a2⟩ := h1
  obtain ⟨b1, b2⟩ := h2
  obtain ⟨c1, c2⟩ := h3
  obtain ⟨d1, d2⟩ := h4
  go_enter Try.func146, Try.ntmps146
  go_wp2
  go_returns
  exact ⟨rfl, by (repeat' (first | with_reducible exact Ext.refl _ | with_reducible apply Ext.alloc | with_reducible apply Ext.drew | with_reducible apply Ext.drewN | with_reducible refine Ext.setCell ?_ ?_ _ | with_reducible apply Ext.step | with_reducible assumption | with_reducible exact Nat.le_refl _ | (simp; done) | (simp; omega)))⟩

theorem pr_bd {x y : Int} (h : Df x) (k : Df y) : -484000000 ≤ x * y ∧ x * y ≤ 484000000 := by
  obtain ⟨a1, a2⟩ := h
  obtain ⟨b1, b2⟩ := k
  have h : (x * y).natAbs ≤ 22000 * 22000 := by
    rw [Int.natAbs_mul]
    exact Nat.mul_le_mul (by omega) (by omega)
  omega

theorem dot_any (x y z u : Int) (w : World) (h1 : Df x) (h2 : Df y) (h3 : Df z) (h4 : Df u) :
    Calls Try.prog 148 #[V2 x y, V2 z u] w fun e w' => e = .returned (.int .i64 (x * z + y * u)) ∧ Ext w w' := by
  obtain ⟨a1, a2⟩ := pr_bd h1 h3
  obtain ⟨b1, b2⟩ := pr_bd h2 h4
  go_enter Try.func148, Try.ntmps148
  go_wp2
  go_ret
  exact ⟨rfl, by (repeat' (first | with_reducible exact Ext.refl _ | with_reducible apply Ext.alloc | with_reducible apply Ext.drew | with_reducible apply Ext.drewN | with_reducible refine Ext.setCell ?_ ?_ _ | with_reducible apply Ext.step | with_reducible assumption | with_reducible exact Nat.le_refl _ | (simp; done) | (simp; omega)))⟩
theorem cross_any (x y z u : Int) (w : World) (h1 : Df x) (h2 : Df y) (h3 : Df z) (h4 : Df u) :
    Calls Try.prog 147 #[V2 x y, V2 z u] w fun e w' => e = .returned (.int .i64 (x * u - y * z)) ∧ Ext w w' := by
  obtain ⟨a1, a2⟩ := pr_bd h1 h4
  obtain ⟨b1, b2⟩ := pr_bd h2 h3
  go_enter Try.func147, Try.ntmps147
  go_wp2
  go_ret
  exact ⟨rfl, by (repeat' (first | with_reducible exact Ext.refl _ | with_reducible apply Ext.alloc | with_reducible apply Ext.drew | with_reducible apply Ext.drewN | with_reducible refine Ext.setCell ?_ ?_ _ | with_reducible apply Ext.step | with_reducible assumption | with_reducible exact Nat.le_refl _ | (simp; done) | (simp; omega)))⟩
end Go.Proofs.Ytlljhimaopnbfaa
