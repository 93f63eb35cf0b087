/- SameSurface of surfaces that read alike. -/
import Derived.Test.YtlljhimaopnbfaaLSame
import Derived.Test.YtlljhimaopnbfaaQS
namespace Go.Proofs.Ytlljhimaopnbfaa
open Go.RowKit

attribute [local go_sem] Oper.semAt_some

set_option maxHeartbeats 4000000 in
theorem sameSurfC_any (W H P : Int) (u v : Value) (hs : List Int) (w : World) (hu : intK.Is w u hs) (hv : intK.Is w v hs) :
    Calls Try.prog 34 #[surfV W H P u, surfV W H P v] w fun e w' => e = .returned (.bool true) ∧ Ext w w' := by
  have HS := Lib.hid fun (W0 : World) (x : Ext w W0) => (show Calls Try.prog 43 #[u, v] W0 fun e w' => e = .returned (.bool true) ∧ Ext W0 w' by
    have := sameInts_any u v hs hs W0 (hu.ext x) (hv.ext x)
    rwa [decide_eq_true rfl] at this)
  obtain ⟨A, L, c, rfl, _⟩ := hu.open_
  obtain ⟨A', L', c', rfl, _⟩ := hv.open_
  clear hu hv
  go_enter Try.func34, Try.ntmps34
  go_wp2_with fail
  refine (HS.out _ (by (repeat' (first | with_reducible exact Ext.refl _ | with_reducible apply Ext.alloc | with_reducible apply Ext.drew | with_reducible apply Ext.drewN | with_reducible refine Ext.setCell ?_ ?_ _ | with_reducible apply Ext.step | with_reducible assumption | with_reducible exact Nat.le_refl _ | (simp; done) | (simp; omega))))).mono ?_
  rintro e _ ⟨rfl, hx⟩
  obtain ⟨δ, rfl⟩ : Ext ((w.alloc (.cells #[.int .i64 W, .int .i64 H, .int .i64 P, .slice A L c] 37)).alloc (.cells #[.int .i64 W, .int .i64 H, .int .i64 P, .slice A' L' c'] 37)) _ := Ext.trans (by (repeat' (first | with_reducible exact Ext.refl _ | with_reducible apply Ext.alloc | with_reducible apply Ext.drew | with_reducible apply Ext.drewN | with_reducible refine Ext.setCell ?_ ?_ _ | with_reducible apply Ext.step | with_reducible assumption | with_reducible exact Nat.le_refl _ | (simp; done) | (simp; omega)))) hx
  clear hx
  try (have hs0 := δ.lt (w.heap.size) (by first | (simp; done) | (simp; omega)))
  try (have hs1 := δ.lt (w.heap.size + 1) (by first | (simp; done) | (simp; omega)))
  go_wp2_with fail
  go_ret
  exact ⟨rfl, by (repeat' (first | with_reducible exact Ext.refl _ | with_reducible apply Ext.alloc | with_reducible apply Ext.drew | with_reducible apply Ext.drewN | with_reducible refine Ext.setCell ?_ ?_ _ | with_reducible apply Ext.step | with_reducible assumption | with_reducible exact Nat.le_refl _ | (simp; done) | (simp; omega)))⟩
end Go.Proofs.Ytlljhimaopnbfaa
