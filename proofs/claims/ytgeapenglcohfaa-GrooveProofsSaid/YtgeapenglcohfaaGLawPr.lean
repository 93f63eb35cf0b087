/- GrooveProofs: the law's walk. Condition: the work's cuts and the list read. -/
import Derived.Test.YtgeapenglcohfaaGRChkL
import Derived.Test.YtgeapenglcohfaaGRChkO
import Derived.Test.YtgeapenglcohfaaGGreat
namespace Go.Proofs.Ytgeapenglcohfaa
open Go.RowKit

set_option maxRecDepth 100000 in
set_option maxHeartbeats 8000000 in
theorem lawProofs_any (k : WkT) (v u : Value) (l : List Int) (w : World) (hI : CutsIs w v k.cuts) (hJ : IsI w u l) :
    Calls Try.prog 7 #[k.val v, u] w fun e w' => e = .returned (.bool true) ∧ Ext w w' := by
  have HG := Lib.hid fun (W : World) (x : Ext w W) => great_any k v W (hI.ext x)
  have C1 := Lib.hid fun (W : World) (x : Ext w W) => checkOrder_any k v u l W (hI.ext x) (hJ.ext x)
  have C2 := Lib.hid fun (W : World) (x : Ext w W) => refCheckOrder_any k v u l W (hI.ext x) (hJ.ext x)
  have C3 := Lib.hid fun (W : World) (x : Ext w W) => checkLoop_any k v u l W (hI.ext x) (hJ.ext x)
  have C4 := Lib.hid fun (W : World) (x : Ext w W) => refCheckLoop_any k v u l W (hI.ext x) (hJ.ext x)
  obtain ⟨A, n, c, rfl⟩ : ∃ A n c, v = .slice A n c := by
    obtain ⟨A, c, h, -⟩ := cutsIs_at hI
    exact ⟨A, _, c, h⟩
  obtain ⟨A', m, c', rfl, -, -, hm⟩ := hJ.open_
  simp only [WkT.val] at C1 C2 C3 C4
  generalize chkOE k l = a1 at *
  generalize chkLE k l = a2 at *
  have e1 : (a1 == a1) = true := by simp
  have e2 : (a2 == a2) = true := by simp
  clear hI hJ
  cases hg : greatK k
  case true =>
    rw [hg] at HG
    clear hg
    go_enter Try.func7, Try.ntmps7
    go_wp2_with fail
    refine (HG.out _ (by (repeat' (first | with_reducible exact Ext.refl _ | with_reducible apply Ext.alloc | with_reducible apply Ext.drew | with_reducible apply Ext.drewN | with_reducible refine Ext.setCell ?_ ?_ _ | with_reducible apply Ext.step | with_reducible assumption | with_reducible exact Nat.le_refl _ | (simp; done) | (simp; omega))))).mono ?_
    rintro e W1 ⟨rfl, x1⟩
    have HX1 := Lib.hid (show Ext w W1 from Ext.trans (by (repeat' (first | with_reducible exact Ext.refl _ | with_reducible apply Ext.alloc | with_reducible apply Ext.drew | with_reducible apply Ext.drewN | with_reducible refine Ext.setCell ?_ ?_ _ | with_reducible apply Ext.step | with_reducible assumption | with_reducible exact Nat.le_refl _ | (simp; done) | (simp; omega)))) x1)
    clear x1
    go_wp2_with fail
    go_ret
    exact ⟨rfl, HX1.out⟩
  rw [hg] at HG
  clear hg
  by_cases h40 : 40 < m
  · have q1 : decide ((40 : Int) < (m : Int)) = true := by simp; omega
    clear h40
    go_enter Try.func7, Try.ntmps7
    go_wp2_with fail
    refine (HG.out _ (by (repeat' (first | with_reducible exact Ext.refl _ | with_reducible apply Ext.alloc | with_reducible apply Ext.drew | with_reducible apply Ext.drewN | with_reducible refine Ext.setCell ?_ ?_ _ | with_reducible apply Ext.step | with_reducible assumption | with_reducible exact Nat.le_refl _ | (simp; done) | (simp; omega))))).mono ?_
    rintro e W1 ⟨rfl, x1⟩
    have HX1 := Lib.hid (show Ext w W1 from Ext.trans (by (repeat' (first | with_reducible exact Ext.refl _ | with_reducible apply Ext.alloc | with_reducible apply Ext.drew | with_reducible apply Ext.drewN | with_reducible refine Ext.setCell ?_ ?_ _ | with_reducible apply Ext.step | with_reducible assumption | with_reducible exact Nat.le_refl _ | (simp; done) | (simp; omega)))) x1)
    clear x1
    go_wp2_with fail
    go_ret
    exact ⟨rfl, HX1.out⟩
  have q1 : decide ((40 : Int) < (m : Int)) = false := by simp; omega
  clear h40
  go_enter Try.func7, Try.ntmps7
  go_wp2_with fail
  refine (HG.out _ (by (repeat' (first | with_reducible exact Ext.refl _ | with_reducible apply Ext.alloc | with_reducible apply Ext.drew | with_reducible apply Ext.drewN | with_reducible refine Ext.setCell ?_ ?_ _ | with_reducible apply Ext.step | with_reducible assumption | with_reducible exact Nat.le_refl _ | (simp; done) | (simp; omega))))).mono ?_
  rintro e W1 ⟨rfl, x1⟩
  have HX1 := Lib.hid (show Ext w W1 from Ext.trans (by (repeat' (first | with_reducible exact Ext.refl _ | with_reducible apply Ext.alloc | with_reducible apply Ext.drew | with_reducible apply Ext.drewN | with_reducible refine Ext.setCell ?_ ?_ _ | with_reducible apply Ext.step | with_reducible assumption | with_reducible exact Nat.le_refl _ | (simp; done) | (simp; omega)))) x1)
  have HA1 := Lib.hid ((WkAt.new k (.slice A n c) w).ext x1)
  clear x1
  obtain ⟨h0, h1, h2, h3, h4, h5, h6, h7, h8, h9, h10, h11, h12⟩ := HA1.out
  have lh0 := cell_lt h0
  go_wp2_with fail
  try go_frame
  refine wp_region_bext (by kernel_rfl) (by kernel_rfl) ?_
  repeat (any_goals (go_big_quiet_step ((first | (go_at_call 43; with_reducible exact bext_call (C1.out _ (HX1.out.trans (ext_of _)))) | (go_at_call 44; with_reducible exact bext_call (C2.out _ (HX1.out.trans (ext_of _)))) | (go_at_call 45; with_reducible exact bext_call (C3.out _ (HX1.out.trans (ext_of _)))) | (go_at_call 46; with_reducible exact bext_call (C4.out _ (HX1.out.trans (ext_of _))))))))
  all_goals refine wpQuiet_nil ?_
  all_goals rintro _ ⟨δ, rfl⟩
  have HX2 := Lib.hid (HX1.out.trans (show Ext W1 δ.wd from ⟨δ, rfl⟩))
  generalize δ.wd = W2 at *
  go_wp2_with fail
  go_ret
  exact ⟨rfl, HX2.out⟩
end Go.Proofs.Ytgeapenglcohfaa
