/- barleycornref04.Great. Condition: the program's slices read as lists. -/
import Derived.Test.YtkjgcmdabelohaaGreatMMade
import Derived.Test.YtkjgcmdabelohaaGreatMTurns
import Derived.Test.YtkjgcmdabelohaaGreatPPat
namespace Go.Proofs.YtkjgcmdabelohaaGreat
open Go.RowKit

def greatB (p : PrT) : Bool := decide (120 < p.ros.length) || decide (120 < p.rub.length) || decide (20 < p.sh.length)
set_option maxRecDepth 100000 in
set_option maxHeartbeats 4000000 in
theorem great4_any (p : PrT) (v : PrV) (w : World) (h : PrIs w v p) : Calls Tryz.prog 5 #[p.val v] w fun e w' => e = .returned (.bool (greatB p)) ∧ Ext w w' := by
  have H1 := Lib.hid fun (W : World) (x : Ext w W) => Great_any v.r p.ros W (h.ros.ext x)
  have H2 := Lib.hid fun (W : World) (x : Ext w W) => Great_any v.b p.rub W (h.rub.ext x)
  obtain ⟨r, b, s⟩ := v
  obtain ⟨A1, n1, c1, rfl, -⟩ := h.ros.open_
  obtain ⟨A2, n2, c2, rfl, -⟩ := h.rub.open_
  obtain ⟨A3, n3, c3, rfl, -, hs, -⟩ := h.sh.open_
  have hl := hs.len
  have HR := Lib.hid (show greatB p = (decide (120 < p.ros.length) || decide (120 < p.rub.length) || decide (20 < n3)) by unfold greatB; rw [← hl])
  obtain ⟨ros, rub, st, th, ad, sh⟩ := p
  simp only at H1 H2 HR hl ⊢
  generalize greatB ⟨ros, rub, st, th, ad, sh⟩ = res at *
  have hb : (decide (20 < n3) : Bool) = decide ((20 : Int) < (n3 : Int)) := by
    rw [decide_eq_decide]; omega
  rw [hb] at HR
  generalize decide (120 < ros.length) = g1 at *
  generalize decide (120 < rub.length) = g2 at *
  clear h hs hl hb
  have HX := Lib.hid ((Ext.refl w).alloc (.cells #[.slice A1 n1 c1, .slice A2 n2 c2, .int .i64 st, .int .i64 th, .int .i64 ad, .slice A3 n3 c3] 24))
  cases g1
  · cases g2
    · by_cases h3 : (20 : Int) < (n3 : Int)
      · rw [decide_eq_true h3] at HR
        go_enter Tryz.func5, Tryz.ntmps5
        go_wp2_with (first
          | (go_at_call 20; refine (H1.out _ HX.out).mono ?_; rintro e w' ⟨rfl, rfl⟩)
          | (go_at_call 20; refine (H2.out _ HX.out).mono ?_; rintro e w' ⟨rfl, rfl⟩))
        go_ret
        exact ⟨ret_b HR.out.symm, HX.out⟩
      · rw [decide_eq_false h3] at HR
        go_enter Tryz.func5, Tryz.ntmps5
        go_wp2_with (first
          | (go_at_call 20; refine (H1.out _ HX.out).mono ?_; rintro e w' ⟨rfl, rfl⟩)
          | (go_at_call 20; refine (H2.out _ HX.out).mono ?_; rintro e w' ⟨rfl, rfl⟩))
        go_ret
        exact ⟨ret_b (by rw [HR.out, decide_eq_false (by omega)]; rfl), HX.out⟩
    · go_enter Tryz.func5, Tryz.ntmps5
      go_wp2_with (first
        | (go_at_call 20; refine (H1.out _ HX.out).mono ?_; rintro e w' ⟨rfl, rfl⟩)
        | (go_at_call 20; refine (H2.out _ HX.out).mono ?_; rintro e w' ⟨rfl, rfl⟩))
      go_ret
      exact ⟨ret_b HR.out.symm, HX.out⟩
  · go_enter Tryz.func5, Tryz.ntmps5
    go_wp2_with (first
      | (go_at_call 20; refine (H1.out _ HX.out).mono ?_; rintro e w' ⟨rfl, rfl⟩)
      | (go_at_call 20; refine (H2.out _ HX.out).mono ?_; rintro e w' ⟨rfl, rfl⟩))
    go_ret
    exact ⟨ret_b HR.out.symm, HX.out⟩
end Go.Proofs.YtkjgcmdabelohaaGreat
