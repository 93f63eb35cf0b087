/- rosette.Count, whatever the lists. Condition: slices read as lists. -/
import Derived.Test.YtaaceadcnnfngaaCCount
namespace Go.Proofs.Ytaaceadcnnfngaa
open Go.RowKit Go.ChangeMaps

set_option maxRecDepth 100000 in
set_option maxHeartbeats 1000000 in
theorem count_any (u v : Value) (ls ys : List Int) (w : World) (hu : IsI w u ls) (hv : IsI w v ys) :
    Calls Try.prog 45 #[u, v] w fun e w' => e = .returned (.tuple #[.int .i64 (countN ls ys), .int .i64 (countEr ls ys)]) ∧ Ext w w' := by
  by_cases hg : bothE ls ys = 0
  · by_cases h7 : ys.length ≤ 7
    · by_cases hfd : foundB ls ys = true
      · have := count_good u v ls ys w hu hv hg h7 hfd
        rwa [countN, countEr, if_pos ⟨hg, h7, hfd⟩, if_pos hg, if_neg (by omega)]
      · have HN := Lib.hid (show countN ls ys = 0 by rw [countN, if_neg (fun h => hfd h.2.2)])
        have HE := Lib.hid (show countEr ls ys = 0 by rw [countEr, if_pos hg, if_neg (by omega)])
        have HB := Lib.hid fun W (x : Ext w W) => both_zero hg (hu.ext x) (hv.ext x)
        have HFI := Lib.hid fun W (x : Ext w W) => (show Calls Try.prog 43 #[u, v] W (RetOE W (findL ls ys) 6) by
          have := Find_any u v ls ys W (hu.ext x) (hv.ext x)
          rwa [findEr, if_pos hg, if_neg hfd] at this)
        obtain ⟨A, n, c, rfl, hc0, hr, hn⟩ := hu.open_
        obtain ⟨A', m', c', rfl, hd0, hs, hm⟩ := hv.open_
        rw [hs.len] at h7
        have hd7 : decide (7 < (m' : Int)) = false := by simp; omega
        clear hu hv hg hfd hr hs hc0 hd0
        go_enter Try.func45, Try.ntmps45
        go_wp2_with fail
        refine lay_calls (fun W => Ext w W ∧ W.cell? ⟨w.heap.size, 0, none⟩ = some (.slice A n c) ∧ W.cell? ⟨w.heap.size + 1, 0, none⟩ = some (.slice A' m' c')) ⟨by (repeat' (first | with_reducible exact Ext.refl _ | with_reducible apply Ext.alloc | with_reducible apply Ext.drew | with_reducible apply Ext.drewN | with_reducible refine Ext.setCell ?_ ?_ _ | with_reducible apply Ext.step | with_reducible assumption | with_reducible exact Nat.le_refl _ | (simp; done) | (simp; omega))), by go_cell, by go_cell⟩ ?_
        rintro W0 ⟨X0, b2, b3⟩
        have HX0 := Lib.hid X0
        refine (HB.out W0 X0).mono ?_
        rintro e _ ⟨rfl, rfl⟩
        clear X0
        go_wp2_with fail
        refine (HFI.out W0 HX0.out).mono ?_
        rintro e W1 ⟨vg, rfl, og, x1⟩
        obtain ⟨Ag, ng, cg, rfl, _, hrg, hng⟩ := og.isI.open_
        have HX1 := Lib.hid (HX0.out.trans x1)
        clear x1 og hrg b2 b3
        go_wp2_with fail
        go_ret2
        exact ⟨by rw [HN.out, HE.out] <;> rfl, HX1.out.alloc _⟩
    · have HN := Lib.hid (show countN ls ys = 0 by rw [countN, if_neg (fun h => h7 h.2.1)])
      have HE := Lib.hid (show countEr ls ys = 4 by rw [countEr, if_pos hg, if_pos (by omega)])
      have HB := Lib.hid fun W (x : Ext w W) => both_zero hg (hu.ext x) (hv.ext x)
      obtain ⟨A, n, c, rfl, hc0, hr, hn⟩ := hu.open_
      obtain ⟨A', m', c', rfl, hd0, hs, hm⟩ := hv.open_
      rw [hs.len] at h7
      have hd7 : decide (7 < (m' : Int)) = true := by simp; omega
      clear hu hv hg hr hs hc0 hd0
      go_enter Try.func45, Try.ntmps45
      go_wp2_with fail
      refine lay_calls (fun W => Ext w W ∧ W.cell? ⟨w.heap.size, 0, none⟩ = some (.slice A n c) ∧ W.cell? ⟨w.heap.size + 1, 0, none⟩ = some (.slice A' m' c')) ⟨by (repeat' (first | with_reducible exact Ext.refl _ | with_reducible apply Ext.alloc | with_reducible apply Ext.drew | with_reducible apply Ext.drewN | with_reducible refine Ext.setCell ?_ ?_ _ | with_reducible apply Ext.step | with_reducible assumption | with_reducible exact Nat.le_refl _ | (simp; done) | (simp; omega))), by go_cell, by go_cell⟩ ?_
      rintro W0 ⟨X0, b2, b3⟩
      have HX0 := Lib.hid X0
      refine (HB.out W0 X0).mono ?_
      rintro e _ ⟨rfl, rfl⟩
      clear X0
      go_wp2_with fail
      go_ret2
      exact ⟨by rw [HN.out, HE.out] <;> rfl, HX0.out⟩
  · have HN := Lib.hid (show countN ls ys = 0 by rw [countN, if_neg (fun h => hg h.1)])
    have HE := Lib.hid (show countEr ls ys = bothE ls ys by rw [countEr, if_neg hg])
    have HB := Lib.hid fun W (x : Ext w W) => both_any u v ls ys W (hu.ext x) (hv.ext x)
    have hne : (bothE ls ys != 0) = true := by simpa using hg
    generalize bothE ls ys = er at *
    obtain ⟨A, n, c, rfl, hc0, hr, hn⟩ := hu.open_
    obtain ⟨A', m', c', rfl, hd0, hs, hm⟩ := hv.open_
    clear hu hv hg hr hs hc0 hd0
    go_enter Try.func45, Try.ntmps45
    go_wp2_with fail
    refine lay_calls (fun W => Ext w W) (by (repeat' (first | with_reducible exact Ext.refl _ | with_reducible apply Ext.alloc | with_reducible apply Ext.drew | with_reducible apply Ext.drewN | with_reducible refine Ext.setCell ?_ ?_ _ | with_reducible apply Ext.step | with_reducible assumption | with_reducible exact Nat.le_refl _ | (simp; done) | (simp; omega)))) ?_
    intro W0 X0
    have HX0 := Lib.hid X0
    refine (HB.out W0 X0).mono ?_
    rintro e _ ⟨rfl, rfl⟩
    clear X0
    go_wp2_with fail
    go_ret2
    exact ⟨by rw [HN.out, HE.out] <;> rfl, HX0.out⟩
end Go.Proofs.Ytaaceadcnnfngaa
