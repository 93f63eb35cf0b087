/- light.lit: a surface at work, or the error of it and of lights. Condition: the slices read as lists. -/
import Derived.Test.YtlljhimaopnbfaaLFac
namespace Go.Proofs.Ytlljhimaopnbfaa
open Go.RowKit Go.Shelf

def lightB' (l : Int × Int × Int) : Bool := lightB l.1 l.2.1 l.2.2
def litE (W H P : Int) (hs : List Int) (ls : List (Int × Int × Int)) : Int := if surfB W H P hs then (if ls.all lightB' then 0 else 61) else 60

theorem lit_bad (W H P : Int) (hv : Value) (hs : List Int) (lv : Value) (w : World) (hI : intK.Is w hv hs) (hb : surfB W H P hs = false) :
    Calls Try.prog 76 #[surfV W H P hv, lv] w (OpenBad w) := by
  have HI := Lib.hid fun (W0 : World) (x : Ext w W0) => hI.ext x
  obtain ⟨A, L, c, rfl, _⟩ := hI.open_
  have HB := Lib.hid hb
  clear hb hI
  go_enter Try.func76, Try.ntmps76
  go_wp2_with fail
  refine (open_bad W H P _ hs _ (HI.out _ (by (repeat' (first | with_reducible exact Ext.refl _ | with_reducible apply Ext.alloc | with_reducible apply Ext.drew | with_reducible apply Ext.drewN | with_reducible refine Ext.setCell ?_ ?_ _ | with_reducible apply Ext.step | with_reducible assumption | with_reducible exact Nat.le_refl _ | (simp; done) | (simp; omega))))) HB.out).mono ?_
  rintro e W1 ⟨rfl, x1⟩
  have HX1 := Lib.hid (show Ext w W1 from Ext.trans (by (repeat' (first | with_reducible exact Ext.refl _ | with_reducible apply Ext.alloc | with_reducible apply Ext.drew | with_reducible apply Ext.drewN | with_reducible refine Ext.setCell ?_ ?_ _ | with_reducible apply Ext.step | with_reducible assumption | with_reducible exact Nat.le_refl _ | (simp; done) | (simp; omega)))) x1)
  clear x1
  go_wp2_with fail
  go_ret2
  exact ⟨rfl, HX1.out⟩

theorem lightK_at {w : World} {A : Option Addr} {ls : List (Int × Int × Int)} (h : lightK.Row w A ls) (j : Nat) (hj : j < ls.length) : ∃ b o, A = some ⟨b, o, none⟩ ∧ b < w.heap.size ∧ w.cell? ⟨b, o + j * 3, none⟩ = some (.int .i64 ls[j].1) ∧ w.cell? ⟨b, o + j * 3 + 1, none⟩ = some (.int .i64 ls[j].2.1) ∧ w.cell? ⟨b, o + j * 3 + 2, none⟩ = some (.int .i64 ls[j].2.2) := by
  obtain ⟨b, o, rfl, hb, hc⟩ := h j hj
  exact ⟨b, o, rfl, hb, hc 0 _ rfl, hc 1 _ rfl, hc 2 _ rfl⟩

set_option maxRecDepth 100000 in
set_option maxHeartbeats 4000000 in
/-- What lit hands back where the surface is valid. -/
theorem lit_open (n m : Nat) (P : Int) (hv : Value) (hs : List Int) (lv : Value) (ls : List (Int × Int × Int)) (w : World) (hI : intK.Is w hv hs) (hL : lightK.Is w lv ls) (hb : surfB ((n : Int) + 1) ((m : Int) + 1) P hs = true) :
    Calls Try.prog 76 #[surfV ((n : Int) + 1) ((m : Int) + 1) P hv, lv] w (if ls.all lightB' then OpenGood n m P hs w else fun e w' => e = .returned (.tuple #[.pointer none, .int .i64 61]) ∧ Ext w w') := by
  have HI := Lib.hid fun (W0 : World) (x : Ext w W0) => hI.ext x
  obtain ⟨A, L, c, rfl, _⟩ := hI.open_
  obtain ⟨A', k, c', rfl, hk, hk0, hr, hkm⟩ := hL.open_
  have HB := Lib.hid hb
  have HR := Lib.hid hr
  have HK := Lib.hid hk
  clear hb hI hL hr hk
  obtain ⟨Q, hQ⟩ : ∃ Q, Q = (if ls.all lightB' then OpenGood n m P hs w else fun e w' => e = .returned (.tuple #[.pointer none, .int .i64 61]) ∧ Ext w w') := ⟨_, rfl⟩
  rw [← hQ]
  have HQ := Lib.hid hQ
  clear hQ
  go_enter Try.func76, Try.ntmps76
  go_wp2_with fail
  refine (open_good n m P _ hs _ (HI.out _ (by (repeat' (first | with_reducible exact Ext.refl _ | with_reducible apply Ext.alloc | with_reducible apply Ext.drew | with_reducible apply Ext.drewN | with_reducible refine Ext.setCell ?_ ?_ _ | with_reducible apply Ext.step | with_reducible assumption | with_reducible exact Nat.le_refl _ | (simp; done) | (simp; omega))))) HB.out).mono ?_
  rintro e W1 ⟨B, rfl, hF, hB, x1⟩
  have hBw : w.heap.size ≤ B := Nat.le_trans (by simp) hB
  have HX1 := Lib.hid (show Ext w W1 from Ext.trans (by (repeat' (first | with_reducible exact Ext.refl _ | with_reducible apply Ext.alloc | with_reducible apply Ext.drew | with_reducible apply Ext.drewN | with_reducible refine Ext.setCell ?_ ?_ _ | with_reducible apply Ext.step | with_reducible assumption | with_reducible exact Nat.le_refl _ | (simp; done) | (simp; omega)))) x1)
  have HF := Lib.hid hF
  have HBW := Lib.hid hBw
  clear x1 hF hB hBw
  go_wp2_with fail
  go_loopw [21, 9, 10] (fun i _ _ wr => ∃ j : Nat, j ≤ k ∧ i = .int .i64 j ∧ Hid (∀ (q : Nat) (hq : q < ls.length), q < j → lightB' ls[q] = true) ∧ Ext W1 wr) (fun i _ _ _ => k - (intOf i).toNat)
  case atStart => exact ⟨0, by omega, rfl, (fun q hq h => by omega), Ext.refl _⟩
  case round =>
    obtain ⟨j, hj, rfl, Ha, hx⟩ := hrel
    by_cases hlt : j < k
    · have hjl : j < ls.length := by rw [HK.out]; exact hlt
      obtain ⟨b, o, rfl, hb, h0, h1, h2⟩ := lightK_at HR.out j hjl
      have HXR := Lib.hid (HX1.out.trans hx)
      have g0 := HXR.out.cell_some h0
      have g1 := HXR.out.cell_some h1
      have g2 := HXR.out.cell_some h2
      have hbr := HXR.out.lt hb
      have HJ := Lib.hid (show lightB' ls[j] = lightB ls[j].1 ls[j].2.1 ls[j].2.2 from rfl)
      have HXW := Lib.hid hx
      generalize hl1 : ls[j].1 = lx at *
      generalize hl2 : ls[j].2.1 = ly at *
      generalize hl3 : ls[j].2.2 = lz at *
      clear h0 h1 h2 hx hl1 hl2 hl3
      cases hv : lightB lx ly lz
      · have HE := Lib.hid (show lightE lx ly lz = 61 by simp [lightE, hv])
        have HN := Lib.hid (show ls.all lightB' = false by
          rw [List.all_eq_false]
          exact ⟨ls[j], List.getElem_mem hjl, by rw [HJ.out, hv]; simp⟩)
        have HCL := Lib.hid (fun W => (show Calls Try.prog 31 #[lightV lx ly lz] W fun e w' => e = .returned (.int .i64 61) ∧ Ext W w' by
          have := checkLight_any lx ly lz W
          rwa [HE.out] at this))
        clear hv
        go_wp2_with fail
        refine (HCL.out _).mono ?_
        rintro e W2 ⟨rfl, x2⟩
        have HX2 := Lib.hid (show Ext w W2 from HXR.out.trans (Ext.trans (by (repeat' (first | with_reducible exact Ext.refl _ | with_reducible apply Ext.alloc | with_reducible apply Ext.drew | with_reducible apply Ext.drewN | with_reducible refine Ext.setCell ?_ ?_ _ | with_reducible apply Ext.step | with_reducible assumption | with_reducible exact Nat.le_refl _ | (simp; done) | (simp; omega)))) x2))
        clear x2
        go_wp2_with fail
        rw [HQ.out, HN.out]
        exact ⟨rfl, HX2.out⟩
      · have HE := Lib.hid (show lightE lx ly lz = 0 by simp [lightE, hv])
        have HA2 := Lib.hid (show ∀ (q : Nat) (hq : q < ls.length), q < j + 1 → lightB' ls[q] = true from fun q hq h => by
          rcases (by omega : q < j ∨ q = j) with h | rfl
          · exact Ha.out q hq h
          · rw [HJ.out, hv])
        have HCL := Lib.hid (fun W => (show Calls Try.prog 31 #[lightV lx ly lz] W fun e w' => e = .returned (.int .i64 0) ∧ Ext W w' by
          have := checkLight_any lx ly lz W
          rwa [HE.out] at this))
        clear hv
        go_wp2_with fail
        refine (HCL.out _).mono ?_
        rintro e W2 ⟨rfl, x2⟩
        have HX2 := Lib.hid (show Ext W1 W2 from HXW.out.trans (Ext.trans (by (repeat' (first | with_reducible exact Ext.refl _ | with_reducible apply Ext.alloc | with_reducible apply Ext.drew | with_reducible apply Ext.drewN | with_reducible refine Ext.setCell ?_ ?_ _ | with_reducible apply Ext.step | with_reducible assumption | with_reducible exact Nat.le_refl _ | (simp; done) | (simp; omega)))) x2))
        clear x2
        go_wp2_with fail
        go_roundw
        case rel => exact ⟨j + 1, by omega, by go_num, HA2, HX2.out⟩
        case measure => simp [intOf]; omega
    · obtain rfl : j = k := by omega
      have HY := Lib.hid (show ls.all lightB' = true by
        rw [List.all_eq_true]
        intro x hx
        obtain ⟨q, hq, rfl⟩ := List.getElem_of_mem hx
        exact Ha.out q hq (by rw [← HK.out]; exact hq))
      have HXR := Lib.hid hx
      clear hx
      go_wp2_with fail
      rw [HQ.out, HY.out]
      exact ⟨B, rfl, HF.out.ext HXR.out, HBW.out, HX1.out.trans HXR.out⟩

theorem lit_dark (n m : Nat) (P : Int) (hv : Value) (hs : List Int) (lv : Value) (ls : List (Int × Int × Int)) (w : World) (hI : intK.Is w hv hs) (hL : lightK.Is w lv ls) (hb : surfB ((n : Int) + 1) ((m : Int) + 1) P hs = true) (hl : ls.all lightB' = false) :
    Calls Try.prog 76 #[surfV ((n : Int) + 1) ((m : Int) + 1) P hv, lv] w fun e w' => e = .returned (.tuple #[.pointer none, .int .i64 61]) ∧ Ext w w' := by
  have := lit_open n m P hv hs lv ls w hI hL hb
  rwa [hl] at this
theorem lit_good (n m : Nat) (P : Int) (hv : Value) (hs : List Int) (lv : Value) (ls : List (Int × Int × Int)) (w : World) (hI : intK.Is w hv hs) (hL : lightK.Is w lv ls) (hb : surfB ((n : Int) + 1) ((m : Int) + 1) P hs = true) (hl : ls.all lightB' = true) :
    Calls Try.prog 76 #[surfV ((n : Int) + 1) ((m : Int) + 1) P hv, lv] w (OpenGood n m P hs w) := by
  have := lit_open n m P hv hs lv ls w hI hL hb
  rwa [hl] at this
end Go.Proofs.Ytlljhimaopnbfaa
