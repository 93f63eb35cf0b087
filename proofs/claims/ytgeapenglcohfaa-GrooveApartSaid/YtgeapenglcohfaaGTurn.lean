/- GrooveMoved's helper: turned. Conditions: the slice reads as a list; bounds of the coordinates. -/
import Derived.Test.YtgeapenglcohfaaGAppD
import Derived.Test.YtgeapenglcohfaaGLine
namespace Go.Proofs.Ytgeapenglcohfaa
open Go.RowKit

theorem own_shapeT {α : Type} {K : EK α} {B : Nat} {w : World} {v : Value} {xs : List α} (h : K.Own B w v xs) : ∃ A k c, v = .slice A k c := by
  rcases h.2 with ⟨rfl, _⟩ | ⟨g, cap, cur, rfl, _⟩ <;> exact ⟨_, _, _, rfl⟩
def rot1 (p : Int × Int) : Int × Int := (-p.2, p.1)
def rotN : Nat → Int × Int → Int × Int
  | 0, p => p
  | n + 1, p => rot1 (rotN n p)
def mirP (m : Bool) (p : Int × Int) : Int × Int := if m then (-p.1, p.2) else p
def moveP (m : Bool) (q : Nat) (bx by' : Int) (p : Int × Int) : Int × Int := (wrap64 ((rotN q (mirP m p)).1 + bx), wrap64 ((rotN q (mirP m p)).2 + by'))
def Smol (p : Int × Int) : Prop := (-100000 ≤ p.1 ∧ p.1 ≤ 100000) ∧ -100000 ≤ p.2 ∧ p.2 ≤ 100000
theorem rotN_smol {p : Int × Int} (h : Smol p) : ∀ n, Smol (rotN n p)
  | 0 => h
  | n + 1 => by
    have := rotN_smol h n
    unfold Smol at *
    unfold rotN rot1
    simp only
    omega
theorem mirP_smol {p : Int × Int} (m : Bool) (h : Smol p) : Smol (mirP m p) := by
  unfold Smol mirP at *
  cases m <;> simp <;> omega

set_option maxRecDepth 100000 in
set_option maxHeartbeats 4000000 in
theorem turned_any (v : Value) (xs : List (Int × Int)) (m : Bool) (q : Nat) (bx by' : Int) (w : World) (hI : spotK.Is w v xs) (hq : q ≤ 1000) (hs : ∀ s ∈ xs, Smol s) (hl : xs.length ≤ 1000) :
    Calls Try.prog 54 #[v, .bool m, .int .i64 q, .agg #[.int .i64 bx, .int .i64 by']] w fun e w' => ∃ v', e = .returned v' ∧ spotK.Own w.heap.size w' v' (xs.map (moveP m q bx by')) ∧ Ext w w' := by
  obtain ⟨A, n, c, rfl, hn, _, hr, hm⟩ := hI.open_
  have HR := Lib.hid hr
  have HN := Lib.hid hn
  have HS := Lib.hid hs
  have hn1 : n ≤ 1000 := by omega
  clear hI hr hn hs hl
  go_enter Try.func54, Try.ntmps54
  go_wp2_with fail
  refine lay_wp (fun W => Ext w W ∧ W.cell? ⟨w.heap.size, 0, none⟩ = some (.int .i64 bx) ∧ W.cell? ⟨w.heap.size, 1, none⟩ = some (.int .i64 by')) ⟨by (repeat' (first | with_reducible exact Ext.refl _ | with_reducible apply Ext.alloc | with_reducible apply Ext.drew | with_reducible apply Ext.drewN | with_reducible refine Ext.setCell ?_ ?_ _ | with_reducible apply Ext.step | with_reducible assumption | with_reducible exact Nat.le_refl _ | (simp; done) | (simp; omega))), by go_cell, by go_cell⟩ ?_
  rintro W1 ⟨x1, c0, c1⟩
  have HX1 := Lib.hid x1
  have hsz := x1.bel.size
  clear x1
  go_loopw [9, 14] (fun ov iv wr => ∃ j : Nat, j ≤ n ∧ iv = .int .i64 j ∧ spotK.Own W1.heap.size wr ov ((xs.take j).map (moveP m q bx by')) ∧ Ext W1 wr) (fun _ iv _ => n - (intOf iv).toNat)
  case atStart => exact ⟨0, by omega, rfl, EK.Own.nil _ _, Ext.refl _⟩
  case round =>
    obtain ⟨j, hj, rfl, hown, hx⟩ := hrel
    obtain ⟨wo, rfl⟩ : ∃ wo, wo = wr := ⟨wr, rfl⟩
    have HX := Lib.hid hx
    have HO := Lib.hid hown
    obtain ⟨Ao, no, co, rfl⟩ := own_shapeT hown
    by_cases hlt : j < n
    · have hjl : j < xs.length := by rw [HN.out]; exact hlt
      obtain ⟨b, o, rfl, hb, d0, d1⟩ := spotK_at HR.out hjl
      replace d0 := hx.cell_some (HX1.out.cell_some d0)
      replace d1 := hx.cell_some (HX1.out.cell_some d1)
      have hsm := HS.out _ (List.getElem_mem hjl)
      have HTK := Lib.hid (show (xs.take (j + 1)).map (moveP m q bx by') = (xs.take j).map (moveP m q bx by') ++ [moveP m q bx by' xs[j]] by rw [List.take_succ_eq_append_getElem hjl, List.map_append]; rfl)
      have hlen : ((xs.take j).map (moveP m q bx by')).length ≤ 1000000000 := by rw [List.length_map, List.length_take]; omega
      have HLN := Lib.hid hlen
      have HMV := Lib.hid (show moveP m q bx by' xs[j] = (wrap64 ((rotN q (mirP m xs[j])).1 + bx), wrap64 ((rotN q (mirP m xs[j])).2 + by')) from rfl)
      obtain ⟨s, hsx⟩ : ∃ s, s = xs[j] := ⟨_, rfl⟩
      rw [← hsx] at d0 d1 hsm HMV HTK
      have HSM := Lib.hid (mirP_smol m hsm)
      obtain ⟨p, hp⟩ : ∃ p, p = mirP m s := ⟨_, rfl⟩
      rw [← hp] at HMV HSM
      have HP := Lib.hid hp
      have lb := cell_lt d0
      have hwo := hx.bel.size
      obtain ⟨sx, sy⟩ := s
      simp only at d0 d1
      obtain ⟨⟨q1, q2⟩, q3, q4⟩ := hsm
      simp only at q1 q2 q3 q4
      have e0 := hx.cell_some c0
      have e1 := hx.cell_some c1
      have le0 := cell_lt e0
      clear hown hx hsx hp hlen
      have HPV : Hid (p = if m then (-sx, sy) else (sx, sy)) := Lib.hid (by rw [HP.out]; rfl)
      cases m
      all_goals
        go_wp2_with fail
        refine lay_wp (fun W => Ext wo W ∧ (W.cell? ⟨wo.heap.size, 0, none⟩ = some (.int .i64 p.1) ∧ W.cell? ⟨wo.heap.size, 1, none⟩ = some (.int .i64 p.2)) ∧ W.frozen? ⟨wo.heap.size, 0, none⟩ = false ∧ W.frozen? ⟨wo.heap.size, 1, none⟩ = false) ⟨by (repeat' (first | with_reducible exact Ext.refl _ | with_reducible apply Ext.alloc | with_reducible apply Ext.drew | with_reducible apply Ext.drewN | with_reducible refine Ext.setCell ?_ ?_ _ | with_reducible apply Ext.step | with_reducible assumption | with_reducible exact Nat.le_refl _ | (simp; done) | (simp; omega))), ⟨by rw [HPV.out]; go_cell, by rw [HPV.out]; go_cell⟩, by go_simp, by go_simp⟩ ?_
        rintro W2 ⟨x2, ⟨s0, s1⟩, f0, f1⟩
        have HX2 := Lib.hid x2
        have HC0 := Lib.hid (And.intro s0 (And.intro s1 (And.intro f0 f1)))
        clear x2 s0 s1 f0 f1 d0 d1
        go_loopw [24] (fun iv wr => ∃ i : Nat, i ≤ q ∧ iv = .int .i64 i ∧ Ext wo wr ∧ wr.cell? ⟨wo.heap.size, 0, none⟩ = some (.int .i64 (rotN i p).1) ∧ wr.cell? ⟨wo.heap.size, 1, none⟩ = some (.int .i64 (rotN i p).2) ∧ wr.frozen? ⟨wo.heap.size, 0, none⟩ = false ∧ wr.frozen? ⟨wo.heap.size, 1, none⟩ = false) (fun iv _ => q - (intOf iv).toNat)
        case atStart => exact ⟨0, by omega, rfl, HX2.out, HC0.out.1, HC0.out.2.1, HC0.out.2.2.1, HC0.out.2.2.2⟩
        case round =>
          obtain ⟨i, hi, rfl, hxi, s0, s1, f0, f1⟩ := hrel
          have HXI := Lib.hid hxi
          have ls := cell_lt s0
          obtain ⟨⟨k1, k2⟩, k3, k4⟩ := rotN_smol HSM.out i
          by_cases hiq : i < q
          · have HRN := Lib.hid (show rotN (i + 1) p = (-(rotN i p).2, (rotN i p).1) from rfl)
            generalize rotN i p = r at *
            obtain ⟨rx, ry⟩ := r
            simp only at s0 s1 k1 k2 k3 k4
            have ht := set2 s0 s1 (.int .i64 (-ry)) (.int .i64 rx)
            have HT2 := Lib.hid ht
            clear hxi ht
            go_wp2_with fail
            go_roundw
            case rel => exact ⟨i + 1, by omega, by go_num, (HXI.out.setCell (Nat.le_refl _) _).setCell (Nat.le_refl _) _, by rw [HRN.out]; exact HT2.out.1, by rw [HRN.out]; exact HT2.out.2, by simp [f0], by simp [f1]⟩
            case measure => simp [intOf]; omega
          · obtain rfl : i = q := by omega
            replace e0 := hxi.cell_some e0
            replace e1 := hxi.cell_some e1
            replace le0 := cell_lt e0
            have hwr := hxi.bel.size
            generalize rotN i p = r at *
            obtain ⟨rx, ry⟩ := r
            simp only at s0 s1 k1 k2 k3 k4 HMV
            clear hxi
            go_wp2_with (at_builtin; refine EK.app (K := spotK) (B := W1.heap.size) rfl (.tmp 33) (.tmp 45) rfl wr.heap.size 1 (wrap64 (rx + bx), wrap64 (ry + by')) rfl rfl (fun ii u hu => cell_new hu) ((HO.out.ext HXI.out).ext ((Ext.refl _).alloc _)) (by simp; omega) HLN.out ?_; intro v' w3 o3 b3 _; obtain ⟨Av, kv, cv, rfl⟩ := own_shapeT o3; have HO3 := Lib.hid o3; have HB3 := Lib.hid b3; clear o3 b3)
            go_roundw
            case rel => exact ⟨j + 1, by omega, by go_num, by rw [HTK.out, HMV.out]; exact HO3.out, ((HX.out.trans HXI.out).alloc _).below HB3.out (Nat.le_refl _)⟩
            case measure => simp [intOf]; omega
    · obtain rfl : j = n := by omega
      have HE := Lib.hid (show (xs.take j).map (moveP m q bx by') = xs.map (moveP m q bx by') by rw [List.take_of_length_le (by rw [HN.out]; exact Nat.le_refl _)])
      clear hown hx
      go_wp2_with fail
      go_ret
      exact ⟨_, rfl, by rw [← HE.out]; exact HO.out.mono hsz, HX1.out.trans HX.out⟩
end Go.Proofs.Ytgeapenglcohfaa
