/- light.Latent and the reference's. Condition: the message reads as a list. -/
import Derived.Test.YtkjgcmdabelohaaLRep
import Derived.Test.YtkjgcmdabelohaaLTools
import Derived.Test.YtkjgcmdabelohaaLSameB
namespace Go.Proofs.Ytkjgcmdabelohaa
open Go.RowKit

def latE (ms : List Bool) (ya yb na nb : Int) : Int := if 576 < ms.length then 4 else if tiltB ya yb && tiltB na nb then 0 else 2
def latX (ya yb na nb : Int) (b : Bool) : Int × Int := if b then (ya, yb) else (na, nb)
def latL (ms : List Bool) (ya yb na nb : Int) : List (Int × Int) := if latE ms ya yb na nb = 0 then ms.map (latX ya yb na nb) else []
/-- While the first j are laid. -/
def latTo (ms : List Bool) (ya yb na nb : Int) (j : Nat) : List (Int × Int) := (List.range ms.length).map fun i => if i < j ∧ ms[i]?.getD false = true then (ya, yb) else (na, nb)
theorem latTo_len {ms : List Bool} {ya yb na nb : Int} {j : Nat} : (latTo ms ya yb na nb j).length = ms.length := by simp [latTo]
theorem latTo_zero {ms : List Bool} {ya yb na nb : Int} : latTo ms ya yb na nb 0 = List.replicate ms.length (na, nb) := by
  apply List.ext_getElem
  · simp [latTo]
  · intro i h1 h2
    simp [latTo]
theorem latTo_end {ms : List Bool} {ya yb na nb : Int} : latTo ms ya yb na nb ms.length = ms.map (latX ya yb na nb) := by
  apply List.ext_getElem
  · simp [latTo]
  · intro i h1 h2
    have h3 : i < ms.length := by simpa using h2
    simp only [latTo, List.getElem_map, List.getElem_range, List.getElem?_eq_getElem h3, Option.getD_some, latX]
    simp [h3]
theorem latTo_set {ms : List Bool} {ya yb na nb : Int} {j : Nat} (h : j < ms.length) (hb : ms[j] = true) : (latTo ms ya yb na nb j).set j (ya, yb) = latTo ms ya yb na nb (j + 1) := by
  apply List.ext_getElem
  · simp [latTo]
  · intro i h1 h2
    rw [List.getElem_set]
    simp only [latTo, List.getElem_map, List.getElem_range]
    split
    · rename_i e
      subst e
      rw [if_pos ⟨by omega, by rw [List.getElem?_eq_getElem h]; exact hb⟩]
    · rename_i e
      simp only [show (i < j + 1) = (i < j) from propext (by omega)]
theorem latTo_stay {ms : List Bool} {ya yb na nb : Int} {j : Nat} (h : j < ms.length) (hb : ms[j] = false) : latTo ms ya yb na nb (j + 1) = latTo ms ya yb na nb j := by
  apply List.ext_getElem
  · simp [latTo]
  · intro i h1 h2
    simp only [latTo, List.getElem_map, List.getElem_range]
    by_cases e : i = j
    · subst e
      rw [List.getElem?_eq_getElem h]
      simp [hb]
    · simp only [show (i < j + 1) = (i < j) from propext (by omega)]
theorem lfrom_four (b : Nat) (x y z u lo hi : Int) (c : Nat) (w : World) (h0 : w.cell? ⟨b, 0, none⟩ = some (.int .i64 x)) (h1 : w.cell? ⟨b, 1, none⟩ = some (.int .i64 y)) (h2 : w.cell? ⟨b, 2, none⟩ = some (.int .i64 z)) (h3 : w.cell? ⟨b, 3, none⟩ = some (.int .i64 u)) :
    Calls Try.prog 42 #[.int .i64 lo, .int .i64 hi, .slice (some ⟨b, 0, none⟩) 4 c] w fun e w' => e = .returned (.bool ((inB lo hi x && inB lo hi y) && (inB lo hi z && inB lo hi u))) ∧ Ext w w' := by
  have hr : RowI w (some ⟨b, 0, none⟩) 4 [x, y, z, u] := ⟨rfl, by decide, fun k hk => by
    match k, hk with
    | 0, _ => exact ⟨b, 0, rfl, cell_lt h0, h0⟩
    | 1, _ => exact ⟨b, 0, rfl, cell_lt h0, h1⟩
    | 2, _ => exact ⟨b, 0, rfl, cell_lt h0, h2⟩
    | 3, _ => exact ⟨b, 0, rfl, cell_lt h0, h3⟩⟩
  have := lfrom_any _ 4 c [x, y, z, u] lo hi w hr
  simpa [allB, Bool.and_assoc] using this

theorem retEE_mkL {α : Type} {K : EK α} {w W : World} {zs zs' : List α} {v : Value} {er er' : Int} (ho : K.Own w.heap.size W v zs) (hz : zs' = zs) (he : er' = er) (x : Ext w W) : RetEE K w zs' er' (.returned (.tuple #[v, .int .i64 er])) W := by
  subst hz he
  exact ⟨v, rfl, ho, x⟩

set_option maxRecDepth 100000 in
set_option maxHeartbeats 4000000 in
theorem Latent_any (mv : Value) (ms : List Bool) (ya yb na nb : Int) (w : World) (hM : boolK.Is w mv ms) :
    Calls Try.prog 41 #[mv, tiltV ya yb, tiltV na nb] w (RetEE tiltK w (latL ms ya yb na nb) (latE ms ya yb na nb)) := by
  obtain ⟨A, n, c, rfl, hn, _, hr, hm⟩ := hM.open_
  have HN := Lib.hid hn
  have HR := Lib.hid hr
  clear hM hr
  by_cases hb : 576 < n
  · have g1 : decide ((576 : Int) < (n : Int)) = true := decide_eq_true (by omega)
    have HE := Lib.hid (show latE ms ya yb na nb = 4 from if_pos (by rw [hn]; exact hb))
    have HL := Lib.hid (show latL ms ya yb na nb = [] from if_neg (by rw [HE.out]; decide))
    clear hn hb
    go_enter Try.func41, Try.ntmps41
    go_wp2_with fail
    go_ret2
    exact retEE_mkL (EK.Own.nil _ _) HL.out HE.out (by (repeat' (first | with_reducible exact Ext.refl _ | with_reducible apply Ext.alloc | with_reducible apply Ext.drew | with_reducible apply Ext.drewN | with_reducible refine Ext.setCell ?_ ?_ _ | with_reducible apply Ext.step | with_reducible assumption | with_reducible exact Nat.le_refl _ | (simp; done) | (simp; omega))))
  have g1 : decide ((576 : Int) < (n : Int)) = false := decide_eq_false (by omega)
  have HF := Lib.hid fun (b : Nat) (W : World) h0 h1 h2 h3 => lfrom_four b ya yb na nb (-400) 400 4 W h0 h1 h2 h3
  cases ht : (tiltB ya yb && tiltB na nb)
  · have HE := Lib.hid (show latE ms ya yb na nb = 2 from (if_neg (by omega)).trans (if_neg (by rw [ht]; decide)))
    have HL := Lib.hid (show latL ms ya yb na nb = [] from if_neg (by rw [HE.out]; decide))
    rw [show ((inB (-400) 400 ya && inB (-400) 400 yb) && (inB (-400) 400 na && inB (-400) 400 nb)) = false from ht] at HF
    clear hn hb ht
    go_enter Try.func41, Try.ntmps41
    go_wp2_with fail
    refine (HF.out _ _ (by go_cell) (by go_cell) (by go_cell) (by go_cell)).mono ?_
    rintro e w1 ⟨rfl, x1⟩
    have HX1 := Lib.hid (show Ext w w1 from Ext.trans (by (repeat' (first | with_reducible exact Ext.refl _ | with_reducible apply Ext.alloc | with_reducible apply Ext.drew | with_reducible apply Ext.drewN | with_reducible refine Ext.setCell ?_ ?_ _ | with_reducible apply Ext.step | with_reducible assumption | with_reducible exact Nat.le_refl _ | (simp; done) | (simp; omega)))) x1)
    clear x1
    go_wp2_with fail
    go_ret2
    exact retEE_mkL (EK.Own.nil _ _) HL.out HE.out HX1.out
  have HE := Lib.hid (show latE ms ya yb na nb = 0 from (if_neg (by omega)).trans (if_pos ht))
  have HL := Lib.hid (show latL ms ya yb na nb = ms.map (latX ya yb na nb) from if_pos HE.out)
  rw [show ((inB (-400) 400 ya && inB (-400) 400 yb) && (inB (-400) 400 na && inB (-400) 400 nb)) = true from ht] at HF
  have HRP := Lib.hid fun (b : Nat) (W : World) h0 h1 => repeatT_any b 1 (na, nb) n W h0 h1 (by omega)
  have hn5 : n ≤ 576 := by omega
  clear hn hb ht
  go_enter Try.func41, Try.ntmps41
  go_wp2_with fail
  refine (HF.out _ _ (by go_cell) (by go_cell) (by go_cell) (by go_cell)).mono ?_
  rintro e w1 ⟨rfl, x1⟩
  have HX1 := Lib.hid (show Ext w w1 from Ext.trans (by (repeat' (first | with_reducible exact Ext.refl _ | with_reducible apply Ext.alloc | with_reducible apply Ext.drew | with_reducible apply Ext.drewN | with_reducible refine Ext.setCell ?_ ?_ _ | with_reducible apply Ext.step | with_reducible assumption | with_reducible exact Nat.le_refl _ | (simp; done) | (simp; omega)))) x1)
  have a0 : w1.cell? ⟨w.heap.size, 0, none⟩ = some (.int .i64 ya) := x1.cell_some (by go_cell)
  have a1 : w1.cell? ⟨w.heap.size, 1, none⟩ = some (.int .i64 yb) := x1.cell_some (by go_cell)
  have b0 : w1.cell? ⟨w.heap.size + 1, 0, none⟩ = some (.int .i64 na) := x1.cell_some (by go_cell)
  have b1 : w1.cell? ⟨w.heap.size + 1, 1, none⟩ = some (.int .i64 nb) := x1.cell_some (by go_cell)
  have la := cell_lt a0
  have lb := cell_lt b0
  clear x1
  go_wp2_with fail
  refine (HRP.out _ _ (by go_cell) (by go_cell)).mono ?_
  rintro e w2 ⟨v2, rfl, o2, x2⟩
  have HX2 := Lib.hid (show Ext w1 w2 from Ext.trans (by (repeat' (first | with_reducible exact Ext.refl _ | with_reducible apply Ext.alloc | with_reducible apply Ext.drew | with_reducible apply Ext.drewN | with_reducible refine Ext.setCell ?_ ?_ _ | with_reducible apply Ext.step | with_reducible assumption | with_reducible exact Nat.le_refl _ | (simp; done) | (simp; omega)))) x2)
  obtain ⟨A2, k2, c2, rfl, hk2, -⟩ := o2.is.open_
  rw [List.length_replicate] at hk2
  subst hk2
  rw [show List.replicate n (na, nb) = latTo ms ya yb na nb 0 by rw [latTo_zero, HN.out]] at o2
  have HO2 := Lib.hid (o2.mono (show w1.heap.size ≤ _ by simp))
  have HA := Lib.hid (And.intro a0 a1)
  clear x2 o2 a0 a1 b0 b1 la lb
  go_wp2_with fail
  go_loopw [32] (fun iv wr => ∃ j : Nat, j ≤ n ∧ iv = .int .i64 (j : Int) ∧ tiltK.Own w1.heap.size wr (.slice A2 n c2) (latTo ms ya yb na nb j) ∧ Ext w1 wr) (fun iv _ => n - (intOf iv).toNat)
  case atStart => exact ⟨0, by omega, rfl, HO2.out, HX2.out⟩
  case round =>
    obtain ⟨j, hj, rfl, ho, hx⟩ := hrel
    have HX := Lib.hid hx
    have HO := Lib.hid ho
    by_cases hlt : j < n
    · have hjl : j < ms.length := by rw [HN.out]; exact hlt
      have hji : (j : Int) < (n : Int) := by omega
      obtain ⟨b, o, rfl, _, d0⟩ := bools_at HR.out j hjl
      replace d0 := (HX1.out.trans hx).cell_some d0
      have ld := cell_lt d0
      cases hbj : ms[j]
      · have HST := Lib.hid (latTo_stay (ya := ya) (yb := yb) (na := na) (nb := nb) hjl hbj)
        rw [hbj] at d0
        clear hx ho hbj
        go_wp2_with fail
        go_roundw
        case rel => exact ⟨j + 1, by omega, by go_num, by rw [HST.out]; exact HO.out, HX.out⟩
        case measure => simp [intOf]; omega
      · have HST := Lib.hid (latTo_set (ya := ya) (yb := yb) (na := na) (nb := nb) hjl hbj)
        rw [hbj] at d0
        have a0 := hx.cell_some HA.out.1
        have a1 := hx.cell_some HA.out.2
        have la := cell_lt a0
        obtain ⟨g, cg, hge, hg0, hgl, hgc, hgf⟩ := ho.slot (j := j) (by rw [latTo_len]; exact hjl)
        simp only [Value.slice.injEq] at hge
        obtain ⟨rfl, -, rfl⟩ := hge
        have g0 := hgc 0 _ rfl
        have g1 := hgc 1 _ rfl
        have gf0 := hgf (j * 2)
        have gf1 := hgf (j * 2 + 1)
        simp only [tiltK, Nat.add_zero] at g0 g1
        generalize ((latTo ms ya yb na nb j)[j]'_) = old at g0 g1
        have HGB := Lib.hid hg0
        have HLL := Lib.hid (show (latTo ms ya yb na nb j).length = n by rw [latTo_len, HN.out])
        clear hgc hgf ho hx hbj hg0
        go_wp2_with fail
        go_roundw
        case rel => exact ⟨j + 1, by omega, by go_num, by rw [← HST.out]; exact HO.out.put2N HLL.out hlt rfl (ya, yb) (.int .i64 ya) (.int .i64 yb) rfl, (HX.out.setCell (p := ⟨g, j * 2, none⟩) HGB.out _).setCell (p := ⟨g, j * 2 + 1, none⟩) HGB.out _⟩
        case measure => simp [intOf]; omega
    · obtain rfl : j = n := by omega
      have HEN := Lib.hid (latTo_end (ms := ms) (ya := ya) (yb := yb) (na := na) (nb := nb))
      rw [HN.out] at HEN
      clear hx ho
      go_wp2_with fail
      go_ret2
      exact retEE_mkL (HO.out.mono HX1.out.bel.size) (HL.out.trans HEN.out.symm) HE.out (HX1.out.trans HX.out)
end Go.Proofs.Ytkjgcmdabelohaa
