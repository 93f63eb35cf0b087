/- The reference's Hide, where its arguments are right. Conditions: so named. -/
import Derived.Test.YtgeapenglcohfaaGHidR
import Derived.Test.YtgeapenglcohfaaGHidW
namespace Go.Proofs.Ytgeapenglcohfaa
open Go.RowKit Go.Shelf

attribute [local go_sem] Oper.semAt_some

/-- What the reference's Hide answers. -/
def RHidPost (r : Option (List Int × Int)) (w : World) (e : Ending) (w' : World) : Prop :=
  ∃ v er xs, e = .returned (.tuple #[v, .int .i64 er]) ∧ IsI w' v xs ∧ Ext w w' ∧ ((r = none ∧ er = 6 ∧ xs = []) ∨ (∃ la, r = some (xs, la) ∧ er = 0))

/-- A row of costs lies in a block. -/
def RowC (h : Nat) (f : Nat → Cst) (W : World) : Prop := ∀ s, s < 41 → CostAt h (s * 3) (f s) W
theorem RowC.ext {h : Nat} {f : Nat → Cst} {W W' : World} (hr : RowC h f W) (x : Ext W W') : RowC h f W' := fun s hs => (hr s hs).ext x
theorem RowC.but {h : Nat} {f : Nat → Cst} {D : List Nat} {W W' : World} (hr : RowC h f W) (x : But D W W') (hd : h ∉ D) : RowC h f W' := fun s hs => (hr s hs).but x hd
theorem RowC.congr {h : Nat} {f f' : Nat → Cst} {W : World} (hr : RowC h f W) (e : ∀ s, s < 41 → f s = f' s) : RowC h f' W := fun s hs => e s hs ▸ hr s hs
theorem RowC.put {h : Nat} {f : Nat → Cst} {W : World} (hr : RowC h f W) {s : Nat} (hs : s < 41) (c : Cst) :
    RowC h (fun r => if r = s then c else f r) (((W.setCell ⟨h, s * 3, none⟩ (.int .i64 c.1)).setCell ⟨h, s * 3 + 1, none⟩ (.int .i64 c.2.1)).setCell ⟨h, s * 3 + 2, none⟩ (.bool c.2.2)) := fun r hr' => by
  by_cases e : r = s
  · subst e
    simp only [if_pos]
    exact (hr r hr').put c
  · simp only [if_neg e]
    refine (((hr r hr').oth _ (.inr ?_)).oth _ (.inr ?_)).oth _ (.inr ?_) <;> omega
theorem cost_made (w : World) (t : TypeId) : RowC w.heap.size (fun _ => (0, 0, false)) (w.alloc (.cells (madeCells #[.int .i64 0, .int .i64 0, .bool false] (41 * 3)) t)) := fun s hs => by
  have hg := heap_alloc_new w (.cells (madeCells #[.int .i64 0, .int .i64 0, .bool false] (41 * 3)) t)
  have at_ : ∀ o, o < 123 → (madeCells #[Value.int .i64 0, .int .i64 0, .bool false] (41 * 3))[o]? = some (#[Value.int .i64 0, .int .i64 0, .bool false][o % 3]!) := fun o ho => by
    unfold madeCells
    simp [ho]
  refine ⟨?_, ?_, ?_, frozen_of_row _ _ _ _ _ hg, frozen_of_row _ _ _ _ _ hg, frozen_of_row _ _ _ _ _ hg⟩
  · rw [cell_of_row _ _ _ _ _ _ hg, at_ _ (by omega), show s * 3 % 3 = 0 by omega]
    rfl
  · rw [cell_of_row _ _ _ _ _ _ hg, at_ _ (by omega), show (s * 3 + 1) % 3 = 1 by omega]
    rfl
  · rw [cell_of_row _ _ _ _ _ _ hg, at_ _ (by omega), show (s * 3 + 2) % 3 = 2 by omega]
    rfl

/-- The slice of rows: d rows done, from behind. -/
structure RefT (B g L : Nat) (f : Nat → Nat → Cst) (d : Nat) (W : World) : Prop where
  cells : ∀ r, r ≤ L → (∃ v, W.cell? ⟨g, r, none⟩ = some v) ∧ W.frozen? ⟨g, r, none⟩ = false
  rows : ∀ r, r ≤ L → L < r + d → ∃ h, B ≤ h ∧ h ≠ g ∧ W.cell? ⟨g, r, none⟩ = some (.slice (some ⟨h, 0, none⟩) 41 41) ∧ RowC h (f (L - r)) W
theorem RefT.ext {B g L : Nat} {f : Nat → Nat → Cst} {d : Nat} {W W' : World} (h : RefT B g L f d W) (x : Ext W W') : RefT B g L f d W' :=
  ⟨fun r hr => by
    obtain ⟨⟨v, h1⟩, h2⟩ := h.cells r hr
    exact ⟨⟨v, x.cell_some h1⟩, x.frozen h1 h2⟩, fun r hr hd => by
    obtain ⟨b, h1, h2, h3, h4⟩ := h.rows r hr hd
    exact ⟨b, h1, h2, x.cell_some h3, h4.ext x⟩⟩
/-- Blocks that are younger than the world are turned. -/
theorem RefT.but {B g L : Nat} {f : Nat → Nat → Cst} {d : Nat} {D : List Nat} {W W' : World} (h : RefT B g L f d W) (k : But D W W') (hD : ∀ e ∈ D, W.heap.size ≤ e) : RefT B g L f d W' :=
  h.ext (k.below (Ext.refl _) hD)
theorem RefT.put {B g L : Nat} {f : Nat → Nat → Cst} {d : Nat} {W : World} (h : RefT B g L f d W) {h' : Nat} (hB : B ≤ h') (hne : h' ≠ g) (hd : d ≤ L) (hr : RowC h' (f d) W) :
    RefT B g L f (d + 1) (W.setCell ⟨g, L - d, none⟩ (.slice (some ⟨h', 0, none⟩) 41 41)) := by
  refine ⟨fun r hr => ?_, fun r hr' hd' => ?_⟩
  · obtain ⟨⟨v, h1⟩, h2⟩ := h.cells r hr
    refine ⟨?_, by simp [h2]⟩
    by_cases e : r = L - d
    · subst e
      exact ⟨_, cell_set_same h1⟩
    · exact ⟨v, (cell_set_other (.inr e)).trans h1⟩
  · by_cases e : r = L - d
    · subst e
      obtain ⟨⟨v, h1⟩, _⟩ := h.cells (L - d) hr'
      refine ⟨h', hB, hne, cell_set_same h1, ?_⟩
      rw [show L - (L - d) = d by omega]
      exact fun s hs => (hr s hs).oth _ (.inl hne)
    · obtain ⟨b, h1, h2, h3, h4⟩ := h.rows r hr' (by omega)
      exact ⟨b, h1, h2, (cell_set_other (.inr e)).trans h3, fun s hs => (h4 s hs).oth _ (.inl h2)⟩

def Bd (r : Nat) (c : Cst) : Prop := 0 ≤ c.1 ∧ c.1 ≤ r ∧ 0 ≤ c.2.1 ∧ c.2.1 ≤ 20 * r
theorem rowTo_bd {f : Int → Cst} {r : Nat} {s mo : Int} (hs : -20 ≤ s ∧ s ≤ 20) (hf : ∀ i, -20 ≤ i ∧ i ≤ 20 → Bd r (f i)) : ∀ k : Nat, k ≤ 41 → Bd (r + 1) (rowTo f s mo k)
  | 0, _ => by unfold rowTo Bd; simp only; omega
  | k + 1, hk => by
    have ih := rowTo_bd (mo := mo) hs hf k (by omega)
    have h1 := hf (-20 + k) (by omega)
    have h2 : Bd (r + 1) (moreC (f (-20 + k)) s) := by
      unfold Bd moreC at *
      simp only
      split <;> omega
    unfold rowTo
    split
    · split
      · exact h2
      · exact ih
    · exact ih
theorem rowR_bd (made mo : Int) : ∀ (r : Nat) (s : Int), -20 ≤ s ∧ s ≤ 20 → Bd r (rowR made mo r s)
  | 0, s, _ => by unfold rowR Bd; simp
  | r + 1, s, hs => rowTo_bd hs (fun i hi => rowR_bd made mo r i hi) 41 (by omega)

theorem pickDn_bd (f : Int → Cst) (la mo : Int) (k : Nat) (hk : k ≤ 41) : pickDn f la mo k = -21 ∨ (-20 ≤ pickDn f la mo k ∧ pickDn f la mo k ≤ 20) := by
  rcases pickDn_spec f la mo k hk with ⟨h, _⟩ | h
  · exact .inl h
  · refine .inr ⟨?_, h.mem.1.2⟩
    have := h.mem.1.1
    omega

theorem hideR_stop {made mo : Int} {L : Nat} {la : Int} {i : Nat} (h : hideR made mo L la i = none) : ∀ {n : Nat}, i ≤ n → hideR made mo L la n = none := by
  intro n hn
  obtain ⟨d, rfl⟩ := Nat.exists_eq_add_of_le hn
  induction d with
  | zero => exact h
  | succ d ih =>
    show (hideR made mo L la (i + d)).bind _ = none
    rw [ih (by omega)]
    rfl

theorem own_shape {α : Type} {K : EK α} {B : Nat} {w : World} {v : Value} {xs : List α} (h : K.Own B w v xs) : ∃ A k c, v = .slice A k c := by
  rcases h.2 with ⟨rfl, _⟩ | ⟨g, cap, cur, rfl, _⟩ <;> exact ⟨_, _, _, rfl⟩

/-- A row, s slips done. -/
def rowS (made mo : Int) (d s r : Nat) : Cst := if r < s then rowR made mo d (-20 + r) else (0, 0, false)

theorem rowS_put {made mo : Int} {d s r : Nat} : (if r = s then rowR made mo d (-20 + s) else rowS made mo d s r) = rowS made mo d (s + 1) r := by
  unfold rowS
  by_cases e : r = s
  · rw [if_pos e, if_pos (by omega), e]
  · rw [if_neg e]
    by_cases e2 : r < s
    · rw [if_pos e2, if_pos (by omega)]
    · rw [if_neg e2, if_neg (by omega)]

set_option maxRecDepth 100000 in
set_option maxHeartbeats 8000000 in
theorem refHide_good (A : Option Addr) (k c : Nat) (made : List Int) (L : Nat) (mo : Int) (w : World) (hz : RowI w A k made) (hk1 : 1 ≤ k) (hk2 : k ≤ 60) (hall : allB (-20) 20 made = true) (hL : L ≤ 60) (hm0 : 0 ≤ mo) (hm1 : mo ≤ 20) :
    Calls Try.prog 27 #[.slice A k c, .int .i64 (L : Int), .int .i64 mo] w (RHidPost (hideR (made[0]?.getD 0) mo L (made[k - 1]?.getD 0) (L + 1)) w) := by
  have HZ := Lib.hid fun (j : Nat) (h : j < k) => hz.at_ j h
  obtain ⟨ab, ao, rfl, hab, hA0⟩ := hz.at_ 0 (by omega)
  obtain ⟨ab', ao', he, _, hA1⟩ := hz.at_ (k - 1) (by omega)
  simp only [Option.some.injEq, Addr.mk.injEq, and_true] at he
  obtain ⟨rfl, rfl⟩ := he
  have HAL := Lib.hid fun (j : Nat) (h : j < k) => (show -20 ≤ made[j]?.getD 0 ∧ made[j]?.getD 0 ≤ 20 from allB_at hall (by rw [hz.len]; omega))
  have hb0 := HAL.out 0 (by omega)
  have hb1 := HAL.out (k - 1) (by omega)
  generalize hm : made[0]?.getD 0 = m0 at *
  generalize hml : made[k - 1]?.getD 0 = ml at *
  obtain ⟨hm2, hm3⟩ := hb0
  obtain ⟨hm4, hm5⟩ := hb1
  have HA0 := Lib.hid hA0
  have HA1 := Lib.hid hA1
  clear hz hall hA0 hA1 hm hml
  have HG1 := Lib.hid fun W : World => (show Calls Try.prog 63 #[.int .i64 (L : Int), .int .i64 0, .int .i64 60] W fun e w' => e = .returned (.bool true) ∧ W = w' from (inB_iff.2 ⟨by omega, by omega⟩ : inB 0 60 (L : Int) = true) ▸ within_any (L : Int) 0 60 W)
  have HG2 := Lib.hid fun W : World => (show Calls Try.prog 63 #[.int .i64 mo, .int .i64 0, .int .i64 20] W fun e w' => e = .returned (.bool true) ∧ W = w' from (inB_iff.2 ⟨hm0, hm1⟩ : inB 0 20 mo = true) ▸ within_any mo 0 20 W)
  have hmk : ∀ w : World, (Instr.makeSlice 113 (.int .i64 ((L : Int) + 1)) (.int .i64 ((L : Int) + 1))).run Try.prog w = .ok (.slice (some ⟨w.heap.size, 0, none⟩) (L + 1) (L + 1)) (w.alloc (.cells (madeCells #[.slice none 0 0] (L + 1)) 114)) := fun w =>
    by
      have h := run_make_cells 113 114 (.slice none 0 0) 24 1 Try.underlying113 (by kernel_rfl) (L + 1) (by omega) (by omega) w
      rw [Nat.mul_one] at h
      exact h
  have hmk2 : ∀ w : World, (Instr.makeSlice 114 (.int .i64 41) (.int .i64 41)).run Try.prog w = .ok (.slice (some ⟨w.heap.size, 0, none⟩) 41 41) (w.alloc (.cells (madeCells #[.int .i64 0, .int .i64 0, .bool false] (41 * 3)) 116)) := fun w =>
    run_make_cells 114 116 (.agg #[.int .i64 0, .int .i64 0, .bool false]) 24 3 Try.underlying114 (by kernel_rfl) 41 (by omega) (by omega) w
  have hkb : ((k : Int) == 0) = false := by simp; omega
  have hkd : decide ((60 : Int) < (k : Int)) = false := by simp; omega
  go_enter Try.func27, Try.ntmps27
  go_wp2_with fail
  refine (HG1.out _).mono ?_
  rintro e _ ⟨rfl, rfl⟩
  go_wp2_with fail
  refine (HG2.out _).mono ?_
  rintro e _ ⟨rfl, rfl⟩
  go_wp2_with fail
  go_loop [8] (fun iv => ∃ j : Nat, j ≤ k ∧ iv = .int .i64 j) (fun iv => k - (intOf iv).toNat)
  case atStart => exact ⟨0, by omega, rfl⟩
  case round =>
    obtain ⟨j, hj, rfl⟩ := hrel
    by_cases hjk : j < k
    · obtain ⟨b2, o2, he, _, hc⟩ := HZ.out j hjk
      simp only [Option.some.injEq, Addr.mk.injEq, and_true] at he
      obtain ⟨rfl, rfl⟩ := he
      obtain ⟨y1, y2⟩ := HAL.out j hjk
      generalize made[j]?.getD 0 = y at *
      have HGY := Lib.hid (show Calls Try.prog 63 #[.int .i64 y, .int .i64 (-20), .int .i64 20] w fun e w' => e = .returned (.bool true) ∧ w = w' from (inB_iff.2 ⟨y1, y2⟩ : inB (-20) 20 y = true) ▸ within_any y (-20) 20 w)
      clear y1 y2
      go_wp2_with fail
      refine HGY.out.mono ?_
      rintro e _ ⟨rfl, rfl⟩
      go_wp2_with fail
      go_round
      case rel => exact ⟨j + 1, by omega, by go_num⟩
      case measure => simp [intOf]; omega
    · obtain rfl : j = k := by omega
      go_wp2_with fail
      refine lay_wp (fun W => Ext w W ∧ W.heap.size = w.heap.size + 1 ∧ RefT (w.heap.size + 1) w.heap.size L (fun d s => rowR m0 mo d (-20 + s)) 0 W) ⟨by (repeat' (first | with_reducible exact Ext.refl _ | with_reducible apply Ext.alloc | with_reducible apply Ext.drew | with_reducible apply Ext.drewN | with_reducible refine Ext.setCell ?_ ?_ _ | with_reducible apply Ext.step | with_reducible assumption | with_reducible exact Nat.le_refl _ | (simp; done) | (simp; omega))), by simp, ⟨fun r hr => ⟨⟨.slice none 0 0, by
        rw [cell_of_row _ _ _ _ _ _ (heap_alloc_new w _)]
        have hlt : r < L + 1 := by omega
        simp [madeCells, hlt]
        rw [Nat.mod_one]
        rfl⟩, frozen_of_row _ _ _ _ _ (heap_alloc_new w _)⟩, fun r hr hd => by omega⟩⟩ ?_
      rintro W1 ⟨x1, hs1, hrt⟩
      have hgw : w.heap.size ≤ w.heap.size := Nat.le_refl _
      generalize hg : w.heap.size = g at *
      have HX1 := Lib.hid x1
      have HRT := Lib.hid hrt
      have a0 := x1.cell_some HA0.out
      have a1 := x1.cell_some HA1.out
      have hag : ab < g := hab
      clear x1 hrt HG1 HG2 hmk HZ HAL hab
      simp only [Nat.add_zero] at a0
      go_loopw [10] (fun iv wr => ∃ d : Nat, d ≤ L + 1 ∧ iv = .int .i64 ((L : Int) - d) ∧ But [g] W1 wr ∧ RefT (g + 1) g L (fun d s => rowR m0 mo d (-20 + s)) d wr) (fun iv _ => (intOf iv + 1).toNat)
      case atStart => exact ⟨0, by omega, by simp, But.refl _ _, HRT.out⟩
      case round =>
        obtain ⟨d, hd, rfl, hbut, hrt⟩ := hrel
        have HBU := Lib.hid hbut
        have HRR := Lib.hid hrt
        have b0 := hbut.cell a0 (by simp; omega)
        clear hbut hrt
        by_cases hdl : d ≤ L
        · obtain ⟨i, hi⟩ : ∃ i : Nat, i + d = L := ⟨L - d, by omega⟩
          have hii : (L : Int) - d = i := by omega
          rw [hii]
          have HII := Lib.hid hii
          clear hii
          go_wp2_with fail
          refine lay_wp (fun W => Ext wr W ∧ W.heap.size = wr.heap.size + 1 ∧ RowC wr.heap.size (fun _ => (0, 0, false)) W) ⟨by (repeat' (first | with_reducible exact Ext.refl _ | with_reducible apply Ext.alloc | with_reducible apply Ext.drew | with_reducible apply Ext.drewN | with_reducible refine Ext.setCell ?_ ?_ _ | with_reducible apply Ext.step | with_reducible assumption | with_reducible exact Nat.le_refl _ | (simp; done) | (simp; omega))), by simp, cost_made wr _⟩ ?_
          rintro W3 ⟨x3, hs3, hrow⟩
          have hsz := HBU.out.size
          have HB3 := Lib.hid (HBU.out.ext x3)
          have HR3 := Lib.hid (HRR.out.ext x3)
          have HROW := Lib.hid hrow
          replace b0 := x3.cell_some b0
          have HX3 := Lib.hid x3
          clear x3 hrow HBU
          generalize hh : wr.heap.size = h at *
          have HH := Lib.hid hh
          clear hh
          have hhg : h ≠ g := by omega
          go_loopw [12] (fun iv wr => ∃ s : Nat, s ≤ 41 ∧ iv = .int .i64 (-20 + (s : Int)) ∧ But [h] W3 wr ∧ RowC h (rowS m0 mo d s) wr) (fun iv _ => 41 - (intOf iv + 20).toNat)
          case atStart => exact ⟨0, by omega, by simp, But.refl _ _, HROW.out.congr fun r _ => by simp [rowS]⟩
          case round =>
            obtain ⟨s, hs, rfl, hbut, hrow⟩ := hrel
            have HBH := Lib.hid hbut
            have HRW := Lib.hid hrow
            have b0' := hbut.cell b0 (by simp; omega)
            have hsz3 := hbut.size
            clear hbut hrow
            obtain ⟨sv, hsv⟩ : ∃ sv : Int, sv = -20 + (s : Int) := ⟨_, rfl⟩
            rw [← hsv]
            have hsv0 : -20 ≤ sv := by omega
            by_cases hs41 : s < 41
            · have hsv1 : sv ≤ 20 := by omega
              have hss : sv + 20 = s := by omega
              have HSV := Lib.hid hsv
              clear hsv
              by_cases hd0 : d = 0
              · have hiL : ((i : Int) == (L : Int)) = true := by simp; omega
                have hil : ¬ (i : Int) < (L : Int) := by omega
                go_wp2_with fail
                refine lay_wp (fun W => Ext wr W ∧ CostAt wr.heap.size 0 (0, 0, sv == m0) W) ⟨by (repeat' (first | with_reducible exact Ext.refl _ | with_reducible apply Ext.alloc | with_reducible apply Ext.drew | with_reducible apply Ext.drewN | with_reducible refine Ext.setCell ?_ ?_ _ | with_reducible apply Ext.step | with_reducible assumption | with_reducible exact Nat.le_refl _ | (simp; done) | (simp; omega))), ⟨by go_cell, by go_cell, by go_cell, by go_simp, by go_simp, by go_simp⟩⟩ ?_
                rintro W4 ⟨x4, hc4⟩
                have HX4 := Lib.hid x4
                have HC4 := Lib.hid hc4
                clear x4 hc4
                generalize hb13 : wr.heap.size = b13 at *
                have hne13 : h < b13 := by omega
                go_loopw [14] (fun iv wr => iv = .int .i64 (-20) ∧ Ext W4 wr) (fun _ _ => 0)
                case atStart => exact ⟨rfl, Ext.refl _⟩
                case round =>
                  obtain ⟨rfl, xe⟩ := hrel
                  have HE := Lib.hid (show But [b13] W4 wr ∧ CostAt b13 0 (rowR m0 mo d sv) wr from ⟨xe.but, by
                    have := HC4.out.ext xe
                    rw [show (sv == m0) = decide (sv = m0) by rw [Bool.eq_iff_iff]; simp] at this
                    rw [hd0]
                    exact this⟩)
                  clear xe
                  have hrw := ((HRW.out.ext HX4.out).but HE.out.1 (by simp; omega)) s hs41
                  have HPUT := Lib.hid ((((HRW.out.ext HX4.out).but HE.out.1 (by simp; omega)).put hs41 (rowR m0 mo d sv)).congr (f' := rowS m0 mo d (s + 1)) (fun r _ => by rw [HSV.out]; exact rowS_put))
                  have HBE := Lib.hid ((HBH.out.ext HX4.out).over HE.out.1 (show W3.heap.size ≤ b13 by omega))
                  obtain ⟨c0, c1, c2, _, _, _⟩ := HE.out.2
                  obtain ⟨r0, r1, r2, t0, t1, t2⟩ := hrw
                  generalize rowR m0 mo d sv = rc at *
                  obtain ⟨rc0, rc1, rc2⟩ := rc
                  simp only [Nat.zero_add] at c0 c1 c2
                  have lc := cell_lt c0
                  have lr := cell_lt r0
                  go_wp2_with fail
                  go_roundw
                  case rel => exact ⟨s + 1, by omega, by rw [HSV.out]; go_num, ((HBE.out.setCell (p := ⟨h, s * 3, none⟩) (by simp) _).setCell (p := ⟨h, s * 3 + 1, none⟩) (by simp) _).setCell (p := ⟨h, s * 3 + 2, none⟩) (by simp) _, HPUT.out⟩
                  case measure => simp [intOf]; omega
              · have hd1 : 1 ≤ d := by omega
                have hiL : ((i : Int) == (L : Int)) = false := by simp; omega
                have hil : (i : Int) < (L : Int) := by omega
                go_wp2_with fail
                refine lay_wp (fun W => Ext wr W ∧ CostAt wr.heap.size 0 (0, 0, false) W) ⟨by (repeat' (first | with_reducible exact Ext.refl _ | with_reducible apply Ext.alloc | with_reducible apply Ext.drew | with_reducible apply Ext.drewN | with_reducible refine Ext.setCell ?_ ?_ _ | with_reducible apply Ext.step | with_reducible assumption | with_reducible exact Nat.le_refl _ | (simp; done) | (simp; omega))), ⟨by go_cell, by go_cell, by go_cell, by go_simp, by go_simp, by go_simp⟩⟩ ?_
                rintro W4 ⟨x4, hc4⟩
                have HX4 := Lib.hid x4
                have HC4 := Lib.hid hc4
                clear x4 hc4
                generalize hb13 : wr.heap.size = b13 at *
                have hne13 : h < b13 := by omega
                go_loopw [14] (fun iv wr => ∃ q : Nat, q ≤ 41 ∧ iv = .int .i64 (-20 + (q : Int)) ∧ But [b13] W4 wr ∧ CostAt b13 0 (rowTo (rowR m0 mo (d - 1)) sv mo q) wr) (fun iv _ => 41 - (intOf iv + 20).toNat)
                case atStart => exact ⟨0, by omega, by simp, But.refl _ _, HC4.out⟩
                case round =>
                  obtain ⟨q, hq, rfl, hbut, hcq⟩ := hrel
                  have HBQ := Lib.hid hbut
                  have HCQ := Lib.hid hcq
                  obtain ⟨qv, hqv⟩ : ∃ qv : Int, qv = -20 + (q : Int) := ⟨_, rfl⟩
                  rw [← hqv]
                  by_cases hq41 : q < 41
                  · have hq0 : -20 ≤ qv := by omega
                    have hq1 : qv ≤ 20 := by omega
                    have hqs : qv + 20 = q := by omega
                    have HQV := Lib.hid hqv
                    obtain ⟨hb, hbB, hbg, hbc, hbr⟩ := HRR.out.rows (i + 1) (by omega) (by omega)
                    rw [show L - (i + 1) = d - 1 by omega] at hbr
                    have hbh : hb < h := HH.out ▸ cell_lt (hbr 0 (by omega)).c0
                    have hrq := ((((hbr q hq41).ext HX3.out).but HBH.out (by simp; omega)).ext HX4.out).but HBQ.out (by simp; omega)
                    have hgq := HBQ.out.cell (HX4.out.cell_some (HBH.out.cell (HX3.out.cell_some hbc) (by simp; omega))) (show g ∉ [b13] by simp; omega)
                    dsimp only at hrq
                    rw [← hqv] at hrq
                    have HSTEP := Lib.hid (show rowTo (rowR m0 mo (d - 1)) sv mo (q + 1) = if nearR qv sv mo && (rowR m0 mo (d - 1) qv).2.2 then (if fewC (moreC (rowR m0 mo (d - 1) qv) sv) (rowTo (rowR m0 mo (d - 1)) sv mo q) then moreC (rowR m0 mo (d - 1) qv) sv else rowTo (rowR m0 mo (d - 1)) sv mo q) else rowTo (rowR m0 mo (d - 1)) sv mo q by rw [hqv]; rfl)
                    obtain ⟨p1, p2, p3, p4⟩ := rowR_bd m0 mo (d - 1) qv ⟨hq0, hq1⟩
                    obtain ⟨av, hav⟩ : ∃ av : Int, av = max (qv - sv) (-(qv - sv)) := ⟨_, rfl⟩
                    have HAB := Lib.hid fun W : World => (show Calls Try.prog 70 #[.int .i64 (qv - sv)] W fun e w' => e = .returned (.int .i64 av) ∧ W = w' from hav ▸ abs_any (qv - sv) W ⟨by omega, by omega⟩)
                    have HMO := Lib.hid fun W : World => more_any (rowR m0 mo (d - 1) qv) sv W ⟨p1, by omega⟩ ⟨p3, by omega⟩ ⟨hsv0, hsv1⟩
                    have HFE := Lib.hid fun W : World => fewer_any (moreC (rowR m0 mo (d - 1) qv) sv) (rowTo (rowR m0 mo (d - 1)) sv mo q) W
                    have hnr : nearR qv sv mo = decide (av ≤ mo) := by rw [hav]; rfl
                    rw [hnr] at HSTEP
                    obtain ⟨nx, hnx⟩ : ∃ nx, nx = rowTo (rowR m0 mo (d - 1)) sv mo (q + 1) := ⟨_, rfl⟩
                    rw [← hnx] at HSTEP
                    have HNX := Lib.hid hnx
                    clear hbut hcq hnr hav hbc hbr p1 p2 p3 p4 hnx
                    have hcq := HCQ.out
                    generalize rowTo (rowR m0 mo (d - 1)) sv mo q = rq at *
                    generalize rowR m0 mo (d - 1) qv = fq at *
                    generalize moreC fq sv = mq at *
                    obtain ⟨r0, r1, r2, _, _, _⟩ := hrq
                    obtain ⟨c0, c1, c2, f0, f1, f2⟩ := hcq
                    obtain ⟨fc, fs, fk⟩ := fq
                    obtain ⟨mc, ms, mk⟩ := mq
                    obtain ⟨qc, qs, qk⟩ := rq
                    simp only [Nat.zero_add] at r0 r1 r2 c0 c1 c2 f0 f1 f2
                    have lr := cell_lt r0
                    have lc := cell_lt c0
                    have lg := cell_lt hgq
                    clear hqv
                    cases hn : decide (av ≤ mo)
                    · have HV := Lib.hid (show nx = (qc, qs, qk) by rw [HSTEP.out, hn]; rfl)
                      have hn' : ¬ av ≤ mo := by simpa using hn
                      clear hn
                      go_wp2_with fail
                      refine (HAB.out _).mono ?_
                      rintro e _ ⟨rfl, rfl⟩
                      go_wp2_with fail
                      go_roundw
                      case rel => exact ⟨q + 1, by omega, by rw [HQV.out]; go_num, HBQ.out, by rw [← HNX.out, HV.out]; exact HCQ.out⟩
                      case measure => simp [intOf]; omega
                    · have hn' : av ≤ mo := by simpa using hn
                      cases fk
                      · have HV := Lib.hid (show nx = (qc, qs, qk) by rw [HSTEP.out, hn]; rfl)
                        clear hn
                        go_wp2_with fail
                        refine (HAB.out _).mono ?_
                        rintro e _ ⟨rfl, rfl⟩
                        go_wp2_with fail
                        go_roundw
                        case rel => exact ⟨q + 1, by omega, by rw [HQV.out]; go_num, HBQ.out, by rw [← HNX.out, HV.out]; exact HCQ.out⟩
                        case measure => simp [intOf]; omega
                      · have HV := Lib.hid (show nx = if fewC (mc, ms, mk) (qc, qs, qk) then (mc, ms, mk) else (qc, qs, qk) by rw [HSTEP.out, hn]; rfl)
                        clear hn
                        go_wp2_with fail
                        refine (HAB.out _).mono ?_
                        rintro e _ ⟨rfl, rfl⟩
                        go_wp2_with fail
                        refine (HMO.out _).mono ?_
                        rintro e W6 ⟨rfl, x6⟩
                        replace f0 := x6.frozen c0 f0
                        replace f1 := x6.frozen c1 f1
                        replace f2 := x6.frozen c2 f2
                        replace c0 := x6.cell_some c0
                        replace c1 := x6.cell_some c1
                        replace c2 := x6.cell_some c2
                        replace lc := cell_lt c0
                        have HX6 := Lib.hid x6
                        clear x6 r0 r1 r2 lr hgq lg b0'
                        cases hf : fewC (mc, ms, mk) (qc, qs, qk)
                        · rw [hf] at HFE HV
                          clear hf
                          go_wp2_with fail
                          refine (HFE.out _).mono ?_
                          rintro e W7 ⟨rfl, x7⟩
                          have HX7 := Lib.hid (HX6.out.trans (((Ext.refl W6).alloc _).trans x7))
                          clear x7
                          go_wp2_with fail
                          go_roundw
                          case rel => exact ⟨q + 1, by omega, by rw [HQV.out]; go_num, HBQ.out.ext HX7.out, by rw [← HNX.out, HV.out]; exact HCQ.out.ext HX7.out⟩
                          case measure => simp [intOf]; omega
                        · rw [hf] at HFE HV
                          clear hf
                          go_wp2_with fail
                          refine (HFE.out _).mono ?_
                          rintro e W7 ⟨rfl, x7⟩
                          have k0 : W7.cell? ⟨W6.heap.size, 0, none⟩ = some (.int .i64 mc) := x7.cell_some (by go_cell)
                          have k1 : W7.cell? ⟨W6.heap.size, 1, none⟩ = some (.int .i64 ms) := x7.cell_some (by go_cell)
                          have k2 : W7.cell? ⟨W6.heap.size, 2, none⟩ = some (.bool mk) := x7.cell_some (by go_cell)
                          have X67 : Ext W6 W7 := ((Ext.refl W6).alloc _).trans x7
                          replace f0 := X67.frozen c0 f0
                          replace f1 := X67.frozen c1 f1
                          replace f2 := X67.frozen c2 f2
                          replace c0 := X67.cell_some c0
                          replace c1 := X67.cell_some c1
                          replace c2 := X67.cell_some c2
                          replace lc := cell_lt c0
                          have lk := cell_lt k0
                          have HX7 := Lib.hid (HX6.out.trans X67)
                          clear x7 X67
                          go_wp2_with fail
                          go_roundw
                          case rel =>
                            refine ⟨q + 1, by omega, by rw [HQV.out]; go_num, ((HBQ.out.ext HX7.out).setCell (p := ⟨b13, 0, none⟩) (by simp) _).setCell (p := ⟨b13, 1, none⟩) (by simp) _ |>.setCell (p := ⟨b13, 2, none⟩) (by simp) _, ?_⟩
                            rw [← HNX.out, HV.out]
                            exact (HCQ.out.ext HX7.out).put (mc, ms, mk)
                          case measure => simp [intOf]; omega
                  · obtain rfl : q = 41 := by omega
                    have HE := Lib.hid (show But [b13] W4 wr ∧ CostAt b13 0 (rowR m0 mo d sv) wr from ⟨hbut, by
                      rw [show d = (d - 1) + 1 by omega]
                      exact hcq⟩)
                    obtain rfl : qv = 21 := by omega
                    clear hbut hcq hqv
                    have hrw := ((HRW.out.ext HX4.out).but HE.out.1 (by simp; omega)) s hs41
                    have HPUT := Lib.hid ((((HRW.out.ext HX4.out).but HE.out.1 (by simp; omega)).put hs41 (rowR m0 mo d sv)).congr (f' := rowS m0 mo d (s + 1)) (fun r _ => by rw [HSV.out]; exact rowS_put))
                    have HBE := Lib.hid ((HBH.out.ext HX4.out).over HE.out.1 (show W3.heap.size ≤ b13 by omega))
                    obtain ⟨c0, c1, c2, _, _, _⟩ := HE.out.2
                    obtain ⟨r0, r1, r2, t0, t1, t2⟩ := hrw
                    generalize rowR m0 mo d sv = rc at *
                    obtain ⟨rc0, rc1, rc2⟩ := rc
                    simp only [Nat.zero_add] at c0 c1 c2
                    have lc := cell_lt c0
                    have lr := cell_lt r0
                    go_wp2_with fail
                    go_roundw
                    case rel => exact ⟨s + 1, by omega, by rw [HSV.out]; go_num, ((HBE.out.setCell (p := ⟨h, s * 3, none⟩) (by simp) _).setCell (p := ⟨h, s * 3 + 1, none⟩) (by simp) _).setCell (p := ⟨h, s * 3 + 2, none⟩) (by simp) _, HPUT.out⟩
                    case measure => simp [intOf]; omega
            · obtain rfl : s = 41 := by omega
              obtain rfl : sv = 21 := by omega
              have HXR := Lib.hid (HBH.out.below HX3.out (by simp [HH.out]))
              have hrt := HRR.out.ext HXR.out
              obtain ⟨⟨v0, cg⟩, fg⟩ := hrt.cells i (by omega)
              have HPT := Lib.hid (hrt.put (h' := h) (by omega) hhg hdl (HRW.out.congr fun r hr => by unfold rowS; rw [if_pos hr]))
              have hLd : L - d = i := by omega
              rw [hLd] at HPT
              have HBG := Lib.hid (HB3.out.over HBH.out (show W1.heap.size ≤ h by omega))
              have hiL1 : (i : Int) < (L : Int) + 1 := by omega
              have lg := cell_lt cg
              clear hrt hLd hsv b0 b0'
              go_wp2_with fail
              go_roundw
              case rel => exact ⟨d + 1, by omega, by have := HII.out; go_num, HBG.out.setCell (p := ⟨g, i, none⟩) (by simp) _, HPT.out⟩
              case measure => simp [intOf]
        · obtain rfl : d = L + 1 := by omega
          have hneg : ¬ (0 : Int) ≤ (L : Int) - ((L + 1 : Nat) : Int) := by omega
          have b1 := HBU.out.cell a1 (by simp <;> omega)
          have HXW := Lib.hid (HBU.out.below HX1.out (by simp <;> omega))
          have hgl : g < wr.heap.size := Nat.lt_of_lt_of_le (by omega) HBU.out.size
          clear HBU
          go_wp2_with fail
          obtain ⟨Wz, rfl⟩ : ∃ Wz : World, Wz = wr := ⟨_, rfl⟩
          clear b1
          go_loopw [16, 17, 18] (fun lav ov iv wr => ∃ (i : Nat) (la : Int) (xs : List Int), i ≤ L + 1 ∧ lav = .int .i64 la ∧ iv = .int .i64 (i : Int) ∧ hideR m0 mo L ml i = some (xs, la) ∧ (-20 ≤ la ∧ la ≤ 20) ∧ xs.length ≤ i ∧ intK.Own Wz.heap.size wr ov xs ∧ Ext Wz wr) (fun _ _ iv _ => L + 1 - (intOf iv).toNat)
          case atStart => exact ⟨0, ml, [], by omega, rfl, rfl, rfl, ⟨hm4, hm5⟩, by simp, EK.Own.nil _ _, Ext.refl _⟩
          case round =>
            obtain ⟨i, la, xs, hi, rfl, rfl, hto, ⟨hl0, hl1⟩, hxl, hown, hx⟩ := hrel
            have HTO := Lib.hid hto
            have HO := Lib.hid hown
            have HXZ := Lib.hid hx
            have HXL := Lib.hid hxl
            clear hto hown hx hxl
            by_cases hil : i < L + 1
            · have hlt8 : (i : Int) ≤ (L : Int) := by omega
              obtain ⟨hb, hbB, hbg, hbc, hbr⟩ := HRR.out.rows i (by omega) (by omega)
              have HBC := Lib.hid (HXZ.out.cell_some hbc)
              have HBR := Lib.hid (hbr.ext HXZ.out)
              clear hbc hbr
              go_wp2_with fail
              obtain ⟨wo, rfl⟩ : ∃ wo : World, wo = wr := ⟨_, rfl⟩
              go_loopw [19, 20] (fun pv sv wr => ∃ q : Nat, q ≤ 41 ∧ pv = .int .i64 (pickDn (rowR m0 mo (L - i)) la mo q) ∧ sv = .int .i64 (20 - (q : Int)) ∧ Ext wo wr) (fun _ sv _ => (intOf sv + 21).toNat)
              case atStart => exact ⟨0, by omega, rfl, by simp, Ext.refl _⟩
              case round =>
                obtain ⟨q, hq, rfl, rfl, hx⟩ := hrel
                have HX := Lib.hid hx
                obtain ⟨sv, hsv⟩ : ∃ sv : Int, sv = 20 - (q : Int) := ⟨_, rfl⟩
                rw [← hsv]
                by_cases hq41 : q < 41
                · have hs0 : -20 ≤ sv := by omega
                  have hs1 : sv ≤ 20 := by omega
                  obtain ⟨r, hr⟩ : ∃ r : Nat, sv + 20 = r := ⟨(sv + 20).toNat, by omega⟩
                  have hr41 : r < 41 := by omega
                  have hgc := hx.cell_some HBC.out
                  have hrq := (HBR.out r hr41).ext hx
                  dsimp only at hrq
                  rw [show -20 + (r : Int) = sv by omega] at hrq
                  have HSTEP := Lib.hid (show pickDn (rowR m0 mo (L - i)) la mo (q + 1) = if nearR sv la mo && (rowR m0 mo (L - i) sv).2.2 && (decide (pickDn (rowR m0 mo (L - i)) la mo q < -20) || !fewC (rowR m0 mo (L - i) (pickDn (rowR m0 mo (L - i)) la mo q)) (rowR m0 mo (L - i) sv)) then sv else pickDn (rowR m0 mo (L - i)) la mo q by rw [hsv]; rfl)
                  have hpb := pickDn_bd (rowR m0 mo (L - i)) la mo q (by omega)
                  obtain ⟨pn, hpn⟩ : ∃ pn, pn = pickDn (rowR m0 mo (L - i)) la mo (q + 1) := ⟨_, rfl⟩
                  rw [← hpn] at HSTEP
                  have HPN := Lib.hid hpn
                  obtain ⟨av, hav⟩ : ∃ av : Int, av = max (sv - la) (-(sv - la)) := ⟨_, rfl⟩
                  have HAB := Lib.hid fun W : World => (show Calls Try.prog 70 #[.int .i64 (sv - la)] W fun e w' => e = .returned (.int .i64 av) ∧ W = w' from hav ▸ abs_any (sv - la) W ⟨by omega, by omega⟩)
                  have hnr : nearR sv la mo = decide (av ≤ mo) := by rw [hav]; rfl
                  rw [hnr] at HSTEP
                  have HSV := Lib.hid hsv
                  have hrow2 : ∀ p : Int, -20 ≤ p → p ≤ 20 → ∃ t : Nat, p + 20 = t ∧ CostAt hb (t * 3) (rowR m0 mo (L - i) p) wr := fun p h1 h2 => by
                    refine ⟨(p + 20).toNat, by omega, ?_⟩
                    have := (HBR.out (p + 20).toNat (by omega)).ext HX.out
                    dsimp only at this
                    rwa [show -20 + ((p + 20).toNat : Int) = p by omega] at this
                  generalize pickDn (rowR m0 mo (L - i)) la mo q = pv at *
                  have HFE := Lib.hid fun W : World => fewer_any (rowR m0 mo (L - i) pv) (rowR m0 mo (L - i) sv) W
                  have HR2 := Lib.hid hrow2
                  clear hx hpn hav hnr hsv hrow2
                  generalize rowR m0 mo (L - i) sv = fq at *
                  obtain ⟨r0, r1, r2, _, _, _⟩ := hrq
                  obtain ⟨fc, fs, fk⟩ := fq
                  simp only at r0 r1 r2
                  have lr := cell_lt r0
                  have lg := cell_lt hgc
                  go_wp2_with fail
                  refine lay_wp (fun W => Ext wr W ∧ CostAt wr.heap.size 0 (fc, fs, fk) W) ⟨by (repeat' (first | with_reducible exact Ext.refl _ | with_reducible apply Ext.alloc | with_reducible apply Ext.drew | with_reducible apply Ext.drewN | with_reducible refine Ext.setCell ?_ ?_ _ | with_reducible apply Ext.step | with_reducible assumption | with_reducible exact Nat.le_refl _ | (simp; done) | (simp; omega))), ⟨by go_cell, by go_cell, by go_cell, by go_simp, by go_simp, by go_simp⟩⟩ ?_
                  rintro W4 ⟨x4, hc4⟩
                  have HX4 := Lib.hid (HX.out.trans x4)
                  obtain ⟨d0, d1, d2, _, _, _⟩ := hc4
                  simp only [Nat.zero_add] at d0 d1 d2
                  have ld := cell_lt d0
                  replace hgc := x4.cell_some hgc
                  replace lg := cell_lt hgc
                  have HXW4 := Lib.hid x4
                  clear x4 r0 r1 r2 lr
                  cases hn : decide (av ≤ mo)
                  · have HV := Lib.hid (show pn = pv by rw [HSTEP.out, hn]; rfl)
                    have hn' : ¬ av ≤ mo := by simpa using hn
                    clear hn
                    refine wp_region_bext (by kernel_rfl) (by kernel_rfl) ?_
                    repeat (any_goals (go_big_quiet_step ((go_at_call 70; with_reducible exact bext_same (HAB.out _)))))
                    all_goals refine wpQuiet_nil ?_
                    all_goals rintro _ ⟨δ, rfl⟩
                    have HX5 := Lib.hid (HX4.out.trans (show Ext W4 δ.wd from ⟨δ, rfl⟩))
                    generalize δ.wd = W5 at *
                    go_wp2_with fail
                    go_roundw
                    case rel => exact ⟨q + 1, by omega, by rw [← HPN.out, HV.out], by rw [HSV.out]; go_num, HX5.out⟩
                    case measure => simp [intOf]; omega
                  · have hn' : av ≤ mo := by simpa using hn
                    cases fk
                    · have HV := Lib.hid (show pn = pv by rw [HSTEP.out, hn]; rfl)
                      clear hn
                      refine wp_region_bext (by kernel_rfl) (by kernel_rfl) ?_
                      repeat (any_goals (go_big_quiet_step ((go_at_call 70; with_reducible exact bext_same (HAB.out _)))))
                      all_goals refine wpQuiet_nil ?_
                      all_goals rintro _ ⟨δ, rfl⟩
                      have HX5 := Lib.hid (HX4.out.trans (show Ext W4 δ.wd from ⟨δ, rfl⟩))
                      generalize δ.wd = W5 at *
                      go_wp2_with fail
                      go_roundw
                      case rel => exact ⟨q + 1, by omega, by rw [← HPN.out, HV.out], by rw [HSV.out]; go_num, HX5.out⟩
                      case measure => simp [intOf]; omega
                    · rcases hpb with hp | ⟨hp0, hp1⟩
                      · have HV := Lib.hid (show pn = sv by rw [HSTEP.out, hn, hp]; rfl)
                        subst hp
                        clear hn
                        refine wp_region_bext (by kernel_rfl) (by kernel_rfl) ?_
                        repeat (any_goals (go_big_quiet_step ((go_at_call 70; with_reducible exact bext_same (HAB.out _)))))
                        all_goals refine wpQuiet_nil ?_
                        all_goals rintro _ ⟨δ, rfl⟩
                        have HX5 := Lib.hid (HX4.out.trans (show Ext W4 δ.wd from ⟨δ, rfl⟩))
                        generalize δ.wd = W5 at *
                        go_wp2_with fail
                        go_roundw
                        case rel => exact ⟨q + 1, by omega, by rw [← HPN.out, HV.out], by rw [HSV.out]; go_num, HX5.out⟩
                        case measure => simp [intOf]; omega
                      · obtain ⟨t, ht, hct⟩ := HR2.out pv hp0 hp1
                        obtain ⟨e0, e1, e2, _, _, _⟩ := hct.ext HXW4.out
                        have ht41 : t < 41 := by omega
                        have hp0' : ¬ pv < -20 := by omega
                        have HSTEP2 := Lib.hid (show pn = if !fewC (rowR m0 mo (L - i) pv) (fc, fs, true) then sv else pv by rw [HSTEP.out, hn]; simp [hp0'])
                        generalize rowR m0 mo (L - i) pv = fp at *
                        obtain ⟨gc, gs, gk⟩ := fp
                        simp only at e0 e1 e2
                        have le := cell_lt e0
                        clear hn hct
                        cases hf : fewC (gc, gs, gk) (fc, fs, true)
                        · have HV := Lib.hid (show pn = sv by rw [HSTEP2.out, hf]; rfl)
                          simp only [hf] at HFE
                          clear hf
                          refine wp_region_bext (by kernel_rfl) (by kernel_rfl) ?_
                          repeat (any_goals (go_big_quiet_step ((first | (go_at_call 70; with_reducible exact bext_same (HAB.out _)) | (go_at_call 72; with_reducible exact bext_call (HFE.out _))))))
                          all_goals refine wpQuiet_nil ?_
                          all_goals rintro _ ⟨δ, rfl⟩
                          have HX5 := Lib.hid (HX4.out.trans (show Ext W4 δ.wd from ⟨δ, rfl⟩))
                          generalize δ.wd = W5 at *
                          go_wp2_with fail
                          go_roundw
                          case rel => exact ⟨q + 1, by omega, by rw [← HPN.out, HV.out], by rw [HSV.out]; go_num, HX5.out⟩
                          case measure => simp [intOf]; omega
                        · have HV := Lib.hid (show pn = pv by rw [HSTEP2.out, hf]; rfl)
                          simp only [hf] at HFE
                          clear hf
                          refine wp_region_bext (by kernel_rfl) (by kernel_rfl) ?_
                          repeat (any_goals (go_big_quiet_step ((first | (go_at_call 70; with_reducible exact bext_same (HAB.out _)) | (go_at_call 72; with_reducible exact bext_call (HFE.out _))))))
                          all_goals refine wpQuiet_nil ?_
                          all_goals rintro _ ⟨δ, rfl⟩
                          have HX5 := Lib.hid (HX4.out.trans (show Ext W4 δ.wd from ⟨δ, rfl⟩))
                          generalize δ.wd = W5 at *
                          go_wp2_with fail
                          go_roundw
                          case rel => exact ⟨q + 1, by omega, by rw [← HPN.out, HV.out], by rw [HSV.out]; go_num, HX5.out⟩
                          case measure => simp [intOf]; omega
                · obtain rfl : q = 41 := by omega
                  have HX10 := Lib.hid (HXZ.out.trans hx)
                  have HO10 := Lib.hid (HO.out.ext hx)
                  have HTN := Lib.hid (show hideR m0 mo L ml (i + 1) = if pickDn (rowR m0 mo (L - i)) la mo 41 < -20 then none else some (if i < L then xs ++ [pickDn (rowR m0 mo (L - i)) la mo 41] else xs, pickDn (rowR m0 mo (L - i)) la mo 41) by simp only [hideR, HTO.out, Option.bind_some])
                  have hpb := pickDn_bd (rowR m0 mo (L - i)) la mo 41 (by omega)
                  generalize pickDn (rowR m0 mo (L - i)) la mo 41 = pv at *
                  have hsz := HX10.out.bel.size
                  obtain rfl : sv = -21 := by omega
                  clear hx hsv
                  rcases hpb with hp | ⟨hp0, hp1⟩
                  · have HNO := Lib.hid (hideR_stop (show hideR m0 mo L ml (i + 1) = none by rw [HTN.out, hp]; rfl) (show i + 1 ≤ L + 1 by omega))
                    subst hp
                    go_wp2_with fail
                    go_ret2
                    exact ⟨_, 6, [], rfl, (OwnI.nil 0 _).isI, HXW.out.trans HX10.out, .inl ⟨HNO.out, rfl, rfl⟩⟩
                  · have hp2 : ¬ pv < -20 := by omega
                    by_cases hiL : i < L
                    · have HTY := Lib.hid (show hideR m0 mo L ml (i + 1) = some (xs ++ [pv], pv) by rw [HTN.out, if_neg hp2, if_pos hiL])
                      have HZL := Lib.hid (show xs.length ≤ 1000000000 by have := HXL.out; omega)
                      have hiL' : (i : Int) < (L : Int) := by omega
                      obtain ⟨Av, kv, cv, rfl⟩ := own_shape HO10.out
                      go_wp2_with (at_builtin; refine EK.app (K := intK) (B := Wz.heap.size) rfl (.tmp 181) (.tmp 183) rfl wr.heap.size 1 pv rfl rfl (fun i u hu => cell_new hu) (HO10.out.ext ((Ext.refl wr).alloc _)) (Nat.le_trans hsz ((Ext.refl wr).alloc _).bel.size) HZL.out ?_; intro v' w3 o3 b3 _; obtain ⟨Av3, kv3, cv3, rfl⟩ := own_shape o3; have HO3 := Lib.hid o3; have HB3 := Lib.hid b3; clear o3 b3)
                      go_roundw
                      case rel => exact ⟨i + 1, pv, xs ++ [pv], by omega, rfl, by go_num, HTY.out, ⟨hp0, hp1⟩, by have := HXL.out; simp; omega, HO3.out, (HX10.out.alloc _).below HB3.out (Nat.le_refl _)⟩
                      case measure => simp [intOf]; omega
                    · have HTY := Lib.hid (show hideR m0 mo L ml (i + 1) = some (xs, pv) by rw [HTN.out, if_neg hp2, if_neg hiL])
                      have hiL' : ¬ (i : Int) < (L : Int) := by omega
                      go_wp2_with fail
                      go_roundw
                      case rel => exact ⟨i + 1, pv, xs, by omega, rfl, by go_num, HTY.out, ⟨hp0, hp1⟩, by have := HXL.out; omega, HO10.out, HX10.out⟩
                      case measure => simp [intOf]; omega
            · obtain rfl : i = L + 1 := by omega
              have hout : ¬ ((L + 1 : Nat) : Int) ≤ (L : Int) := by omega
              go_wp2_with fail
              go_ret2
              exact ⟨_, 0, xs, rfl, (intK_own.1 HO.out).isI, HXW.out.trans HXZ.out, .inr ⟨la, HTO.out, rfl⟩⟩
end Go.Proofs.Ytgeapenglcohfaa
