/- LightHigher: the law's walk. Condition: the heights read as a list. -/
import Derived.Test.YtlljhimaopnbfaaLAliv
import Derived.Test.YtlljhimaopnbfaaLDarkP
import Derived.Test.YtlljhimaopnbfaaLLawF
namespace Go.Proofs.Ytlljhimaopnbfaa
open Go.RowKit

theorem ext_ofH {w : World} (δ : BExt w) : Ext w δ.wd := ⟨δ, rfl⟩
theorem shadE_ok {W H P : Int} {hs : List Int} {lx ly lz : Int} (h : shadE W H P hs lx ly lz = 0) : surfB W H P hs = true ∧ lightB lx ly lz = true := by
  unfold shadE at h
  split at h
  · rename_i h1
    split at h
    · rename_i h2
      exact ⟨h1, h2⟩
    · cases h
  · cases h
theorem shadowsL_ok {n m : Nat} {P : Int} {hs : List Int} {lx ly lz : Int} (h1 : surfB ((n : Int) + 1) ((m : Int) + 1) P hs = true) (h2 : lightB lx ly lz = true) : shadowsL ((n : Int) + 1) ((m : Int) + 1) P hs lx ly lz = darksL n m P hs lx ly lz := by
  unfold shadowsL
  rw [h1, h2, nOf_add, nOf_add]
  rfl
theorem darksL_len (n m : Nat) (P : Int) (hs : List Int) (lx ly lz : Int) : (darksL n m P hs lx ly lz).length = m * n := by unfold darksL; simp
theorem darksL_at {n m : Nat} {P : Int} {hs : List Int} {lx ly lz : Int} {j : Nat} (h : j < (darksL n m P hs lx ly lz).length) : (darksL n m P hs lx ly lz)[j] = darkB n m P hs lx ly lz (cx n j) (cy n j) := by simp [darksL]
/-- The greatest of the first j middles. -/
def mostTo (n : Nat) (hs : List Int) : Nat → Int
  | 0 => -1000
  | j + 1 => max (mostTo n hs j) (midC n hs (cx n j) (cy n j))
theorem mostTo_ge (n : Nat) (hs : List Int) : ∀ {j i : Nat}, i < j → midC n hs (cx n i) (cy n i) ≤ mostTo n hs j
  | j + 1, i, h => by
    unfold mostTo
    rcases (by omega : i < j ∨ i = j) with h1 | rfl
    · have := mostTo_ge n hs h1
      omega
    · omega

set_option maxRecDepth 100000 in
set_option maxHeartbeats 8000000 in
theorem lawHigher_any (W H P : Int) (hv : Value) (hs : List Int) (lx ly lz more : Int) (w : World) (hI : intK.Is w hv hs) :
    Calls Try.prog 11 #[surfV W H P hv, lightV lx ly lz, .int .i64 more] w fun e w' => e = .returned (.bool true) ∧ Ext w w' := by
  have HAL := Lib.hid fun W : World => light_alive W
  have HII := Lib.hid fun (W : World) (x : Ext w W) => hI.ext x
  have HGR := Lib.hid fun (W1 : World) (x : Ext w W1) => great_any W H P hv hs W1 (hI.ext x)
  have HS1 := Lib.hid fun (W1 : World) (x : Ext w W1) => shadows_any W H P hv hs lx ly lz W1 (hI.ext x)
  have HS2 := Lib.hid fun (W1 : World) (x : Ext w W1) => shadows_any W H P hv hs lx ly (lz + more) W1 (hI.ext x)
  obtain ⟨A, L, c, rfl, hL, _⟩ := hI.open_
  have X0 := Lib.hid (show Ext w ((w.alloc (.cells #[.int .i64 W, .int .i64 H, .int .i64 P, .slice A L c] 37)).alloc (.cells #[.int .i64 lx, .int .i64 ly, .int .i64 lz] 25)) from by (repeat' (first | with_reducible exact Ext.refl _ | with_reducible apply Ext.alloc | with_reducible apply Ext.drew | with_reducible apply Ext.drewN | with_reducible refine Ext.setCell ?_ ?_ _ | with_reducible apply Ext.step | with_reducible assumption | with_reducible exact Nat.le_refl _ | (simp; done) | (simp; omega))))
  clear hI hL
  go_enter Try.func11, Try.ntmps11
  go_wp2_with fail
  refine (HAL.out _).mono ?_
  rintro e w1 ⟨rfl, x1⟩
  have HX1 := Lib.hid (X0.out.trans x1)
  have a0 : w1.cell? ⟨w.heap.size, 0, none⟩ = some (.int .i64 W) := x1.cell_some (by go_cell)
  have a1 : w1.cell? ⟨w.heap.size, 1, none⟩ = some (.int .i64 H) := x1.cell_some (by go_cell)
  have a2 : w1.cell? ⟨w.heap.size, 2, none⟩ = some (.int .i64 P) := x1.cell_some (by go_cell)
  have a3 : w1.cell? ⟨w.heap.size, 3, none⟩ = some (.slice A L c) := x1.cell_some (by go_cell)
  have b0 : w1.cell? ⟨w.heap.size + 1, 0, none⟩ = some (.int .i64 lx) := x1.cell_some (by go_cell)
  have b1 : w1.cell? ⟨w.heap.size + 1, 1, none⟩ = some (.int .i64 ly) := x1.cell_some (by go_cell)
  have b2 : w1.cell? ⟨w.heap.size + 1, 2, none⟩ = some (.int .i64 lz) := x1.cell_some (by go_cell)
  have la := cell_lt a0
  have lb := cell_lt b0
  clear x1
  go_wp2_with fail
  refine (HGR.out _ HX1.out).mono ?_
  rintro e w2 ⟨rfl, x2⟩
  have HX2 := Lib.hid (HX1.out.trans x2)
  replace a0 := x2.cell_some a0
  replace a1 := x2.cell_some a1
  replace a2 := x2.cell_some a2
  replace a3 := x2.cell_some a3
  replace b0 := x2.cell_some b0
  replace b1 := x2.cell_some b1
  replace b2 := x2.cell_some b2
  replace la := cell_lt a0
  replace lb := cell_lt b0
  clear x2
  by_cases hg : 700 < hs.length
  · have g1 : decide (700 < hs.length) = true := by simpa using hg
    clear hg
    go_wp2_with fail
    go_ret
    exact ⟨rfl, HX2.out⟩
  have g1 : decide (700 < hs.length) = false := by simpa using hg
  by_cases hm1 : more < 0
  · have g2 : decide (more < 0) = true := by simpa using hm1
    clear hg
    go_wp2_with fail
    go_ret
    exact ⟨rfl, HX2.out⟩
  have g2 : decide (more < 0) = false := by simpa using hm1
  by_cases hm2 : 30 < more
  · have g3 : decide (30 < more) = true := by simpa using hm2
    clear hg
    go_wp2_with fail
    go_ret
    exact ⟨rfl, HX2.out⟩
  have g3 : decide (30 < more) = false := by simpa using hm2
  clear hg
  go_wp2_with fail
  refine (HS1.out _ HX2.out).mono ?_
  rintro e w3 ⟨av, rfl, oa, x3⟩
  obtain ⟨Aa, ka, ca, rfl⟩ := oa.shape
  have HX3 := Lib.hid (HX2.out.trans x3)
  have HA3 := Lib.hid oa.is
  replace a0 := x3.cell_some a0
  replace a1 := x3.cell_some a1
  replace a2 := x3.cell_some a2
  replace a3 := x3.cell_some a3
  replace b0 := x3.cell_some b0
  replace b1 := x3.cell_some b1
  replace b2 := x3.cell_some b2
  replace la := cell_lt a0
  replace lb := cell_lt b0
  clear x3 oa
  by_cases he : shadE W H P hs lx ly lz = 0
  case neg =>
    have f1 : (shadE W H P hs lx ly lz != 0) = true := by simpa using he
    generalize shadE W H P hs lx ly lz = er at *
    clear he
    go_wp2_with fail
    go_ret
    exact ⟨rfl, HX3.out⟩
  obtain ⟨hsb, hlb⟩ := shadE_ok he
  obtain ⟨⟨l1, l2⟩, ⟨l3, l4⟩, l5, l6⟩ := lightB_iff.1 hlb
  obtain ⟨n, m, rfl, rfl, hn1, hn2, hm3, hm4⟩ := surf_nm hsb
  rw [he]
  rw [shadowsL_ok hsb hlb] at HA3
  have HSB := Lib.hid hsb
  have HFL := Lib.hid fun (h : shadE ((n : Int) + 1) ((m : Int) + 1) P hs lx ly (lz + more) = 0) => shadowsL_ok hsb (shadE_ok h).2
  have hP1 : 1 ≤ P := (surfB_iff.1 hsb).2.2.1.1
  have HHI := Lib.hid fun (x y : Nat) (h : darkB n m P hs lx ly (lz + more) x y = true) => dark_higher (d := more) (by omega) (by omega) h
  have HLO := Lib.hid fun (x y : Nat) (h : darkB n m P hs lx ly lz x y = true) => dark_lower (by omega) (by omega) h
  have HPL := Lib.hid fun (x y : Nat) (h : darkB n m P hs lx ly lz x y = true) => (show ¬ (lx = 0 ∧ ly = 0) from fun ⟨h1, h2⟩ => by
    subst h1 h2
    rw [dark_plumb] at h
    cases h)
  have hka : ka = m * n := by
    obtain ⟨_, _, he, _⟩ := HA3.out
    cases he
    exact darksL_len n m P hs lx ly lz
  have hmn := Nat.mul_le_mul hm4 hn2
  have hlw : IntKind.i64.wrap (lz + more) = lz + more := IntWalk.i64_in _ (by omega)
  have hwn : IntKind.i64.wrap (n : Int) = (n : Int) := IntWalk.i64_in _ (by omega)
  have hwm : IntKind.i64.wrap (m : Int) = (m : Int) := IntWalk.i64_in _ (by omega)
  have hwn' : IntKind.i64.wrap ((n : Int) + 1 - 1) = (n : Int) := IntWalk.i64_in _ (by omega) |>.trans (by omega)
  have hwm' : IntKind.i64.wrap ((m : Int) + 1 - 1) = (m : Int) := IntWalk.i64_in _ (by omega) |>.trans (by omega)
  have hwk : IntKind.i64.wrap ((n : Int) * (m : Int)) = (ka : Int) := by
    rw [hka, Int.natCast_mul, Int.mul_comm (m : Int)]
    exact IntWalk.i64_in _ (by rw [← Int.natCast_mul, Nat.mul_comm]; omega)
  have hkab : ka ≤ 529 := by rw [hka]; exact hmn
  have HKA := Lib.hid hka
  clear he hsb hlb hka
  have hn0 : ¬ (n : Int) = 0 := by omega
  go_wp2_with fail
  refine (HS2.out _ (HX3.out.alloc _)).mono ?_
  rintro e w4 ⟨bv, rfl, ob, x4'⟩
  have x4 : Ext w3 w4 := Ext.trans ((Ext.refl _).alloc _) x4'
  have HX34 := Lib.hid x4
  have HX4 := Lib.hid (HX3.out.trans x4)
  replace a0 := x4.cell_some a0
  replace a1 := x4.cell_some a1
  replace a2 := x4.cell_some a2
  replace a3 := x4.cell_some a3
  replace b0 := x4.cell_some b0
  replace b1 := x4.cell_some b1
  replace la := cell_lt a0
  replace lb := cell_lt b0
  clear x4 x4' b2
  by_cases he2 : shadE ((n : Int) + 1) ((m : Int) + 1) P hs lx ly (lz + more) = 0
  · skip
    obtain ⟨Ab, kb, cb, rfl⟩ := ob.shape
    have HB4 := Lib.hid ob.is
    rw [HFL.out he2] at HB4
    have hkb : kb = ka := by
      obtain ⟨_, _, he, _⟩ := HB4.out
      cases he
      rw [HKA.out]
      exact darksL_len n m P hs lx ly (lz + more)
    subst hkb
    rw [he2]
    have z1 : ((kb : Int) != (kb : Int)) = false := by simp
    obtain ⟨ka, rfl⟩ : ∃ ka, ka = kb := ⟨kb, rfl⟩
    clear ob he2 HFL HS2 hlw
    go_wp2_with fail
    go_loopw [78, 13] (fun iv mv wr => ∃ j : Nat, j ≤ ka ∧ iv = .int .i64 (j : Int) ∧ mv = .int .i64 (mostTo n hs j) ∧ Ext w4 wr) (fun iv _ _ => ka - (intOf iv).toNat)
    case atStart => exact ⟨0, by omega, rfl, rfl, Ext.refl _⟩
    case round =>
      obtain ⟨j, hj, rfl, rfl, hx⟩ := hrel
      have HX := Lib.hid hx
      obtain ⟨wo, rfl⟩ : ∃ wo, wo = wr := ⟨wr, rfl⟩
      replace a0 := hx.cell_some a0
      replace a1 := hx.cell_some a1
      replace a2 := hx.cell_some a2
      replace a3 := hx.cell_some a3
      replace b0 := hx.cell_some b0
      replace b1 := hx.cell_some b1
      replace la := cell_lt a0
      replace lb := cell_lt b0
      clear hx
      by_cases hlt : j < ka
      · have hji : (j : Int) < (ka : Int) := by omega
        obtain ⟨xj, hxj⟩ : ∃ xj, xj = cx n j := ⟨_, rfl⟩
        obtain ⟨yj, hyj⟩ : ∃ yj, yj = cy n j := ⟨_, rfl⟩
        have hx1 : xj < n := by rw [hxj]; exact cx_lt hn1
        have hy1 : yj < m := by rw [hyj]; exact cy_lt (by rw [← HKA.out]; exact hlt)
        have r1 : (j : Int).tmod (n : Int) = (xj : Int) := by rw [hxj]; rfl
        have r2 : (j : Int) % (n : Int) = (xj : Int) := by rw [hxj]; rfl
        have r3 : (j : Int).tdiv (n : Int) = (yj : Int) := by rw [hyj]; rfl
        have r4 : (j : Int) / (n : Int) = (yj : Int) := by rw [hyj]; rfl
        have hwy : IntKind.i64.wrap (yj : Int) = (yj : Int) := IntWalk.i64_in _ (by omega)
        have HMI := Lib.hid fun (W : World) (x : Ext w W) => refMiddle_any n m P (.slice A L c) hs xj yj W ⟨HII.out W x, HSB.out⟩ hx1 hy1
        have HMS := Lib.hid (show mostTo n hs (j + 1) = max (mostTo n hs j) (midC n hs xj yj) by rw [hxj, hyj]; rfl)
        clear hxj hyj hx1 hy1
        generalize midC n hs xj yj = mid at *
        generalize mostTo n hs j = mo at *
        go_wp2_with fail
        refine wp_region_bext (by kernel_rfl) (by kernel_rfl) ?_
        repeat (any_goals (go_big_quiet_step (fail)))
        all_goals refine wpQuiet_nil ?_
        all_goals rintro _ ⟨δ, rfl⟩
        have HXa := Lib.hid (HX.out.trans (show Ext wo δ.wd from ⟨δ, rfl⟩))
        replace a0 := Ext.cell_some (W' := δ.wd) ⟨δ, rfl⟩ a0
        replace a1 := Ext.cell_some (W' := δ.wd) ⟨δ, rfl⟩ a1
        replace a2 := Ext.cell_some (W' := δ.wd) ⟨δ, rfl⟩ a2
        replace a3 := Ext.cell_some (W' := δ.wd) ⟨δ, rfl⟩ a3
        replace la := cell_lt a0
        generalize δ.wd = W5 at *
        clear b0 b1 lb
        go_wp2_with fail
        refine (HMI.out _ (HX4.out.trans HXa.out)).mono ?_
        rintro e w5 ⟨rfl, x5⟩
        have HX5 := Lib.hid (HXa.out.trans x5)
        clear x5 a0 a1 a2 a3 la
        go_wp2_with fail
        go_roundw
        case rel => exact ⟨j + 1, by omega, by go_num, by rw [HMS.out], HX5.out⟩
        case measure => simp [intOf]; omega
      · obtain rfl : j = ka := by omega
        have HMG := Lib.hid fun (i : Nat) (h : i < j) => mostTo_ge n hs h
        generalize mostTo n hs j = mo at *
        go_wp2_with fail
        go_loopw [100] (fun iv wr => ∃ i : Nat, i ≤ j ∧ iv = .int .i64 (i : Int) ∧ Ext wo wr) (fun iv _ => j - (intOf iv).toNat)
        case atStart => exact ⟨0, by omega, rfl, Ext.refl _⟩
        case round =>
          obtain ⟨i, hi, rfl, hx⟩ := hrel
          have HXI := Lib.hid hx
          replace a0 := hx.cell_some a0
          replace a1 := hx.cell_some a1
          replace a2 := hx.cell_some a2
          replace a3 := hx.cell_some a3
          replace b0 := hx.cell_some b0
          replace b1 := hx.cell_some b1
          replace la := cell_lt a0
          replace lb := cell_lt b0
          by_cases hlt2 : i < j
          · have hii : (i : Int) < (j : Int) := by omega
            have hlen : (darksL n m P hs lx ly lz).length = j := by rw [darksL_len, HKA.out]
            obtain ⟨A', c', he, _, _, hrow⟩ := HA3.out
            simp only [Value.slice.injEq] at he
            obtain ⟨rfl, -, -⟩ := he
            obtain ⟨ba, oa, rfl, -, ac⟩ := bools_at hrow i (by rw [hlen]; exact hlt2)
            rw [darksL_at] at ac
            replace ac := (HX34.out.trans (HX.out.trans hx)).cell_some ac
            have lac := cell_lt ac
            have hlenb : (darksL n m P hs lx ly (lz + more)).length = j := by rw [darksL_len, HKA.out]
            obtain ⟨B', d', he', _, _, hrow'⟩ := HB4.out
            simp only [Value.slice.injEq] at he'
            obtain ⟨rfl, -, -⟩ := he'
            obtain ⟨bb, ob, rfl, -, bc⟩ := bools_at hrow' i (by rw [hlenb]; exact hlt2)
            rw [darksL_at] at bc
            replace bc := (HX.out.trans hx).cell_some bc
            have lbc := cell_lt bc
            obtain ⟨xj, hxj⟩ : ∃ xj, xj = cx n i := ⟨_, rfl⟩
            obtain ⟨yj, hyj⟩ : ∃ yj, yj = cy n i := ⟨_, rfl⟩
            have hx1 : xj < n := by rw [hxj]; exact cx_lt hn1
            have hy1 : yj < m := by rw [hyj]; exact cy_lt (by rw [← HKA.out]; exact hlt2)
            have r1 : (i : Int).tmod (n : Int) = (xj : Int) := by rw [hxj]; rfl
            have r2 : (i : Int) % (n : Int) = (xj : Int) := by rw [hxj]; rfl
            have r3 : (i : Int).tdiv (n : Int) = (yj : Int) := by rw [hyj]; rfl
            have r4 : (i : Int) / (n : Int) = (yj : Int) := by rw [hyj]; rfl
            have hwy : IntKind.i64.wrap (yj : Int) = (yj : Int) := IntWalk.i64_in _ (by omega)
            rw [← hxj, ← hyj] at ac bc
            have HMI := Lib.hid fun (W : World) (x : Ext w W) => refMiddle_any n m P (.slice A L c) hs xj yj W ⟨HII.out W x, HSB.out⟩ hx1 hy1
            have hmw := HX4.out.trans (HX.out.trans hx)
            have HMW := Lib.hid hmw
            cases hd : darkB n m P hs lx ly lz xj yj
            · rw [hd] at ac
              have hb : darkB n m P hs lx ly (lz + more) xj yj = false := by
                cases h : darkB n m P hs lx ly (lz + more) xj yj with
                | false => rfl
                | true =>
                  rw [HHI.out xj yj h] at hd
                  cases hd
              rw [hb] at bc
              clear hb
              clear hd hx hrow hlen hxj hyj hmw
              go_wp2_with fail
              refine wp_region_bext (by kernel_rfl) (by kernel_rfl) ?_
              repeat (any_goals (go_big_quiet_step (fail)))
              all_goals refine wpQuiet_nil ?_
              all_goals rintro _ ⟨δ, rfl⟩
              have HX6 := Lib.hid (HXI.out.trans (show Ext wr δ.wd from ⟨δ, rfl⟩))
              generalize δ.wd = W6 at *
              go_wp2_with fail
              go_roundw
              case rel => exact ⟨i + 1, by omega, by go_num, HX6.out⟩
              case measure => simp [intOf]; omega
            · rw [hd] at ac
              have hpl := HPL.out xj yj hd
              have hne : (midC n hs xj yj == mo) = false := by
                rw [beq_eq_false_iff_ne]
                obtain ⟨X, Y, h1, h2, h3⟩ := HLO.out xj yj hd
                have h4 := HMG.out (Y * n + X) (by rw [HKA.out]; have := Nat.mul_le_mul_right n (show Y + 1 ≤ m by omega); rw [Nat.add_mul] at this; omega)
                rw [cx_at h1, cy_at h1] at h4
                omega
              clear hd hx hrow hlen hxj hyj hmw
              generalize midC n hs xj yj = mid at *
              generalize darkB n m P hs lx ly (lz + more) xj yj = bj at *
              cases bj
              · skip
                by_cases hlx : lx = 0
                · have e1 : (lx == 0) = true := by simpa using hlx
                  have e2 : (ly == 0) = false := by
                    rw [beq_eq_false_iff_ne]
                    exact fun h => hpl ⟨hlx, h⟩
                  clear hpl hlx
                  go_wp2_with fail
                  refine wp_region_bext (by kernel_rfl) (by kernel_rfl) ?_
                  repeat (any_goals (go_big_quiet_step ((go_at_call 56; with_reducible exact bext_call (HMI.out _ (HMW.out.trans (ext_ofH _)))))))
                  all_goals refine wpQuiet_nil ?_
                  all_goals rintro _ ⟨δ, rfl⟩
                  have HX6 := Lib.hid (HXI.out.trans (show Ext wr δ.wd from ⟨δ, rfl⟩))
                  generalize δ.wd = W6 at *
                  go_wp2_with fail
                  go_roundw
                  case rel => exact ⟨i + 1, by omega, by go_num, HX6.out⟩
                  case measure => simp [intOf]; omega
                · have e1 : (lx == 0) = false := by simpa using hlx
                  clear hpl hlx
                  go_wp2_with fail
                  refine wp_region_bext (by kernel_rfl) (by kernel_rfl) ?_
                  repeat (any_goals (go_big_quiet_step ((go_at_call 56; with_reducible exact bext_call (HMI.out _ (HMW.out.trans (ext_ofH _)))))))
                  all_goals refine wpQuiet_nil ?_
                  all_goals rintro _ ⟨δ, rfl⟩
                  have HX6 := Lib.hid (HXI.out.trans (show Ext wr δ.wd from ⟨δ, rfl⟩))
                  generalize δ.wd = W6 at *
                  go_wp2_with fail
                  go_roundw
                  case rel => exact ⟨i + 1, by omega, by go_num, HX6.out⟩
                  case measure => simp [intOf]; omega
              · skip
                by_cases hlx : lx = 0
                · have e1 : (lx == 0) = true := by simpa using hlx
                  have e2 : (ly == 0) = false := by
                    rw [beq_eq_false_iff_ne]
                    exact fun h => hpl ⟨hlx, h⟩
                  clear hpl hlx
                  go_wp2_with fail
                  refine wp_region_bext (by kernel_rfl) (by kernel_rfl) ?_
                  repeat (any_goals (go_big_quiet_step ((go_at_call 56; with_reducible exact bext_call (HMI.out _ (HMW.out.trans (ext_ofH _)))))))
                  all_goals refine wpQuiet_nil ?_
                  all_goals rintro _ ⟨δ, rfl⟩
                  have HX6 := Lib.hid (HXI.out.trans (show Ext wr δ.wd from ⟨δ, rfl⟩))
                  generalize δ.wd = W6 at *
                  go_wp2_with fail
                  go_roundw
                  case rel => exact ⟨i + 1, by omega, by go_num, HX6.out⟩
                  case measure => simp [intOf]; omega
                · have e1 : (lx == 0) = false := by simpa using hlx
                  clear hpl hlx
                  go_wp2_with fail
                  refine wp_region_bext (by kernel_rfl) (by kernel_rfl) ?_
                  repeat (any_goals (go_big_quiet_step ((go_at_call 56; with_reducible exact bext_call (HMI.out _ (HMW.out.trans (ext_ofH _)))))))
                  all_goals refine wpQuiet_nil ?_
                  all_goals rintro _ ⟨δ, rfl⟩
                  have HX6 := Lib.hid (HXI.out.trans (show Ext wr δ.wd from ⟨δ, rfl⟩))
                  generalize δ.wd = W6 at *
                  go_wp2_with fail
                  go_roundw
                  case rel => exact ⟨i + 1, by omega, by go_num, HX6.out⟩
                  case measure => simp [intOf]; omega
          · obtain rfl : i = j := by omega
            clear hx
            go_wp2_with fail
            go_ret
            exact ⟨rfl, HX4.out.trans (HX.out.trans HXI.out)⟩
  · skip
    have f1 : (shadE ((n : Int) + 1) ((m : Int) + 1) P hs lx ly (lz + more) == 0) = false := by simpa using he2
    obtain ⟨Ab, kb, cb, rfl⟩ := ob.shape
    generalize shadE ((n : Int) + 1) ((m : Int) + 1) P hs lx ly (lz + more) = er at *
    have z1 : ((ka : Int) != (ka : Int)) = false := by simp
    clear ob he2 HFL HS2 hlw
    go_wp2_with fail
    go_loopw [78, 13] (fun iv mv wr => ∃ j : Nat, j ≤ ka ∧ iv = .int .i64 (j : Int) ∧ mv = .int .i64 (mostTo n hs j) ∧ Ext w4 wr) (fun iv _ _ => ka - (intOf iv).toNat)
    case atStart => exact ⟨0, by omega, rfl, rfl, Ext.refl _⟩
    case round =>
      obtain ⟨j, hj, rfl, rfl, hx⟩ := hrel
      have HX := Lib.hid hx
      obtain ⟨wo, rfl⟩ : ∃ wo, wo = wr := ⟨wr, rfl⟩
      replace a0 := hx.cell_some a0
      replace a1 := hx.cell_some a1
      replace a2 := hx.cell_some a2
      replace a3 := hx.cell_some a3
      replace b0 := hx.cell_some b0
      replace b1 := hx.cell_some b1
      replace la := cell_lt a0
      replace lb := cell_lt b0
      clear hx
      by_cases hlt : j < ka
      · have hji : (j : Int) < (ka : Int) := by omega
        obtain ⟨xj, hxj⟩ : ∃ xj, xj = cx n j := ⟨_, rfl⟩
        obtain ⟨yj, hyj⟩ : ∃ yj, yj = cy n j := ⟨_, rfl⟩
        have hx1 : xj < n := by rw [hxj]; exact cx_lt hn1
        have hy1 : yj < m := by rw [hyj]; exact cy_lt (by rw [← HKA.out]; exact hlt)
        have r1 : (j : Int).tmod (n : Int) = (xj : Int) := by rw [hxj]; rfl
        have r2 : (j : Int) % (n : Int) = (xj : Int) := by rw [hxj]; rfl
        have r3 : (j : Int).tdiv (n : Int) = (yj : Int) := by rw [hyj]; rfl
        have r4 : (j : Int) / (n : Int) = (yj : Int) := by rw [hyj]; rfl
        have hwy : IntKind.i64.wrap (yj : Int) = (yj : Int) := IntWalk.i64_in _ (by omega)
        have HMI := Lib.hid fun (W : World) (x : Ext w W) => refMiddle_any n m P (.slice A L c) hs xj yj W ⟨HII.out W x, HSB.out⟩ hx1 hy1
        have HMS := Lib.hid (show mostTo n hs (j + 1) = max (mostTo n hs j) (midC n hs xj yj) by rw [hxj, hyj]; rfl)
        clear hxj hyj hx1 hy1
        generalize midC n hs xj yj = mid at *
        generalize mostTo n hs j = mo at *
        go_wp2_with fail
        refine wp_region_bext (by kernel_rfl) (by kernel_rfl) ?_
        repeat (any_goals (go_big_quiet_step (fail)))
        all_goals refine wpQuiet_nil ?_
        all_goals rintro _ ⟨δ, rfl⟩
        have HXa := Lib.hid (HX.out.trans (show Ext wo δ.wd from ⟨δ, rfl⟩))
        replace a0 := Ext.cell_some (W' := δ.wd) ⟨δ, rfl⟩ a0
        replace a1 := Ext.cell_some (W' := δ.wd) ⟨δ, rfl⟩ a1
        replace a2 := Ext.cell_some (W' := δ.wd) ⟨δ, rfl⟩ a2
        replace a3 := Ext.cell_some (W' := δ.wd) ⟨δ, rfl⟩ a3
        replace la := cell_lt a0
        generalize δ.wd = W5 at *
        clear b0 b1 lb
        go_wp2_with fail
        refine (HMI.out _ (HX4.out.trans HXa.out)).mono ?_
        rintro e w5 ⟨rfl, x5⟩
        have HX5 := Lib.hid (HXa.out.trans x5)
        clear x5 a0 a1 a2 a3 la
        go_wp2_with fail
        go_roundw
        case rel => exact ⟨j + 1, by omega, by go_num, by rw [HMS.out], HX5.out⟩
        case measure => simp [intOf]; omega
      · obtain rfl : j = ka := by omega
        have HMG := Lib.hid fun (i : Nat) (h : i < j) => mostTo_ge n hs h
        generalize mostTo n hs j = mo at *
        go_wp2_with fail
        go_loopw [100] (fun iv wr => ∃ i : Nat, i ≤ j ∧ iv = .int .i64 (i : Int) ∧ Ext wo wr) (fun iv _ => j - (intOf iv).toNat)
        case atStart => exact ⟨0, by omega, rfl, Ext.refl _⟩
        case round =>
          obtain ⟨i, hi, rfl, hx⟩ := hrel
          have HXI := Lib.hid hx
          replace a0 := hx.cell_some a0
          replace a1 := hx.cell_some a1
          replace a2 := hx.cell_some a2
          replace a3 := hx.cell_some a3
          replace b0 := hx.cell_some b0
          replace b1 := hx.cell_some b1
          replace la := cell_lt a0
          replace lb := cell_lt b0
          by_cases hlt2 : i < j
          · have hii : (i : Int) < (j : Int) := by omega
            have hlen : (darksL n m P hs lx ly lz).length = j := by rw [darksL_len, HKA.out]
            obtain ⟨A', c', he, _, _, hrow⟩ := HA3.out
            simp only [Value.slice.injEq] at he
            obtain ⟨rfl, -, -⟩ := he
            obtain ⟨ba, oa, rfl, -, ac⟩ := bools_at hrow i (by rw [hlen]; exact hlt2)
            rw [darksL_at] at ac
            replace ac := (HX34.out.trans (HX.out.trans hx)).cell_some ac
            have lac := cell_lt ac
            obtain ⟨xj, hxj⟩ : ∃ xj, xj = cx n i := ⟨_, rfl⟩
            obtain ⟨yj, hyj⟩ : ∃ yj, yj = cy n i := ⟨_, rfl⟩
            have hx1 : xj < n := by rw [hxj]; exact cx_lt hn1
            have hy1 : yj < m := by rw [hyj]; exact cy_lt (by rw [← HKA.out]; exact hlt2)
            have r1 : (i : Int).tmod (n : Int) = (xj : Int) := by rw [hxj]; rfl
            have r2 : (i : Int) % (n : Int) = (xj : Int) := by rw [hxj]; rfl
            have r3 : (i : Int).tdiv (n : Int) = (yj : Int) := by rw [hyj]; rfl
            have r4 : (i : Int) / (n : Int) = (yj : Int) := by rw [hyj]; rfl
            have hwy : IntKind.i64.wrap (yj : Int) = (yj : Int) := IntWalk.i64_in _ (by omega)
            rw [← hxj, ← hyj] at ac
            have HMI := Lib.hid fun (W : World) (x : Ext w W) => refMiddle_any n m P (.slice A L c) hs xj yj W ⟨HII.out W x, HSB.out⟩ hx1 hy1
            have hmw := HX4.out.trans (HX.out.trans hx)
            have HMW := Lib.hid hmw
            cases hd : darkB n m P hs lx ly lz xj yj
            · rw [hd] at ac
              clear hd hx hrow hlen hxj hyj hmw
              go_wp2_with fail
              refine wp_region_bext (by kernel_rfl) (by kernel_rfl) ?_
              repeat (any_goals (go_big_quiet_step (fail)))
              all_goals refine wpQuiet_nil ?_
              all_goals rintro _ ⟨δ, rfl⟩
              have HX6 := Lib.hid (HXI.out.trans (show Ext wr δ.wd from ⟨δ, rfl⟩))
              generalize δ.wd = W6 at *
              go_wp2_with fail
              go_roundw
              case rel => exact ⟨i + 1, by omega, by go_num, HX6.out⟩
              case measure => simp [intOf]; omega
            · rw [hd] at ac
              have hpl := HPL.out xj yj hd
              have hne : (midC n hs xj yj == mo) = false := by
                rw [beq_eq_false_iff_ne]
                obtain ⟨X, Y, h1, h2, h3⟩ := HLO.out xj yj hd
                have h4 := HMG.out (Y * n + X) (by rw [HKA.out]; have := Nat.mul_le_mul_right n (show Y + 1 ≤ m by omega); rw [Nat.add_mul] at this; omega)
                rw [cx_at h1, cy_at h1] at h4
                omega
              clear hd hx hrow hlen hxj hyj hmw
              generalize midC n hs xj yj = mid at *
              by_cases hlx : lx = 0
              · have e1 : (lx == 0) = true := by simpa using hlx
                have e2 : (ly == 0) = false := by
                  rw [beq_eq_false_iff_ne]
                  exact fun h => hpl ⟨hlx, h⟩
                clear hpl hlx
                go_wp2_with fail
                refine wp_region_bext (by kernel_rfl) (by kernel_rfl) ?_
                repeat (any_goals (go_big_quiet_step ((go_at_call 56; with_reducible exact bext_call (HMI.out _ (HMW.out.trans (ext_ofH _)))))))
                all_goals refine wpQuiet_nil ?_
                all_goals rintro _ ⟨δ, rfl⟩
                have HX6 := Lib.hid (HXI.out.trans (show Ext wr δ.wd from ⟨δ, rfl⟩))
                generalize δ.wd = W6 at *
                go_wp2_with fail
                go_roundw
                case rel => exact ⟨i + 1, by omega, by go_num, HX6.out⟩
                case measure => simp [intOf]; omega
              · have e1 : (lx == 0) = false := by simpa using hlx
                clear hpl hlx
                go_wp2_with fail
                refine wp_region_bext (by kernel_rfl) (by kernel_rfl) ?_
                repeat (any_goals (go_big_quiet_step ((go_at_call 56; with_reducible exact bext_call (HMI.out _ (HMW.out.trans (ext_ofH _)))))))
                all_goals refine wpQuiet_nil ?_
                all_goals rintro _ ⟨δ, rfl⟩
                have HX6 := Lib.hid (HXI.out.trans (show Ext wr δ.wd from ⟨δ, rfl⟩))
                generalize δ.wd = W6 at *
                go_wp2_with fail
                go_roundw
                case rel => exact ⟨i + 1, by omega, by go_num, HX6.out⟩
                case measure => simp [intOf]; omega
          · obtain rfl : i = j := by omega
            clear hx
            go_wp2_with fail
            go_ret
            exact ⟨rfl, HX4.out.trans (HX.out.trans HXI.out)⟩
end Go.Proofs.Ytlljhimaopnbfaa
