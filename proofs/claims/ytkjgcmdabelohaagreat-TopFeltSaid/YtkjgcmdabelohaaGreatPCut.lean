/- pattern.phase and Cut. Condition: the program's slices read as lists. -/
import Derived.Test.YtkjgcmdabelohaaGreatPMount
import Derived.Test.YtkjgcmdabelohaaGreatMAcc
import Derived.Test.YtkjgcmdabelohaaGreatMKind
import Derived.Laws.OwnMore
import Derived.Deep.OwnRows
namespace Go.Proofs.YtkjgcmdabelohaaGreat
open Go.RowKit

theorem quiet_sameP {P : Program} {f : FuncId} {args : Array Value} {w : World} {n : Nat} {v : Value}
    (h : Calls P f args (w.drewN n) fun e w' => e = .returned v ∧ w.drewN n = w') : Calls P f args (w.drewN n) fun e w'' => e = .returned v ∧ ∃ m, w'' = w.drewN m :=
  h.mono fun _ _ ⟨he, hm⟩ => ⟨he, n, hm.symm⟩
/-- The phase of a cut. -/
def phaseZ (p : PrT) (j : Int) : Int := ((j - j % (p.sh.length : Int)) / (p.sh.length : Int) * sumTo p.sh p.sh.length + sumTo p.sh (j % (p.sh.length : Int)).toNat) % (p.ros.length : Int)
theorem phaseZ_bd {p : PrT} (h : Nums p) (j : Int) : 0 ≤ phaseZ p j ∧ phaseZ p j < (p.ros.length : Int) := by
  have := h.n1
  exact ⟨Int.emod_nonneg _ (by omega), Int.emod_lt_of_pos _ (by omega)⟩
set_option maxRecDepth 100000 in
set_option maxHeartbeats 4000000 in
theorem phase_any (b : Nat) (p : PrT) (v : PrV) (lv : Value) (j : Int) (w : World) (h : BenchAt b w p v lv) (hg : Nums p) (hj : -20000 ≤ j ∧ j ≤ 20000) :
    Calls Tryz.prog 32 #[.pointer (some ⟨b, 0, none⟩), .int .i64 j] w fun e w' => e = .returned (.int .i64 (phaseZ p j)) ∧ Ext w w' := by
  have hc1 := hg.c1
  have hc2 := hg.c2
  have hn1 := hg.n1
  have hn2 := hg.n2
  obtain ⟨hj1, hj2⟩ := hj
  have HM := Lib.hid fun (x n : Int) (W : World) (h1 : 1 ≤ n) (h2 : n ≤ 1000000) => modulo_any x n W h1 h2
  have k7 := h.box.cell (i := 7) rfl
  have k8 := h.box.cell (i := 8) rfl
  have lk := cell_lt k8
  obtain ⟨c, hc⟩ : ∃ c, c = p.sh.length := ⟨_, rfl⟩
  obtain ⟨n, hn⟩ : ∃ n, n = p.ros.length := ⟨_, rfl⟩
  obtain ⟨a, ha, hac⟩ := emod_nat j (n := c) (by omega)
  have kc := h.box.cell (benchC_sum (k := c) (m := p.sh.length) (by omega))
  have ka := h.box.cell (benchC_sum (k := a) (m := p.sh.length) (by omega))
  rw [sumV, if_pos (by omega)] at kc ka
  have hsb := sumTo_bd (sh := p.sh) (B := 95) (by omega) (fun i => by have := hg.sh i; omega)
  have b1 := hsb c
  have b2 := hsb a
  obtain ⟨sc, hsc⟩ : ∃ z, z = sumTo p.sh c := ⟨_, rfl⟩
  obtain ⟨sa, hsa⟩ : ∃ z, z = sumTo p.sh a := ⟨_, rfl⟩
  rw [← hsc] at kc b1
  rw [← hsa] at ka b2
  rw [← hc] at k8 hc1 hc2
  rw [← hn] at k7 hn1 hn2
  obtain ⟨d, hd⟩ : ∃ d, j - (a : Int) = (c : Int) * d := ⟨j / (c : Int), by have := Int.mul_ediv_add_emod j (c : Int); omega⟩
  have hcz : (c : Int) ≠ 0 := by omega
  have e2 : (j - (a : Int)).tdiv (c : Int) = d := by rw [hd]; exact Int.mul_tdiv_cancel_left d hcz
  have e2' : (j - (a : Int)) / (c : Int) = d := by rw [hd]; exact Int.mul_ediv_cancel_left d hcz
  have hdb : -21000 ≤ d ∧ d ≤ 21000 := by
    have h1 : (c : Int) * d = j - a := hd.symm
    constructor
    · by_cases h0 : d < 0
      · have := Int.mul_le_mul_of_nonpos_right (show (1 : Int) ≤ c by omega) (show d ≤ 0 by omega)
        omega
      · omega
    · by_cases h0 : 0 < d
      · have := Int.mul_le_mul_of_nonneg_right (show (1 : Int) ≤ c by omega) (show 0 ≤ d by omega)
        omega
      · omega
  have HPZ := Lib.hid (show phaseZ p j = (d * sc + sa) % (n : Int) by
    unfold phaseZ
    rw [← hc, ← hn, ha, e2', ← hsc, Int.toNat_natCast, ← hsa])
  have hds : -25200000 ≤ d * sc ∧ d * sc ≤ 25200000 := by
    have hc' : sc ≤ 1200 := by
      have : (95 : Int) * (c : Int) ≤ 95 * 12 := by omega
      omega
    have h1 : d * sc ≤ 21000 * sc := Int.mul_le_mul_of_nonneg_right hdb.2 b1.1
    have h2 : -21000 * sc ≤ d * sc := Int.mul_le_mul_of_nonneg_right hdb.1 b1.1
    omega
  obtain ⟨d1, d2⟩ := hds
  obtain ⟨db1, db2⟩ := hdb
  have hsa2 : 0 ≤ sa ∧ sa ≤ 1200 := by
    have : (95 : Int) * (a : Int) ≤ 95 * 12 := by omega
    omega
  obtain ⟨s1, s2⟩ := hsa2
  have w1 : IntKind.i64.wrap (j - (a : Int)) = j - (a : Int) := IntWalk.i64_in _ (by omega)
  have w2 : IntKind.i64.wrap d = d := IntWalk.i64_in _ (by omega)
  have w3 : IntKind.i64.wrap (d * sc) = d * sc := IntWalk.i64_in _ (by omega)
  have w4 : IntKind.i64.wrap (d * sc + sa) = d * sc + sa := IntWalk.i64_in _ (by omega)
  have HM1 := Lib.hid fun W : World => (show Calls Tryz.prog 31 #[.int .i64 j, .int .i64 (c : Int)] W fun e w' => e = .returned (.int .i64 (a : Int)) ∧ W = w' from ha ▸ HM.out j c W (by omega) (by omega))
  have HM2 := Lib.hid fun W : World => (show Calls Tryz.prog 31 #[.int .i64 (d * sc + sa), .int .i64 (n : Int)] W fun e w' => e = .returned (.int .i64 (phaseZ p j)) ∧ W = w' from HPZ.out ▸ HM.out _ n W (by omega) (by omega))
  generalize phaseZ p j = z at *
  have a13 : (a : Int) < 13 := by omega
  have c13 : (c : Int) < 13 := by omega
  have hc0n : ¬ c = 0 := by omega
  clear hd ha hsc hsa hsb hc hn h hg HM HPZ b1 b2 hcz
  go_enter Tryz.func32, Tryz.ntmps32
  go_wp2_with (go_at_call 31; refine (HM1.out _).mono ?_; rintro e w' ⟨rfl, rfl⟩)
  go_quiet ((go_at_call 31; with_reducible exact quiet_sameP (HM2.out _)))
  go_wp2_with fail
  go_ret
  exact ⟨rfl, (Ext.refl w).drewN _⟩

/-- A list while its first i entries are laid. -/
def fillTo (L : List Int) (i : Nat) : List Int := (List.range L.length).map fun k => if k < i then L[k]?.getD 0 else 0
theorem fillTo_len (L : List Int) (i : Nat) : (fillTo L i).length = L.length := by simp [fillTo]
theorem fillTo_zero (L : List Int) : fillTo L 0 = List.replicate L.length 0 := by
  apply List.ext_getElem
  · simp [fillTo]
  · intro k h1 h2
    simp [fillTo]
theorem fillTo_all (L : List Int) : fillTo L L.length = L := by
  apply List.ext_getElem
  · simp [fillTo]
  · intro k h1 h2
    simp only [fillTo, List.getElem_map, List.getElem_range]
    rw [if_pos h2, List.getElem?_eq_getElem h2, Option.getD_some]
theorem fillTo_set (L : List Int) {i : Nat} (_ : i < L.length) : (fillTo L i).set i (L[i]?.getD 0) = fillTo L (i + 1) := by
  apply List.ext_getElem
  · simp [fillTo]
  · intro k h1 h2
    rw [List.getElem_set]
    simp only [fillTo, List.getElem_map, List.getElem_range]
    split
    · rename_i e
      subst e
      rw [if_pos (by omega)]
    · rename_i e
      by_cases hk : k < i
      · rw [if_pos hk, if_pos (by omega)]
      · rw [if_neg hk, if_neg (by omega)]
/-- The radii of a cut. -/
def cutL (p : PrT) (j : Int) : List Int := (mvL (liftL p.ros p.rub) (phaseZ p j)).map fun h => p.start + j * p.adv + p.throw * h
def cutE (p : PrT) (j : Int) : Int := if progE p = 0 then (if inB (-5000) 5000 j = true then 0 else 2) else progE p
theorem cutL_len (p : PrT) (j : Int) : (cutL p j).length = p.ros.length := by
  unfold cutL
  rw [List.length_map, mvL_len, liftL_len]
theorem cutL_at {p : PrT} {j : Int} {i : Nat} (hi : i < p.ros.length) : (cutL p j)[i]?.getD 0 = p.start + j * p.adv + p.throw * (liftL p.ros p.rub)[(((i : Int) - phaseZ p j) % (p.ros.length : Int)).toNat]?.getD 0 := by
  have h1 : i < (mvL (liftL p.ros p.rub) (phaseZ p j)).length := by rw [mvL_len, liftL_len]; exact hi
  unfold cutL
  rw [List.getElem?_map, List.getElem?_eq_getElem h1, Option.map_some, Option.getD_some]
  have := mvL_at (zs := liftL p.ros p.rub) (a := phaseZ p j) (i := i) (by rw [liftL_len]; exact hi)
  rw [List.getElem?_eq_getElem h1, Option.getD_some, liftL_len] at this
  rw [this]
theorem ext_but0 {w w' : World} (h : But [] w w') : Ext w w' := h.below (Ext.refl w) (by simp)
theorem own_zerosP (W : World) (B K : Nat) (hB : B ≤ W.heap.size) (hK : K ≤ 1000) : intK.Own B (W.alloc (.cells (madeCells #[.int .i64 0] K) 3)) (.slice (some ⟨W.heap.size, 0, none⟩) K K) (List.replicate K 0) := by
  have := EK.Own.lit (K := intK) (B := B) W (madeCells #[.int .i64 0] K) (List.replicate K 0) (by rw [toList_madeCells_one, flat_ints, List.map_replicate]) hB (by simp [maxLen]; omega)
  rw [List.length_replicate] at this
  exact this

set_option maxRecDepth 100000 in
set_option maxHeartbeats 4000000 in
theorem patCut_bad (p : PrT) (v : PrV) (j : Int) (w : World) (h : PrIs w v p) (hb : ¬ progE p = 0) :
    Calls Tryz.prog 9 #[p.val v, .int .i64 j] w (RetEE intK w [] (progE p)) := by
  have HM := Lib.hid fun (W : World) (x : Ext w W) => mounted_bad p v W (h.ext x) hb
  have hne : (progE p != 0) = true := by simpa using hb
  generalize progE p = er at *
  clear h hb
  unfold PrT.val at *
  go_enter Tryz.func9, Tryz.ntmps9
  go_wp2_with fail
  refine (HM.out _ ((Ext.refl _).alloc _)).mono ?_
  rintro e w1 ⟨rfl, x1⟩
  have HX := Lib.hid (((Ext.refl w).alloc _).trans x1)
  clear x1
  go_wp2_with fail
  go_ret2
  exact ⟨_, rfl, EK.Own.nil _ _, HX.out⟩
set_option maxRecDepth 100000 in
set_option maxHeartbeats 4000000 in
theorem patCut_far (p : PrT) (v : PrV) (j : Int) (w : World) (h : PrIs w v p) (hg : Good p) (hq : inB (-5000) 5000 j = false) :
    Calls Tryz.prog 9 #[p.val v, .int .i64 j] w (RetEE intK w [] 2) := by
  have HM := Lib.hid fun (W : World) (x : Ext w W) => mounted_good p v W (h.ext x) hg
  have HW := Lib.hid fun W : World => (show Calls Tryz.prog 25 #[.int .i64 j, .int .i64 (-5000), .int .i64 5000] W fun e w' => e = .returned (.bool false) ∧ W = w' from hq ▸ patWithin_any _ _ _ W)
  clear h hg hq
  unfold PrT.val at *
  go_enter Tryz.func9, Tryz.ntmps9
  go_wp2_with fail
  refine (HM.out _ ((Ext.refl _).alloc _)).mono ?_
  rintro e w1 ⟨b, lv, rfl, hb, hbe, x1⟩
  have HX1 := Lib.hid (((Ext.refl w).alloc _).trans x1)
  clear x1 hbe
  go_wp2_with (go_at_call 25; refine (HW.out _).mono ?_; rintro e w' ⟨rfl, rfl⟩)
  go_ret2
  exact ⟨_, rfl, EK.Own.nil _ _, HX1.out⟩
set_option maxRecDepth 100000 in
set_option maxHeartbeats 8000000 in
theorem patCut_good (p : PrT) (v : PrV) (j : Int) (w : World) (h : PrIs w v p) (hg : Good p) (hq : inB (-5000) 5000 j = true) :
    Calls Tryz.prog 9 #[p.val v, .int .i64 j] w (RetEE intK w (cutL p j) 0) := by
  have HNU := Lib.hid hg.nums
  have HM := Lib.hid fun (W : World) (x : Ext w W) => mounted_good p v W (h.ext x) hg
  have HFI := Lib.hid hg.fine
  have HW := Lib.hid fun W : World => (show Calls Tryz.prog 25 #[.int .i64 j, .int .i64 (-5000), .int .i64 5000] W fun e w' => e = .returned (.bool true) ∧ W = w' from hq ▸ patWithin_any _ _ _ W)
  obtain ⟨hj1, hj2⟩ := inB_iff.1 hq
  obtain ⟨rv, bv, sv⟩ := v
  have HCA := Lib.hid fun (i : Nat) (hi : i < p.ros.length) => cutL_at (p := p) (j := j) hi
  have HCL := Lib.hid (cutL_len p j)
  obtain ⟨L, hL⟩ : ∃ L, L = cutL p j := ⟨_, rfl⟩
  rw [← hL] at HCA HCL ⊢
  have HB0 := Lib.hid (BoxAt.new w (p.cells ⟨rv, bv, sv⟩) 24)
  have hn1 := hg.nums.n1
  have hn2 := hg.nums.n2
  obtain ⟨n, hn⟩ : ∃ n, n = p.ros.length := ⟨_, rfl⟩
  rw [← hn] at hn1 hn2
  have HN := Lib.hid hn
  clear h hg hq hn hL
  unfold PrT.val PrT.cells at *
  go_enter Tryz.func9, Tryz.ntmps9
  go_wp2_with fail
  refine (HM.out _ ((Ext.refl _).alloc _)).mono ?_
  rintro e w1 ⟨b, lv, rfl, hb, hbe, x1⟩
  have HX1 := Lib.hid (((Ext.refl w).alloc _).trans x1)
  have HB1 := Lib.hid (HB0.out.ext x1)
  have HBE := Lib.hid hbe
  clear x1 hbe
  have HPH := Lib.hid fun (W : World) (x : Ext w1 W) => phase_any b p ⟨rv, bv, sv⟩ lv j W (HBE.out.ext x) HNU.out (by omega)
  obtain ⟨z1, z2⟩ := phaseZ_bd HNU.out j
  obtain ⟨z, hz⟩ : ∃ z, z = phaseZ p j := ⟨_, rfl⟩
  rw [← hz] at HPH HCA z1 z2
  rw [← HN.out] at HCA HCL z2
  have k7 : w1.cell? ⟨b, 7, none⟩ = some (.int .i64 (n : Int)) := by rw [HN.out]; exact HBE.out.box.cell (i := 7) rfl
  have lb := cell_lt k7
  have hmk : ∀ W : World, (Instr.makeSlice 22 (.int .i64 (n : Int)) (.int .i64 (n : Int))).run Tryz.prog W = .ok (.slice (some ⟨W.heap.size, 0, none⟩) n n) (W.alloc (.cells (madeCells #[.int .i64 0] n) 3)) := fun W =>
    run_make_row' (P := Tryz.prog) 22 3 (.int .i64 0) 8 Tryz.underlying22 intInfo rfl .i64 .i64 n (by omega) (by omega) W
  clear hz
  go_wp2_with (go_at_call 25; refine (HW.out _).mono ?_; rintro e w' ⟨rfl, rfl⟩)
  refine lay_wp (fun W => intK.Own w1.heap.size W (.slice (some ⟨w1.heap.size, 0, none⟩) n n) (fillTo L 0) ∧ Ext w1 W) ⟨by rw [fillTo_zero, HCL.out]; exact own_zerosP w1 _ n (Nat.le_refl _) (by omega), (Ext.refl _).alloc _⟩ ?_
  rintro W2 ⟨o2, x2⟩
  obtain ⟨g, hgg⟩ : ∃ g, g = w1.heap.size := ⟨_, rfl⟩
  rw [← hgg] at o2 ⊢
  have HG := Lib.hid hgg
  have HO2 := Lib.hid o2
  have HX2 := Lib.hid x2
  clear o2 x2 hgg k7 lb hmk
  go_loopw [32] (fun iv wr => ∃ i : Nat, i ≤ n ∧ iv = .int .i64 (i : Int) ∧ intK.Own g wr (.slice (some ⟨g, 0, none⟩) n n) (fillTo L i) ∧ Ext w1 wr) (fun iv _ => n - (intOf iv).toNat)
  case atStart => exact ⟨0, by omega, rfl, HO2.out, HX2.out⟩
  case round =>
    obtain ⟨i, hi, rfl, ho, hx⟩ := hrel
    have HO := Lib.hid ho
    have HX := Lib.hid hx
    by_cases hlt : i < n
    · have hii : (i : Int) < (n : Int) := by omega
      obtain ⟨k, hk, hkn⟩ := emod_nat ((i : Int) - z) (n := n) (by omega)
      have hca := HCA.out i hlt
      rw [hk, Int.toNat_natCast] at hca
      obtain ⟨A3, n3, c3, hlv, -, hr3, -⟩ := HBE.out.lift.open_
      have hn3 : n3 = n := by rw [← hr3.len, liftL_len, HN.out]
      subst hn3
      subst hlv
      obtain ⟨b3, o3, rfl, _, m0⟩ := hr3.at_ k hkn
      replace m0 := hx.cell_some m0
      have lm := cell_lt m0
      obtain ⟨hh1, hh2⟩ := HFI.out.lift.hx k
      obtain ⟨hv, hhv⟩ : ∃ hv, hv = (liftL p.ros p.rub)[k]?.getD 0 := ⟨_, rfl⟩
      rw [← hhv] at m0 hh1 hh2 hca
      have p2 := (HB1.out.ext hx).cell (i := 2) rfl
      have p3 := (HB1.out.ext hx).cell (i := 3) rfl
      have p4 := (HB1.out.ext hx).cell (i := 4) rfl
      have lp := cell_lt p2
      have q6 := (HBE.out.box.ext hx).cell (i := 6) rfl
      have q7 : wr.cell? ⟨b, 7, none⟩ = some (.int .i64 (n3 : Int)) := by rw [HN.out]; exact (HBE.out.box.ext hx).cell (i := 7) rfl
      have lq := cell_lt q6
      obtain ⟨t1, t2⟩ := HNU.out.t
      obtain ⟨s1, s2⟩ := HNU.out.s
      obtain ⟨a1, a2⟩ := HNU.out.a
      obtain ⟨st, hst⟩ : ∃ y, y = p.start := ⟨_, rfl⟩
      obtain ⟨th, hth⟩ : ∃ y, y = p.throw := ⟨_, rfl⟩
      obtain ⟨ad, had⟩ : ∃ y, y = p.adv := ⟨_, rfl⟩
      rw [← hst] at p2 s1 s2 hca
      rw [← hth] at p3 t1 t2 hca
      rw [← had] at p4 a1 a2 hca
      have j1 : -15000000 ≤ j * ad ∧ j * ad ≤ 15000000 := by
        have h1 := Int.mul_le_mul_of_nonneg_left (show -1000 ≤ ad by omega) (show 0 ≤ j + 5000 by omega)
        have h2 := Int.mul_le_mul_of_nonneg_left (show ad ≤ 1000 by omega) (show 0 ≤ j + 5000 by omega)
        rw [Int.add_mul, Int.add_mul] at h1 h2
        omega
      have j2 : 0 ≤ th * hv ∧ th * hv ≤ 160000 := ⟨Int.mul_nonneg (by omega) hh1, by
        have h1 := Int.mul_le_mul t2 hh2 hh1 (show (0 : Int) ≤ 16 by omega)
        omega⟩
      obtain ⟨j3, j4⟩ := j1
      obtain ⟨j5, j6⟩ := j2
      have e1 : IntKind.i64.wrap (j * ad) = j * ad := IntWalk.i64_in _ (by omega)
      have e2 : IntKind.i64.wrap (st + j * ad) = st + j * ad := IntWalk.i64_in _ (by omega)
      have e3 : IntKind.i64.wrap (th * hv) = th * hv := IntWalk.i64_in _ (by omega)
      have e4 : IntKind.i64.wrap (st + j * ad + th * hv) = st + j * ad + th * hv := IntWalk.i64_in _ (by omega)
      have e5 : IntKind.i64.wrap ((i : Int) - z) = (i : Int) - z := IntWalk.i64_in _ (by omega)
      have HMO := Lib.hid fun W : World => (show Calls Tryz.prog 31 #[.int .i64 ((i : Int) - z), .int .i64 (n3 : Int)] W fun e w' => e = .returned (.int .i64 (k : Int)) ∧ Ext W w' from hk ▸ (modulo_any _ n3 W (by omega) (by omega)).mono fun e w' h => ⟨h.1, h.2 ▸ Ext.refl _⟩)
      obtain ⟨g', cg, hge, _, hgl, hgc, hgf⟩ := ho.slot (j := i) (by rw [fillTo_len, HCL.out]; exact hlt)
      simp only [Value.slice.injEq, Option.some.injEq, Addr.mk.injEq] at hge
      obtain ⟨⟨rfl, -⟩, -, -⟩ := hge
      have g0 := hgc 0 _ rfl
      simp only [intK, Nat.mul_one, Nat.add_zero] at g0
      have gf := hgf i
      have HGF := Lib.hid (And.intro g0 gf)
      have HCV := Lib.hid hca
      have y2 := But.cells (D := []) p2 (by simp)
      have y3 := But.cells (D := []) p3 (by simp)
      have y4 := But.cells (D := []) p4 (by simp)
      have y6 := But.cells (D := []) q6 (by simp)
      have y7 := But.cells (D := []) q7 (by simp)
      have ym := But.cells (D := []) m0 (by simp)
      clear hgc hgf ho hx hk hca hhv hst hth had g0 gf p2 p3 p4 q6 q7 m0 hr3
      go_wp2_with fail
      refine (wpIn_wide (n := 3)).1 ?_
      refine wpIn_region_steps [] 30 [(0, true), (1, true), (2, true), (3, true), (4, true), (5, true), (6, true), (7, true), (8, true), (9, true), (10, true), (11, true), (12, true), (13, true), (14, true), (15, true), (16, true), (17, true), (18, true), (19, true), (20, true), (21, true), (22, true), (23, true), (24, true), (25, true), (26, true), (27, true), (28, true), (29, true)] (by kernel_rfl) (by kernel_rfl) ?_
      iterate 18 (refine wpSD_q (by rfl) (fun _ _ _ => trivial) (fun K hK => ?_); go_simp; refine hK _ ?_; clear hK K)
      refine wpSD_q (by rfl) (fun _ _ _ => trivial) (fun K hK => ?_)
      go_simp
      refine ⟨.int .i64 z, fun δ => callsIn_wide.2 (HPH.out δ.wd (HX.out.trans (ext_but0 δ.but))), hK _ ?_⟩
      clear hK K
      iterate 5 (refine wpSD_q (by rfl) (fun _ _ _ => trivial) (fun K hK => ?_); go_simp; refine hK _ ?_; clear hK K)
      refine wpSD_q (by rfl) (fun _ _ _ => trivial) (fun K hK => ?_)
      go_simp
      refine ⟨.int .i64 (k : Int), fun δ => callsIn_wide.2 (HMO.out δ.wd), hK _ ?_⟩
      clear hK K
      iterate 5 (refine wpSD_q (by rfl) (fun _ _ _ => trivial) (fun K hK => ?_); go_simp; refine hK _ ?_; clear hK K)
      refine wpSD_nil ?_
      intro W6 x6
      have HX6 := Lib.hid x6
      have k0 := x6.cell_some HGF.out.1
      have kf := x6.frozen HGF.out.1 HGF.out.2
      have lk := cell_lt k0
      clear x6 y2 y3 y4 y6 y7 ym
      simp only [List.drop_succ_cons, List.drop_zero]
      gi_wp2
      go_wp2_with fail
      go_roundw
      case rel =>
        have h1 := (HO.out.ext HX6.out).put1N (by rw [fillTo_len, HCL.out]) hlt rfl _ (.int .i64 (st + j * ad + th * hv)) rfl
        rw [← HCV.out, fillTo_set L (by rw [HCL.out]; exact hlt), HCV.out] at h1
        exact ⟨i + 1, by omega, by go_num, h1, (HX.out.trans HX6.out).setCell (p := ⟨g, i, none⟩) (by rw [HG.out]; exact Nat.le_refl _) _⟩
      case measure => simp [intOf]; omega
    · obtain rfl : n = i := by omega
      have HFIN := Lib.hid (show intK.Own g wr (.slice (some ⟨g, 0, none⟩) n n) L by have := ho; rwa [show fillTo L n = L by rw [← HCL.out]; exact fillTo_all L] at this)
      clear ho hx
      go_wp2_with fail
      go_ret2
      exact ⟨_, rfl, HFIN.out.mono (by rw [HG.out]; exact HX1.out.bel.size), HX1.out.trans HX.out⟩
end Go.Proofs.YtkjgcmdabelohaaGreat
