/- read.See of a valid program. Condition: the program's slices read as lists. -/
import Derived.Test.YtkjgcmdabelohaaGreatPCut
import Derived.Test.YtkjgcmdabelohaaGreatMKind
namespace Go.Proofs.YtkjgcmdabelohaaGreat
open Go.RowKit

def readK : EK (Int × Int × Int × Int) := ⟨84, 26, 4, fun x => [.int .i64 x.1, .int .i64 x.2.1, .int .i64 x.2.2.1, .int .i64 x.2.2.2], .agg #[.int .i64 0, .int .i64 0, .int .i64 0, .int .i64 0], 32, Tryz.underlying26, by kernel_rfl, rfl, by decide, by decide, fun _ => rfl, by simp [Value.oneCell']⟩
theorem int_read_ne : intK.ty ≠ readK.ty := by decide
theorem readWithin_any (n lo hi : Int) (w : World) : Calls Tryz.prog 37 #[.int .i64 n, .int .i64 lo, .int .i64 hi] w fun e w' => e = .returned (.bool (inB lo hi n)) ∧ w = w' := by
  by_cases h1 : lo ≤ n <;> by_cases h2 : n ≤ hi
  all_goals
    go_enter Tryz.func37, Tryz.ntmps37
    go_wp2
    go_ret
    exact ⟨ret_b (by simp [inB, h1, h2]), rfl⟩
/-- The readings of a cut. -/
def rowS (p : PrT) (N : Int) (j : Nat) : List (Int × Int × Int × Int) := (List.range p.ros.length).map fun i : Nat => ((j : Int), (i : Int), (cutL p j)[i]?.getD 0 - N, (cutL p j)[i]?.getD 0 + N)
def seeL (p : PrT) (N : Int) (c : Nat) : List (Int × Int × Int × Int) := (List.range c).flatMap (rowS p N)
theorem rowS_len (p : PrT) (N : Int) (j : Nat) : (rowS p N j).length = p.ros.length := by simp [rowS]
theorem seeL_succ (p : PrT) (N : Int) (c : Nat) : seeL p N (c + 1) = seeL p N c ++ rowS p N c := by
  unfold seeL
  rw [List.range_succ, List.flatMap_append]
  simp
theorem seeL_len (p : PrT) (N : Int) : ∀ c : Nat, (seeL p N c).length = c * p.ros.length
  | 0 => by simp [seeL]
  | c + 1 => by rw [seeL_succ, List.length_append, seeL_len p N c, rowS_len, Nat.succ_mul]
theorem cutL_bd {p : PrT} (h : Good p) {j : Int} (hj : -5000 ≤ j ∧ j ≤ 5000) (i : Nat) : -16000000 ≤ (cutL p j)[i]?.getD 0 ∧ (cutL p j)[i]?.getD 0 ≤ 16000000 := by
  have hN := h.nums
  by_cases hi : i < p.ros.length
  · rw [cutL_at hi]
    obtain ⟨hh1, hh2⟩ := h.fine.lift.hx (((i : Int) - phaseZ p j) % (p.ros.length : Int)).toNat
    generalize (liftL p.ros p.rub)[(((i : Int) - phaseZ p j) % (p.ros.length : Int)).toNat]?.getD 0 = hv at *
    obtain ⟨t1, t2⟩ := hN.t
    obtain ⟨s1, s2⟩ := hN.s
    obtain ⟨a1, a2⟩ := hN.a
    have j2 : 0 ≤ p.throw * hv ∧ p.throw * hv ≤ 160000 := ⟨Int.mul_nonneg (by omega) hh1, by
      have h1 := Int.mul_le_mul t2 hh2 hh1 (show (0 : Int) ≤ 16 by omega)
      omega⟩
    have h1 := Int.mul_le_mul_of_nonneg_left a1 (show 0 ≤ j + 5000 by omega)
    have h2 := Int.mul_le_mul_of_nonneg_left a2 (show 0 ≤ j + 5000 by omega)
    rw [Int.add_mul, Int.add_mul] at h1 h2
    omega
  · rw [List.getElem?_eq_none (by rw [cutL_len]; omega), Option.getD_none]
    omega

set_option maxRecDepth 100000 in
set_option maxHeartbeats 8000000 in
theorem see_any (p : PrT) (v : PrV) (C : Nat) (N : Int) (w : World) (h : PrIs w v p) (hg : Good p) (hC : 1 ≤ C ∧ C ≤ 12) (hN : 0 ≤ N ∧ N ≤ 1000) (hm : C * p.ros.length ≤ 60) :
    Calls Tryz.prog 17 #[p.val v, .int .i64 (C : Int), .int .i64 N] w (RetEE readK w (seeL p N C) 0) := by
  have HC := Lib.hid fun (W : World) (x : Ext w W) => (show Calls Tryz.prog 7 #[p.val v] W fun e w' => e = .returned (.int .i64 0) ∧ Ext W w' from by
    have := patCheck_any p v W (h.ext x)
    rwa [progE_zero.2 hg] at this)
  have HCU := Lib.hid fun (j : Nat) (hj : j < 12) (W : World) (x : Ext w W) => patCut_good p v (j : Int) W (h.ext x) hg (by rw [inB_iff]; omega)
  have HW1 := Lib.hid fun W : World => (show Calls Tryz.prog 37 #[.int .i64 (C : Int), .int .i64 1, .int .i64 12] W fun e w' => e = .returned (.bool true) ∧ W = w' from by
    have := readWithin_any (C : Int) 1 12 W
    rwa [inB_iff.2 ⟨by omega, by omega⟩] at this)
  have HW2 := Lib.hid fun W : World => (show Calls Tryz.prog 37 #[.int .i64 N, .int .i64 0, .int .i64 1000] W fun e w' => e = .returned (.bool true) ∧ W = w' from by
    have := readWithin_any N 0 1000 W
    rwa [inB_iff.2 hN] at this)
  have HBD := Lib.hid fun (j i : Nat) (hj : j < 12) => cutL_bd hg (j := (j : Int)) (by omega) i
  obtain ⟨rv, bv, sv⟩ := v
  obtain ⟨A, n, c, hrv, hA0, hr, hn⟩ := h.ros.open_
  simp only at hrv
  subst hrv
  have hnn := hr.len
  obtain ⟨hC1, hC2⟩ := hC
  obtain ⟨hN1, hN2⟩ := hN
  rw [hnn] at hm
  have hCn : (C : Int) * (n : Int) ≤ 60 := by
    have : ((C * n : Nat) : Int) ≤ 60 := by omega
    rwa [Int.natCast_mul] at this
  have hCn0 : 0 ≤ (C : Int) * (n : Int) := Int.mul_nonneg (by omega) (by omega)
  have hw3 : IntKind.i64.wrap ((C : Int) * (n : Int)) = (C : Int) * (n : Int) := IntWalk.i64_in _ (by omega)
  have HNN := Lib.hid hnn
  have HB0 := Lib.hid (BoxAt.new w (p.cells ⟨.slice A n c, bv, sv⟩) 24)
  have hn60 : n ≤ 60 := by
    have := Nat.mul_le_mul_right n hC1
    omega
  clear h hg hA0 hr hn hnn hm
  unfold PrT.val PrT.cells at *
  go_enter Tryz.func17, Tryz.ntmps17
  go_wp2_with fail
  refine (HC.out _ ((Ext.refl _).alloc _)).mono ?_
  rintro e w1 ⟨rfl, x1⟩
  have HX1 := Lib.hid (((Ext.refl w).alloc _).trans x1)
  have HB1 := Lib.hid (HB0.out.ext x1)
  have c0 := HB1.out.cell (i := 0) rfl
  have l0 := cell_lt c0
  have f1 : ¬ (60 : Int) < (C : Int) * (n : Int) := by omega
  clear x1
  go_wp2_with (first
    | (go_at_call 37; (with_reducible refine (HW1.out _).mono ?_); rintro e w' ⟨rfl, rfl⟩)
    | (go_at_call 37; (with_reducible refine (HW2.out _).mono ?_); rintro e w' ⟨rfl, rfl⟩))
  clear c0 l0 f1 hw3 hCn hCn0
  go_loopw [37, 9] (fun jv ov wr => ∃ j : Nat, j ≤ C ∧ jv = .int .i64 (j : Int) ∧ readK.Own w1.heap.size wr ov (seeL p N j) ∧ Ext w1 wr) (fun jv _ _ => C - (intOf jv).toNat)
  case atStart => exact ⟨0, by omega, rfl, EK.Own.nil _ _, Ext.refl _⟩
  case round =>
    obtain ⟨j, hj, rfl, ho, hx⟩ := hrel
    have HO := Lib.hid ho
    have HX := Lib.hid hx
    by_cases hlt : j < C
    · have hji : (j : Int) < (C : Int) := by omega
      have hj12 : j < 12 := by omega
      have hb := HB1.out.ext hx
      have c0 := hb.cell (i := 0) rfl
      have c1 := hb.cell (i := 1) rfl
      have c2 := hb.cell (i := 2) rfl
      have c3 := hb.cell (i := 3) rfl
      have c4 := hb.cell (i := 4) rfl
      have c5 := hb.cell (i := 5) rfl
      have l0 := cell_lt c0
      clear ho hx hb
      go_wp2_with fail
      refine (HCU.out j hj12 _ (HX1.out.trans HX.out)).mono ?_
      rintro e w2 ⟨lv, rfl, ol, x2⟩
      obtain ⟨A2, n2, c2', rfl, hn2, -⟩ := ol.is.open_
      have hn2' : n2 = n := by rw [← hn2, cutL_len, HNN.out]
      subst hn2'
      have HRO := Lib.hid (ol.mono (Nat.zero_le _))
      have HX2 := Lib.hid (HX.out.trans x2)
      have HO2 := Lib.hid (HO.out.ext x2)
      have HLN := Lib.hid hn2
      clear x2 ol hn2 c0 c1 c2 c3 c4 c5 l0
      go_wp2_with fail
      go_loopw [51, 9] (fun iv ov wr => ∃ i : Nat, i ≤ n2 ∧ iv = .int .i64 (i : Int) ∧ readK.Own w1.heap.size wr ov (seeL p N j ++ (rowS p N j).take i) ∧ intK.Own 0 wr (.slice A2 n2 c2') (cutL p j) ∧ Ext w1 wr) (fun iv _ _ => n2 - (intOf iv).toNat)
      case atStart => exact ⟨0, by omega, rfl, by simpa using HO2.out, HRO.out, HX2.out⟩
      case round =>
        obtain ⟨i, hi, rfl, ho, hro, hx⟩ := hrel
        have HOI := Lib.hid ho
        have HRI := Lib.hid hro
        have HXI := Lib.hid hx
        by_cases hli : i < n2
        · have hii : (i : Int) < (n2 : Int) := by omega
          have hil : i < (cutL p j).length := by rw [HLN.out]; exact hli
          obtain ⟨b, o, m0⟩ : ∃ b o, A2 = some ⟨b, o, none⟩ ∧ wr.cell? ⟨b, o + i, none⟩ = some (.int .i64 (cutL p j)[i]) := by
            obtain ⟨_, _, _, he, -, -, hr, -⟩ := hro.is.open_
            simp only [Value.slice.injEq] at he
            obtain ⟨rfl, -, -⟩ := he
            obtain ⟨b, o, h1, -, h2⟩ := ints_at hr i hil
            exact ⟨b, o, h1, h2⟩
          obtain ⟨rfl, m0⟩ := m0
          have lm := cell_lt m0
          have hbd := HBD.out j i hj12
          rw [List.getElem?_eq_getElem hil, Option.getD_some] at hbd
          have hrow : (rowS p N j)[i]'(by rw [rowS_len, HNN.out]; exact hli) = ((j : Int), (i : Int), (cutL p j)[i] - N, (cutL p j)[i] + N) := by
            simp only [rowS, List.getElem_map, List.getElem_range]
            rw [List.getElem?_eq_getElem hil, Option.getD_some]
          obtain ⟨r, hrr⟩ : ∃ r, r = (cutL p j)[i] := ⟨_, rfl⟩
          rw [← hrr] at m0 hbd hrow
          have HTK := Lib.hid (show (rowS p N j).take (i + 1) = (rowS p N j).take i ++ [((j : Int), (i : Int), r - N, r + N)] by
            rw [List.take_succ_eq_append_getElem (by rw [rowS_len, HNN.out]; exact hli), hrow])
          obtain ⟨hb1, hb2⟩ := hbd
          have e1 : IntKind.i64.wrap (r - N) = r - N := IntWalk.i64_in _ (by omega)
          have e2 : IntKind.i64.wrap (r + N) = r + N := IntWalk.i64_in _ (by omega)
          have HLL := Lib.hid (show (seeL p N j ++ (rowS p N j).take i).length ≤ 1000000000 by
            rw [List.length_append, seeL_len, List.length_take, rowS_len, HNN.out]
            have := Nat.mul_le_mul (show j ≤ 12 by omega) hn60
            omega)
          obtain ⟨Av, kv, cv, rfl⟩ := ho.shape
          have HNE := Lib.hid (own_ne HRI.out HOI.out int_read_ne)
          clear ho hro hx hrow hrr
          go_wp2_with (at_builtin; refine EK.app (K := readK) (B := w1.heap.size) rfl (.tmp 56) (.tmp 66) rfl wr.heap.size 1 ((j : Int), (i : Int), r - N, r + N) rfl rfl (fun ii u hu => cell_new hu) (HOI.out.ext ((Ext.refl _).alloc _)) (Nat.le_trans HXI.out.bel.size ((Ext.refl _).alloc _).bel.size) HLL.out ?_; intro v' w3 o3 b3 g3; obtain ⟨Av3, kv3, cv3, rfl⟩ := o3.shape; have HO3 := Lib.hid o3; have HB3 := Lib.hid b3; have HR3 := Lib.hid ((HRI.out.ext ((Ext.refl _).alloc _)).kept g3 HNE.out); clear o3 b3 g3)
          go_roundw
          case rel => exact ⟨i + 1, by omega, by go_num, by rw [HTK.out, ← List.append_assoc]; exact HO3.out, HR3.out, (HXI.out.alloc _).below HB3.out (Nat.le_refl _)⟩
          case measure => simp [intOf]; omega
        · obtain rfl : n2 = i := by omega
          rw [List.take_of_length_le (by rw [rowS_len, HNN.out]; exact Nat.le_refl _), ← seeL_succ] at ho
          have HFI := Lib.hid ho
          clear ho hro hx
          go_wp2_with fail
          go_roundw
          case rel => exact ⟨j + 1, by omega, by go_num, HFI.out, HXI.out⟩
          case measure => simp [intOf]; omega
    · obtain rfl : C = j := by omega
      obtain ⟨Av, kv, cv, rfl⟩ := ho.shape
      clear ho hx
      go_wp2_with fail
      go_ret2
      exact ⟨_, rfl, HO.out.mono HX1.out.bel.size, HX1.out.trans HX.out⟩
end Go.Proofs.YtkjgcmdabelohaaGreat
