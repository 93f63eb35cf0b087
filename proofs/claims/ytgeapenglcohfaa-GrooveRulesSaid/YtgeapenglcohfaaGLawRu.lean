/- GrooveRules: the law's walk. Condition: the work's cuts read as a list. -/
import Derived.Test.YtgeapenglcohfaaGEitP
import Derived.Test.YtgeapenglcohfaaGAlive
import Derived.Test.YtgeapenglcohfaaGGreat
import Derived.Test.YtgeapenglcohfaaGMap
import Derived.Deep.Cut
namespace Go.Proofs.Ytgeapenglcohfaa
open Go.RowKit Go.ChangeMaps

def mapII : MK Int Int := ⟨89, 3, 3, Value.int .i64, Value.int .i64, 0, by kernel_rfl, fun w a es => find_intM _ (by kernel_rfl) _ w a es, fun w e a => check_intM _ (by kernel_rfl) w e a, fun a => by simp [Instr.sameBits], fun w => by kernel_rfl⟩
/-- Where each cut comes, after i of them. -/
def placeTo (l : List Int) : Nat → Int → Int
  | 0 => fun _ => 0
  | i + 1 => updM' (placeTo l i) (l[i]?.getD 0) (i : Int)
theorem placeTo_at {o : List Nat} (hnd : o.Nodup) {j : Nat} : ∀ {i : Nat}, j < i → i ≤ o.length → placeTo (natsI o) i ((o[j]?.getD 0 : Nat) : Int) = (j : Int)
  | 0, h, _ => by omega
  | i + 1, h, hi => by
    unfold placeTo updM'
    rw [natsI_at]
    by_cases e : j = i
    · subst e
      rw [if_pos rfl]
    · rw [if_neg]
      · exact placeTo_at hnd (by omega) (by omega)
      · intro he
        have h1 := Int.ofNat.inj he
        rw [List.getElem?_eq_getElem (by omega), List.getElem?_eq_getElem (by omega)] at h1
        rw [List.nodup_iff_pairwise_ne, List.pairwise_iff_getElem] at hnd
        exact hnd j i (by omega) (by omega) (by omega) h1
theorem prsL_sorted (M : Nat → Nat → Bool) : (prsL M).Pairwise fun p q => p.1 < q.1 ∨ (p.1 = q.1 ∧ p.2 < q.2) := by
  unfold prsL prsTo
  refine List.Pairwise.filter _ ?_
  rw [List.pairwise_map]
  refine List.Pairwise.imp (fun {a b} h => ?_) (List.pairwise_lt_range (n := 256))
  simp only
  omega
theorem prsL_next (M : Nat → Nat → Bool) {j : Nat} (h : j + 1 < (prsL M).length) : ((prsL M)[j]?.getD (0, 0)).1 < ((prsL M)[j + 1]?.getD (0, 0)).1 ∨ (((prsL M)[j]?.getD (0, 0)).1 = ((prsL M)[j + 1]?.getD (0, 0)).1 ∧ ((prsL M)[j]?.getD (0, 0)).2 < ((prsL M)[j + 1]?.getD (0, 0)).2) := by
  have := prsL_sorted M
  rw [List.pairwise_iff_getElem] at this
  rw [List.getElem?_eq_getElem (by omega), List.getElem?_eq_getElem h]
  exact this j (j + 1) (by omega) h (by omega)
theorem prsL_in {k : WkT} {j : Nat} (h : j < (prsL (ruleM k)).length) : ((prsL (ruleM k))[j]?.getD (0, 0)).1 < k.cuts.length ∧ ((prsL (ruleM k))[j]?.getD (0, 0)).2 < k.cuts.length ∧ ((prsL (ruleM k))[j]?.getD (0, 0)).1 ≠ ((prsL (ruleM k))[j]?.getD (0, 0)).2 ∧ ruleM k ((prsL (ruleM k))[j]?.getD (0, 0)).1 ((prsL (ruleM k))[j]?.getD (0, 0)).2 = true := by
  rw [List.getElem?_eq_getElem h]
  have hm : (prsL (ruleM k))[j] ∈ prsL (ruleM k) := List.getElem_mem _
  obtain ⟨p, hp⟩ : ∃ p, p = (prsL (ruleM k))[j] := ⟨_, rfl⟩
  rw [← hp] at hm ⊢
  obtain ⟨a, b⟩ := p
  obtain ⟨_, _, hM⟩ := (mem_prsL _).1 hm
  obtain ⟨h1, h2⟩ := ruleM_iff hM
  refine ⟨h1, h2, fun e => ?_, hM⟩
  simp only [Option.getD_some] at e
  subst e
  rw [ruleM_same] at hM
  cases hM
/-- The rule before. -/
def lastP (L : List (Nat × Nat)) : Nat → Int × Int
  | 0 => (-1, 0)
  | j + 1 => (((L[j]?.getD (0, 0)).1 : Int), ((L[j]?.getD (0, 0)).2 : Int))
theorem lastP_lt (M : Nat → Nat → Bool) : ∀ {j : Nat}, j < (prsL M).length → (lastP (prsL M) j).1 < ((prsL M)[j]?.getD (0, 0)).1 ∨ ((lastP (prsL M) j).1 = ((prsL M)[j]?.getD (0, 0)).1 ∧ (lastP (prsL M) j).2 < ((prsL M)[j]?.getD (0, 0)).2)
  | 0, _ => .inl (by simp only [lastP]; omega)
  | j + 1, h => by
    have := prsL_next M h
    simp only [lastP]
    omega
theorem ext_setBlock {w W : World} (x : Ext w W) {b : Nat} (o : Obj) (hb : w.heap.size ≤ b) : Ext w (setBlock W b o) := (setBlock_but W b o).below x (fun d hd => by rw [List.mem_singleton] at hd; rw [hd]; exact hb) |> fun h => h
/-- An order keeps a rule. -/
theorem place_lt {k : WkT} {o : List Nat} (h : OrderIs (ruleM k) k.cuts.length o) {a b : Nat} (hM : ruleM k a b = true) : placeTo (natsI o) o.length (a : Int) < placeTo (natsI o) o.length (b : Int) := by
  obtain ⟨ha, hb⟩ := ruleM_iff hM
  obtain ⟨j, hj⟩ := List.mem_iff_getElem?.1 (h.all hb)
  have hk := h.keep j b hj a hM
  obtain ⟨i, hi⟩ := List.mem_iff_getElem?.1 hk
  have hij : i < j := by
    have := (List.getElem?_eq_some_iff.1 hi).1
    rw [List.length_take] at this
    omega
  rw [List.getElem?_take_of_lt hij] at hi
  have hjl := (List.getElem?_eq_some_iff.1 hj).1
  have e1 := placeTo_at h.nd (j := i) (i := o.length) (by omega) (Nat.le_refl _)
  have e2 := placeTo_at h.nd (j := j) (i := o.length) (by omega) (Nat.le_refl _)
  rw [hi] at e1
  rw [hj] at e2
  simp only [Option.getD_some] at e1 e2
  rw [e1, e2]
  omega
theorem pairsI_at (l : List (Nat × Nat)) (j : Nat) (h : j < (pairsI l).length) : (pairsI l)[j] = (((l[j]?.getD (0, 0)).1 : Int), ((l[j]?.getD (0, 0)).2 : Int)) := by
  unfold pairsI at h ⊢
  rw [List.length_map] at h
  rw [List.getElem_map, List.getElem?_eq_getElem h]
  rfl
theorem ext_ofR {w : World} (δ : BExt w) : Ext w δ.wd := ⟨δ, rfl⟩

set_option maxRecDepth 100000 in
set_option maxHeartbeats 8000000 in
theorem lawRules_any (k : WkT) (v : Value) (w : World) (hI : CutsIs w v k.cuts) :
    Calls Try.prog 16 #[k.val v] w fun e w' => e = .returned (.bool true) ∧ Ext w w' := by
  have HAL := Lib.hid fun W : World => alive_any W
  have HG := Lib.hid fun (W : World) (x : Ext w W) => great_any k v W (hI.ext x)
  have HR := Lib.hid fun (W : World) (x : Ext w W) => rules_any k v W (hI.ext x)
  have HO := Lib.hid fun (W : World) (x : Ext w W) => order_any k v W (hI.ext x)
  obtain ⟨A, n, c, rfl⟩ : ∃ A n c, v = .slice A n c := by
    obtain ⟨A, c, h, -⟩ := cutsIs_at hI
    exact ⟨A, _, c, h⟩
  have hnl : n = k.cuts.length := by
    obtain ⟨A, c, h, -⟩ := cutsIs_at hI
    cases h
    rfl
  have HNL := Lib.hid hnl
  clear hI hnl
  cases hg : greatK k
  case true =>
    rw [hg] at HG
    clear hg
    go_enter Try.func16, Try.ntmps16
    go_wp2_with fail
    refine (HAL.out _).mono ?_
    rintro e W0 ⟨rfl, x0⟩
    have HX0 := Lib.hid (show Ext w W0 from Ext.trans (by (repeat' (first | with_reducible exact Ext.refl _ | with_reducible apply Ext.alloc | with_reducible apply Ext.drew | with_reducible apply Ext.drewN | with_reducible refine Ext.setCell ?_ ?_ _ | with_reducible apply Ext.step | with_reducible assumption | with_reducible exact Nat.le_refl _ | (simp; done) | (simp; omega)))) x0)
    have HA0 := Lib.hid ((WkAt.new k (.slice A n c) w).ext x0)
    obtain ⟨h0, h1, h2, h3, h4, h5, h6, h7, h8, h9, h10, h11, h12⟩ := HA0.out
    have lh0 := cell_lt h0
    clear x0
    go_wp2_with fail
    refine (HG.out _ HX0.out).mono ?_
    rintro e W1 ⟨rfl, x1⟩
    have HX1 := Lib.hid (HX0.out.trans x1)
    clear x1 h0 h1 h2 h3 h4 h5 h6 h7 h8 h9 h10 h11 h12 lh0
    go_wp2_with fail
    go_ret
    exact ⟨rfl, HX1.out⟩
  rw [hg] at HG
  clear hg
  obtain ⟨rv, hrv⟩ : ∃ z, z = workE k := ⟨_, rfl⟩
  obtain ⟨ov, hov⟩ : ∃ z, z = orderE k := ⟨_, rfl⟩
  rw [← hrv] at HR
  rw [← hov] at HO
  have HV := Lib.hid (And.intro hrv hov)
  clear hrv hov
  have hmm := @run_makeMap Try.prog
  go_enter Try.func16, Try.ntmps16
  go_wp2_with fail
  refine (HAL.out _).mono ?_
  rintro e W0 ⟨rfl, x0⟩
  have HX0 := Lib.hid (show Ext w W0 from Ext.trans (by (repeat' (first | with_reducible exact Ext.refl _ | with_reducible apply Ext.alloc | with_reducible apply Ext.drew | with_reducible apply Ext.drewN | with_reducible refine Ext.setCell ?_ ?_ _ | with_reducible apply Ext.step | with_reducible assumption | with_reducible exact Nat.le_refl _ | (simp; done) | (simp; omega)))) x0)
  have HA0 := Lib.hid ((WkAt.new k (.slice A n c) w).ext x0)
  obtain ⟨h0, h1, h2, h3, h4, h5, h6, h7, h8, h9, h10, h11, h12⟩ := HA0.out
  have lh0 := cell_lt h0
  clear x0
  go_wp2_with fail
  refine (HG.out _ HX0.out).mono ?_
  rintro e W1 ⟨rfl, x1⟩
  have HX1 := Lib.hid (HX0.out.trans x1)
  have HA1 := Lib.hid (HA0.out.ext x1)
  clear x1 h0 h1 h2 h3 h4 h5 h6 h7 h8 h9 h10 h11 h12 lh0
  obtain ⟨h0, h1, h2, h3, h4, h5, h6, h7, h8, h9, h10, h11, h12⟩ := HA1.out
  have lh0 := cell_lt h0
  go_wp2_with fail
  refine (HR.out _ HX1.out).mono ?_
  rintro e W2 ⟨u1, rfl, o1, x2⟩
  obtain ⟨P1, m1, q1, rfl⟩ := own_shapeW o1
  have HO1 := Lib.hid o1
  have HX2 := Lib.hid (HX1.out.trans x2)
  have HA2 := Lib.hid (HA1.out.ext x2)
  clear o1 x2 h0 h1 h2 h3 h4 h5 h6 h7 h8 h9 h10 h11 h12 lh0
  obtain ⟨h0, h1, h2, h3, h4, h5, h6, h7, h8, h9, h10, h11, h12⟩ := HA2.out
  have lh0 := cell_lt h0
  go_wp2_with fail
  refine (HO.out _ HX2.out).mono ?_
  rintro e W3 ⟨u2, rfl, o2, x3⟩
  obtain ⟨P2, m2, q2, rfl⟩ := own_shapeW o2
  have HO2 := Lib.hid o2
  have HO1' := Lib.hid (HO1.out.ext x3)
  have HX3 := Lib.hid (HX2.out.trans x3)
  have HA3 := Lib.hid (HA2.out.ext x3)
  have HE12 := Lib.hid (HA3.out.2.2.2.2.2.2.2.2.2.2.2.2)
  clear o2 x3 h0 h1 h2 h3 h4 h5 h6 h7 h8 h9 h10 h11 h12 lh0
  obtain ⟨v1, v2⟩ := HV.out
  have hm1 : m1 = (rulesL k).length := by obtain ⟨_, _, he, _⟩ := HO1'.out.is; cases he; rfl
  have hm2 : m2 = (orderL k).length := by obtain ⟨_, _, he, _⟩ := HO2.out.is; cases he; rfl
  cases hb : workB k
  · rw [workE_no hb] at v1
    rw [(order_no hb).2] at v2
    subst v1 v2
    clear hb hm1 hm2
    go_wp2_with fail
    go_ret
    exact ⟨rfl, HX3.out⟩
  rw [workE_ok hb] at v1
  subst v1
  have hrl : rulesL k = pairsI (prsL (ruleM k)) := if_pos hb
  rw [hrl, pairsI_len] at hm1
  rw [hrl] at HO1'
  have h256 := prsL_len (ruleM k)
  have hol : ∀ i, i < m2 → -9223372036854775808 ≤ (orderL k)[i]?.getD 0 ∨ True := fun _ _ => .inr trivial
  have HOR := Lib.hid (show ov = 52 ∨ (ov = 0 ∧ ∃ o, orderL k = natsI o ∧ OrderIs (ruleM k) k.cuts.length o) by
    rcases either hb [] with ⟨o, s, e0, e1, e2, _, _, _, _, hord⟩ | ⟨r, e1, e2, _⟩
    · exact .inr ⟨v2.trans e2, o, e1, hord⟩
    · exact .inl (v2.trans e2))
  have hm2b : m2 ≤ 1000000000 := by
    rw [hm2]
    rcases either hb [] with ⟨o, s, e0, e1, e2, _, _, _, _, hord⟩ | ⟨r, e1, e2, _⟩
    · rw [e1, natsI_len, hord.len]
      have := workB_16 hb
      omega
    · rw [e1]
      simp
  have HRO := Lib.hid (show ∀ i, i < m2 → ∃ b oo, P2 = some ⟨b, oo, none⟩ ∧ b < W3.heap.size ∧ W3.cell? ⟨b, oo + i, none⟩ = some (.int .i64 ((orderL k)[i]?.getD 0)) by
    obtain ⟨_, _, he, _, _, hro⟩ := (intK_own.1 HO2.out).isI
    cases he
    exact hro.at_)
  have HM2 := Lib.hid hm2
  have HM1 := Lib.hid hm1
  have HPR := Lib.hid (show ∀ j, j < m1 → ∃ b0 o0, P1 = some ⟨b0, o0, none⟩ ∧ W3.cell? ⟨b0, o0 + j * 2, none⟩ = some (.int .i64 ((((prsL (ruleM k))[j]?.getD (0, 0)).1 : Nat) : Int)) ∧ W3.cell? ⟨b0, o0 + j * 2 + 1, none⟩ = some (.int .i64 ((((prsL (ruleM k))[j]?.getD (0, 0)).2 : Nat) : Int)) by
    intro j hj
    obtain ⟨_, _, he, _, _, hrow⟩ := HO1'.out.is
    cases he
    obtain ⟨b0, o0, hA, hb0, hc⟩ := hrow j hj
    rw [pairsI_at] at hc
    exact ⟨b0, o0, hA, hc 0 _ rfl, hc 1 _ rfl⟩)
  clear v2 hol hb hm1 hm2 hrl
  go_wp2_with fail
  obtain ⟨mb, hmb⟩ : ∃ mb, mb = W3.heap.size := ⟨_, rfl⟩
  refine lay_wp (fun W => mapII.At W3.heap.size (fun _ => 0) W ∧ Ext W3 W) ⟨MK.At.new W3, (show Below W3.heap.size W3 _ from (Below.refl _ _).alloc (Nat.le_refl _) _) |> Ext.of⟩ ?_
  rintro W4 ⟨hm4, hx4⟩
  rw [← hmb] at hm4 ⊢
  have HMB := Lib.hid hmb
  have HM4 := Lib.hid hm4
  have HX4 := Lib.hid hx4
  clear hmb hm4 hx4
  go_loopw [43] (fun iv W => ∃ i : Nat, i ≤ m2 ∧ iv = .int .i64 (i : Int) ∧ mapII.At mb (placeTo (orderL k) i) W ∧ Ext W3 W) (fun iv _ => m2 - (intOf iv).toNat)
  case atStart => exact ⟨0, by omega, rfl, HM4.out, HX4.out⟩
  case round =>
    obtain ⟨i, hi, rfl, hmp, hx⟩ := hrel
    have HMP := Lib.hid hmp
    have HXI := Lib.hid hx
    by_cases hlt : i < m2
    · obtain ⟨b1, o1, rfl, _, c1⟩ := HRO.out i hlt
      replace c1 := hx.cell_some c1
      have lc1 := cell_lt c1
      have HPT := Lib.hid (show placeTo (orderL k) (i + 1) = updM' (placeTo (orderL k) i) ((orderL k)[i]?.getD 0) (i : Int) from rfl)
      generalize (orderL k)[i]?.getD 0 = y at *
      obtain ⟨ob, hup0, hat⟩ := hmp.put y (i : Int)
      have hup : (Instr.mapUpdate 89 (.map (some mb)) (.int .i64 y) (.int .i64 (i : Int))).run Try.prog wr = .ok () (setBlock wr mb ob) := hup0
      have HAT := Lib.hid hat
      have hii : (i : Int) < (m2 : Int) := by omega
      clear hmp hx hup0 hat
      go_wp2_with fail
      go_roundw
      case rel => exact ⟨i + 1, by omega, by go_num, by rw [HPT.out]; exact HAT.out, ext_setBlock HXI.out _ (by rw [HMB.out]; exact Nat.le_refl _)⟩
      case measure => simp [intOf]; omega
    · obtain rfl : i = m2 := by omega
      obtain ⟨pl, hpl⟩ : ∃ pl, pl = placeTo (orderL k) i := ⟨_, rfl⟩
      have HPLA := Lib.hid (show ∀ a b, ov = 0 → ruleM k a b = true → pl (a : Int) < pl (b : Int) by
        intro a b h0 hM
        rcases HOR.out with h | ⟨_, o, e1, hord⟩
        · rw [h] at h0
          cases h0
        · rw [hpl, e1, HM2.out, e1, natsI_len]
          exact place_lt hord hM)
      rw [← hpl] at HMP
      clear hmp hx hpl
      go_upto_region 15 with fail
      obtain ⟨lb, hlb⟩ : ∃ lb, lb = wr.heap.size := ⟨_, rfl⟩
      have hbx := BoxAt.new wr #[.int .i64 (-1), .int .i64 0] 91
      refine lay_wp (fun W => BoxAt wr.heap.size #[.int .i64 (-1), .int .i64 0] 91 W ∧ Ext wr W) ⟨hbx, by (repeat' (first | with_reducible exact Ext.refl _ | with_reducible apply Ext.alloc | with_reducible apply Ext.drew | with_reducible apply Ext.drewN | with_reducible refine Ext.setCell ?_ ?_ _ | with_reducible apply Ext.step | with_reducible assumption | with_reducible exact Nat.le_refl _ | (simp; done) | (simp; omega)))⟩ ?_
      clear hbx
      rintro W6 ⟨hb6, hx6⟩
      rw [← hlb] at hb6 ⊢
      have HLB := Lib.hid hlb
      have HB6 := Lib.hid hb6
      have HX6 := Lib.hid hx6
      clear hlb hb6 hx6
      obtain ⟨wq, rfl⟩ : ∃ wq, wq = wr := ⟨_, rfl⟩
      go_wp2_with fail
      go_loopw [55] (fun iv W => ∃ j : Nat, j ≤ m1 ∧ iv = .int .i64 (j : Int) ∧ BoxAt lb #[.int .i64 (lastP (prsL (ruleM k)) j).1, .int .i64 (lastP (prsL (ruleM k)) j).2] 91 W ∧ Ext wq W) (fun iv _ => m1 - (intOf iv).toNat)
      case atStart => exact ⟨0, by omega, rfl, HB6.out, HX6.out⟩
      case round =>
        obtain ⟨j, hj, rfl, hbx, hx⟩ := hrel
        have HB := Lib.hid hbx
        have HX := Lib.hid hx
        clear hbx hx
        by_cases hlt2 : j < m1
        · have hjl : j < (prsL (ruleM k)).length := by rw [← HM1.out]; exact hlt2
          obtain ⟨i1, i2, i3, i4⟩ := prsL_in hjl
          have hlast := lastP_lt (ruleM k) hjl
          have HNX := Lib.hid (show lastP (prsL (ruleM k)) (j + 1) = ((((prsL (ruleM k))[j]?.getD (0, 0)).1 : Int), (((prsL (ruleM k))[j]?.getD (0, 0)).2 : Int)) from rfl)
          obtain ⟨b0, o0, rfl, c0, c1⟩ := HPR.out j hlt2
          replace c0 := (HXI.out.trans HX.out).cell_some c0
          replace c1 := (HXI.out.trans HX.out).cell_some c1
          have hML := Lib.hid (HPLA.out ((prsL (ruleM k))[j]?.getD (0, 0)).1 ((prsL (ruleM k))[j]?.getD (0, 0)).2)
          have h12 := HE12.out
          replace h12 := (HXI.out.trans HX.out).cell_some h12
          have hnl := HNL.out
          generalize ((prsL (ruleM k))[j]?.getD (0, 0)).1 = a at *
          generalize ((prsL (ruleM k))[j]?.getD (0, 0)).2 = b at *
          generalize (lastP (prsL (ruleM k)) j).1 = la at *
          generalize (lastP (prsL (ruleM k)) j).2 = lb2 at *
          obtain ⟨wo, rfl⟩ : ∃ wo, wo = wr := ⟨_, rfl⟩
          have lc0 := cell_lt c0
          have hjj : (j : Int) < (m1 : Int) := by omega
          have hm256 : m1 ≤ 256 := by rw [HM1.out]; exact h256
          go_upto_region 18 with fail
          refine lay_wp (fun W => BoxAt wo.heap.size #[.int .i64 (a : Int), .int .i64 (b : Int)] 91 W ∧ Ext wo W) ⟨BoxAt.new wo _ _, (Ext.refl _).alloc _⟩ ?_
          rintro W7 ⟨hb7, x7⟩
          have HB7 := Lib.hid hb7
          have HX7 := Lib.hid (HX.out.trans x7)
          have HBL := Lib.hid (HB.out.ext x7)
          have hmp7 := HMP.out.ext HX7.out
          have hla := hmp7.look (a : Int)
          have hlb := hmp7.look (b : Int)
          have e1 : (Instr.lookup 89 (.map (some mb)) (.int .i64 (a : Int)) false).run Try.prog W7 = .ok (.int .i64 (pl (a : Int))) W7 := hla
          have e2 : (Instr.lookup 89 (.map (some mb)) (.int .i64 (b : Int)) false).run Try.prog W7 = .ok (.int .i64 (pl (b : Int))) W7 := hlb
          have p0 := hb7.cell (i := 0) rfl
          have p1 := hb7.cell (i := 1) rfl
          have r0 := HBL.out.cell (i := 0) rfl
          have r1 := HBL.out.cell (i := 1) rfl
          have fr0 := frozen_of_row _ _ 0 _ _ HBL.out
          have fr1 := frozen_of_row _ _ 1 _ _ HBL.out
          replace h12 := x7.cell_some h12
          have lp0 := cell_lt p0
          have lr0 := cell_lt r0
          have l12 := cell_lt h12
          have g1 : ((a : Int) == (b : Int)) = false := by simp; omega
          have g2 : ¬ (a : Int) < 0 := by omega
          have g3 : ¬ (b : Int) < 0 := by omega
          have g4 : ¬ (n : Int) ≤ max (a : Int) (b : Int) := by omega
          clear c0 c1 lc0 hla hlb hmp7 hb7 x7 hjl hnl
          have hov : ov = 52 ∨ (ov = 0 ∧ ¬ pl (b : Int) ≤ pl (a : Int)) := by
            rcases HOR.out with h | ⟨h, _⟩
            · exact .inl h
            · exact .inr ⟨h, by have := hML.out h i4; omega⟩
          generalize pl (a : Int) = pa at *
          generalize pl (b : Int) = pb at *
          have g5 : ¬ (a : Int) < la := by omega
          have hcs : (((a : Int) == la) = false) ∨ (((a : Int) == la) = true ∧ ¬ (b : Int) ≤ lb2) := by
            rcases hlast with h | ⟨h1, h2⟩
            · exact .inl (by simp; omega)
            · exact .inr ⟨by simp; omega, by omega⟩
          clear hlast i1 i2 i3 i4
          have HXF := Lib.hid (HX3.out.trans (HXI.out.trans HX7.out))
          rcases hov with rfl | ⟨rfl, g8⟩
          all_goals
            rcases hcs with g7 | ⟨g7, g9⟩
            all_goals
              go_wp2_with fail
              go_roundw
              case rel =>
                refine ⟨j + 1, by omega, by go_num, ?_, (HX7.out.setCell (by rw [HLB.out]; exact Nat.le_refl _) _).setCell (by rw [HLB.out]; exact Nat.le_refl _) _⟩
                rw [HNX.out]
                have := BoxAt.setC (BoxAt.setC HBL.out 0 (.int .i64 (a : Int))) 1 (.int .i64 (b : Int))
                simpa using this
              case measure => simp [intOf]; omega
        · clear HB
          go_wp2_with fail
          go_ret
          exact ⟨rfl, HX3.out.trans (HXI.out.trans HX.out)⟩
end Go.Proofs.Ytgeapenglcohfaa
