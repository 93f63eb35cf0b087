/- barleycornref03.Touches. Condition: slices read as lists, a rosette and a rubber. -/
import Derived.Test.YtaaceadcnnfngaaRRef
import Derived.Test.YtaaceadcnnfngaaRGal
namespace Go.Proofs.Ytaaceadcnnfngaa
open Go.RowKit

/-- The rubber's offset j, when it lies at p, touches the drop q. -/
def contB (xs ys : List Int) (p : Nat) (L : Int) (q j : Nat) : Bool := decide (plc xs.length p ((j : Int) - (ys.length : Int) / 2) = q) && decide (xs[q]?.getD 0 - ys[j]?.getD 0 = L)
def conIn (xs ys : List Int) (p : Nat) (L : Int) (q k : Nat) : List Int := ((List.range k).filter (contB xs ys p L q)).map fun _ => (q : Int)
def conTo (xs ys : List Int) (p : Nat) (L : Int) (k : Nat) : List Int := (List.range k).flatMap fun q => conIn xs ys p L q ys.length
def touchesL (xs ys : List Int) (p : Nat) : List Int := conTo xs ys p ((liftL xs ys)[p]?.getD 0) xs.length
theorem conTo_succ (xs ys : List Int) (p : Nat) (L : Int) (k : Nat) : conTo xs ys p L (k + 1) = conTo xs ys p L k ++ conIn xs ys p L k ys.length := by simp [conTo, List.range_succ]
theorem conIn_succ (xs ys : List Int) (p : Nat) (L : Int) (q k : Nat) : conIn xs ys p L q (k + 1) = conIn xs ys p L q k ++ (if contB xs ys p L q k then [(q : Int)] else []) := by
  simp only [conIn, List.range_succ, List.filter_append, List.map_append]
  cases h : contB xs ys p L q k <;> simp [h]
theorem conIn_len (xs ys : List Int) (p : Nat) (L : Int) (q k : Nat) : (conIn xs ys p L q k).length ≤ k := by
  rw [conIn, List.length_map]
  exact Nat.le_trans (List.length_filter_le _ _) (by simp)
theorem conTo_len (xs ys : List Int) (p : Nat) (L : Int) : ∀ k, (conTo xs ys p L k).length ≤ k * ys.length
  | 0 => by simp [conTo]
  | k + 1 => by
    rw [conTo_succ, List.length_append, Nat.succ_mul]
    exact Nat.add_le_add (conTo_len xs ys p L k) (conIn_len _ _ _ _ _ _)

set_option maxRecDepth 100000 in
set_option maxHeartbeats 2000000 in
theorem refTouches_any (u v : Value) (xs ys : List Int) (p : Nat) (w : World) (hu : IsI w u xs) (hv : IsI w v ys) (hf : Fine xs ys) (hp : p < xs.length) :
    Calls Try.prog 87 #[u, v, .int .i64 p] w (RetO w (touchesL xs ys p)) := by
  have HLF := Lib.hid fun W (x : Ext w W) => refLifted_any u v xs ys W (hu.ext x) (hv.ext x) hf
  obtain ⟨A, n, c, rfl, hc0, hr, hn⟩ := hu.open_
  obtain ⟨A', m, c', rfl, hd0, hs, hm⟩ := hv.open_
  have HLX := Lib.hid hr.len
  have HLY := Lib.hid hs.len
  have HF := Lib.hid hf
  have f1 := hf.lo
  have f2 := hf.hi
  have f3 := hf.odd
  have f4 := hf.le31
  rw [hr.len] at f1 f2 hp
  rw [hs.len] at f3 f4
  have HR := Lib.hid hr
  have HS := Lib.hid hs
  have HO := Lib.hid f3
  clear hu hv hf hr hs f3
  have m2 : 0 ≤ (m : Int) / 2 := by omega
  have m3 : (m : Int) / 2 ≤ 15 := by omega
  go_enter Try.func87, Try.ntmps87
  go_wp2_with fail
  refine (HLF.out w (Ext.refl w)).mono ?_
  rintro e w1 ⟨v1, rfl, o1, x1⟩
  obtain ⟨Al, nl, cl, rfl, _, hrl, hnl⟩ := o1.isI.open_
  obtain rfl : n = nl := by rw [← hrl.len, liftL_len, HLX.out]
  obtain ⟨bl, ol, rfl, _, hcl⟩ := hrl.at_ p hp
  obtain ⟨L, hL⟩ : ∃ L, (liftL xs ys)[p]?.getD 0 = L := ⟨_, rfl⟩
  rw [hL] at hcl
  have HLL := Lib.hid hL
  have HX1 := Lib.hid x1
  clear hL x1 o1 hrl
  go_wp2_with fail
  generalize hW : (m : Int) / 2 = W2 at *
  have HW := Lib.hid hW
  clear hW
  go_loopw [10, 11, 12] (fun v i _ wr => ∃ q : Nat, q ≤ n ∧ i = .int .i64 q ∧ OwnI w.heap.size wr v (conTo xs ys p L q) ∧ Ext w wr) (fun _ i _ _ => n - (intOf i).toNat)
  case atStart => exact ⟨0, by omega, rfl, OwnI.nil _ _, HX1.out⟩
  case round =>
    obtain ⟨q, hq, rfl, hown, hx⟩ := hrel
    have HX := Lib.hid hx
    have HOW := Lib.hid hown
    clear hx hown
    by_cases hlt : q < n
    · obtain ⟨b, o, rfl, hb, hc⟩ := HR.out.at_ q hlt
      have HC0 := Lib.hid hc
      clear hc
      go_wp2_with fail
      have HM := Lib.hid (show (m : Int) = 2 * W2 + 1 by have := HW.out; have := HO.out; omega)
      go_loopw [10, 12] (fun x j W => ∃ (k : Nat) (jj : Int), k ≤ m ∧ j = .int .i64 jj ∧ Hid (jj = (k : Int) - W2) ∧ -W2 ≤ jj ∧ jj ≤ m - W2 ∧ OwnI w.heap.size W x (conTo xs ys p L q ++ conIn xs ys p L q k) ∧ Ext w W) (fun _ j _ => ((m : Int) - W2 - intOf j).toNat)
      case atStart => exact ⟨0, -W2, by omega, rfl, Lib.hid (by omega), by omega, by omega, by rw [conIn]; simpa using HOW.out, HX.out⟩
      case round =>
        obtain ⟨k, jj, hk, rfl, HJ, hj1, hj2, ho, hxi⟩ := hrel
        have HXI := Lib.hid hxi
        have HOI := Lib.hid ho
        clear hxi ho
        by_cases hlk : k < m
        · obtain ⟨i, hi, hin⟩ := emod_nat ((p : Int) + jj) (n := n) (by omega)
          obtain ⟨b', o', rfl, _, hc2⟩ := HS.out.at_ k hlk
          have hc2' := HXI.out.cell_some hc2
          have hc1' := HXI.out.cell_some HC0.out
          have hwj : W2 + jj = (k : Int) := by have := HJ.out; omega
          have HWJ := Lib.hid (show jj ≤ W2 by have := HJ.out; have := HM.out; omega)
          have HA := Lib.hid fun W => refAround_any ((p : Int) + jj) n W (by omega) (by omega)
          rw [hi] at HA
          have HPL := Lib.hid (show plc xs.length p ((k : Int) - (ys.length : Int) / 2) = i by
            rw [plc, HLX.out, HLY.out, HW.out, ← HJ.out, hi]; rfl)
          clear hi hc2
          have ⟨hx1, hx2⟩ := HF.out.hx q
          have ⟨hy1, hy2⟩ := HF.out.hy k
          have HCS := Lib.hid (conIn_succ xs ys p L q k)
          rw [contB, HPL.out] at HCS
          obtain ⟨xi, hxe⟩ : ∃ xi, xs[q]?.getD 0 = xi := ⟨_, rfl⟩
          obtain ⟨yk, hye⟩ : ∃ yk, ys[k]?.getD 0 = yk := ⟨_, rfl⟩
          rw [hxe] at hx1 hx2 hc1' HCS
          rw [hye] at hy1 hy2 hc2' HCS
          clear hxe hye
          have hjw := HWJ.out
          by_cases hiq : i = q
          · subst hiq
            by_cases hd : xi - yk = L
            · have hdB : (xi - yk == L) = true := by simpa using hd
              have HCE := Lib.hid HCS.out
              rw [decide_eq_true hd, decide_eq_true rfl] at HCE
              clear hd
              have HC := Lib.hid fun W => cell_new0 W (.int .i64 (i : Int)) 3
              have HO1 := Lib.hid fun W (x : Ext wr W) => HOI.out.ext (x.alloc (.cells #[.int .i64 (i : Int)] 3))
              have HB := Lib.hid fun W (x : Ext wr W) => (show w.heap.size ≤ (W.alloc (.cells #[.int .i64 (i : Int)] 3)).heap.size from ((HXI.out.trans x).alloc _).bel.size)
              have HZ := Lib.hid (show (conTo xs ys p L i ++ conIn xs ys p L i k).length ≤ 1000000000 by
                have h1 := conTo_len xs ys p L i
                have h2 := conIn_len xs ys p L i k
                rw [HLY.out] at h1
                have h3 : i * m ≤ 96 * 31 := Nat.mul_le_mul (by omega) (by omega)
                rw [List.length_append]; omega)
              go_wp2_with fail
              go_quiet ((go_at_call 91; exact quiet_same (HA.out _)))
              go_wp2_with (at_builtin; refine app_one rfl _ _ rfl _ _ _ rfl rfl (HC.out _) (HO1.out _ ((Ext.refl wr).drewN _)) (HB.out _ ((Ext.refl wr).drewN _)) HZ.out ?_; intro v' w2 hown1 hb1)
              go_roundw
              case rel => exact ⟨k + 1, jj + 1, by omega, rfl, Lib.hid (by have := HJ.out; omega), by omega, by omega, by rw [HCE.out, Bool.and_self, if_pos rfl, ← List.append_assoc]; exact hown1, ((HXI.out.drewN _).alloc _).below hb1 (Nat.le_refl _)⟩
              case measure => simp [intOf]; omega
            · have hdB : (xi - yk == L) = false := by simpa using hd
              have HCE := Lib.hid HCS.out
              rw [decide_eq_false hd, Bool.and_false, if_neg (by decide), List.append_nil] at HCE
              clear hd
              go_wp2_with fail
              go_quiet ((go_at_call 91; exact quiet_same (HA.out _)))
              go_wp2_with fail
              go_roundw
              case rel => exact ⟨k + 1, jj + 1, by omega, rfl, Lib.hid (by have := HJ.out; omega), by omega, by omega, by rw [HCE.out]; exact HOI.out.ext ((Ext.refl wr).drewN _), HXI.out.drewN _⟩
              case measure => simp [intOf]; omega
          · have hdI : ((i : Int) == (q : Int)) = false := by simp; omega
            have HCE := Lib.hid HCS.out
            rw [decide_eq_false hiq, Bool.false_and, if_neg (by decide), List.append_nil] at HCE
            clear hiq
            go_wp2_with fail
            go_quiet ((go_at_call 91; exact quiet_same (HA.out _)))
            go_wp2_with fail
            go_roundw
            case rel => exact ⟨k + 1, jj + 1, by omega, rfl, Lib.hid (by have := HJ.out; omega), by omega, by omega, by rw [HCE.out]; exact HOI.out.ext ((Ext.refl wr).drewN _), HXI.out.drewN _⟩
            case measure => simp [intOf]; omega
        · obtain rfl : k = m := by omega
          have hjw : ¬ jj ≤ W2 := by have := HJ.out; have := HM.out; omega
          go_wp2_with fail
          go_roundw
          case rel => exact ⟨q + 1, by omega, by go_num, by rw [conTo_succ, HLY.out]; exact HOI.out, HXI.out⟩
          case measure => simp [intOf]; omega
    · obtain rfl : q = n := by omega
      go_wp2_with fail
      go_ret
      refine ⟨_, rfl, ?_, HX.out⟩
      rw [touchesL, HLL.out, HLX.out]
      exact HOW.out
end Go.Proofs.Ytaaceadcnnfngaa
