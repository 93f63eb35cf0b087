/- barleycornref03.Lifted, Below. Condition: slices read as lists, a rosette and a rubber. -/
import Derived.Test.YtaaceadcnnfngaaRMadeB
namespace Go.Proofs.Ytaaceadcnnfngaa
open Go.RowKit

theorem quiet_same {P : Program} {f : FuncId} {args : Array Value} {w : World} {n : Nat} {v : Value}
    (h : Calls P f args (w.drewN n) fun e w' => e = .returned v ∧ w.drewN n = w') : Calls P f args (w.drewN n) fun e w'' => e = .returned v ∧ ∃ m, w'' = w.drewN m :=
  h.mono fun _ _ ⟨he, hm⟩ => ⟨he, n, hm.symm⟩

/-- The greatest of the first q numbers that are asked, and of a first one. -/
def accR (xs ys : List Int) (m k : Nat) (s : Int) (q : Nat) : Int := (List.range q).foldl (fun acc j => max acc (askOf xs ys m k j)) s
theorem accR_succ (xs ys : List Int) (m k : Nat) (s : Int) (q : Nat) : accR xs ys m k s (q + 1) = max (accR xs ys m k s q) (askOf xs ys m k q) := by simp [accR, List.range_succ]
theorem accR_eq {xs ys : List Int} (h : Fine xs ys) {k : Nat} (hk : k < xs.length) : accR xs ys ys.length k (xs[k]?.getD 0) ys.length = bestL xs ys ys.length k (List.range ys.length) := by
  rw [accR, foldMax _ _ (by have := h.odd; omega), bestL_eq]
  have h1 := foldMax_ge (g := askOf xs ys ys.length k) ys.length (ys.length / 2) (by have := h.odd; omega)
  rw [askOf_mid h.odd h.mid hk] at h1
  omega
theorem accR_ge {xs ys : List Int} {m k : Nat} {s : Int} : ∀ q, s ≤ accR xs ys m k s q
  | 0 => by simp [accR]
  | q + 1 => by rw [accR_succ]; have := accR_ge (xs := xs) (ys := ys) (m := m) (k := k) (s := s) q; omega
theorem accR_le {xs ys : List Int} {m k : Nat} {s : Int} (hs : s ≤ 10000) (hx : Hts xs) (hy : Hts ys) : ∀ q, accR xs ys m k s q ≤ 10000
  | 0 => by simpa [accR] using hs
  | q + 1 => by
    rw [accR_succ]
    have h0 := accR_le (m := m) (k := k) hs hx hy q
    have h1 : askOf xs ys m k q ≤ 10000 := by
      unfold askOf
      have h1 := (hx ((((k : Int) + (((min q m : Nat) : Int) - (m : Int) / 2)) % (xs.length : Int))).toNat).2
      have h2 := (hy q).1
      omega
    omega

set_option maxRecDepth 100000 in
set_option maxHeartbeats 1000000 in
theorem refLifted_any (u v : Value) (xs ys : List Int) (w : World) (hu : IsI w u xs) (hv : IsI w v ys) (hf : Fine xs ys) :
    Calls Try.prog 64 #[u, v] w (RetO w (liftL xs ys)) := by
  obtain ⟨A, n, c, rfl, hc0, hr, hn⟩ := hu.open_
  obtain ⟨A', m, c', rfl, hd0, hs, hm⟩ := hv.open_
  have HLX := Lib.hid hr.len
  have HLY := Lib.hid hs.len
  have HF := Lib.hid hf
  have f1 := hf.lo
  have f2 := hf.hi
  have f3 := hf.odd
  have f4 := hf.le31
  rw [hr.len] at f1 f2
  rw [hs.len] at f3 f4
  have HR := Lib.hid hr
  have HS := Lib.hid hs
  have HO := Lib.hid f3
  clear hu hv hf hr hs f3
  have m2 : 0 ≤ (m : Int) / 2 := by omega
  have m3 : (m : Int) / 2 ≤ 15 := by omega
  go_enter Try.func64, Try.ntmps64
  go_wp2
  generalize hW : (m : Int) / 2 = W2 at *
  have HW := Lib.hid hW
  clear hW
  go_loopw [7, 8, 9, 10] (fun v i _ _ wr => ∃ k : Nat, k ≤ n ∧ i = .int .i64 k ∧ OwnI w.heap.size wr v (pickTo xs ys m k) ∧ Ext w wr) (fun _ i _ _ _ => n - (intOf i).toNat)
  case atStart => exact ⟨0, by omega, rfl, OwnI.nil _ _, Ext.refl _⟩
  case round =>
    obtain ⟨k, hk, rfl, hown, hx⟩ := hrel
    by_cases hlt : k < n
    · obtain ⟨b, o, rfl, hb, hc⟩ := HR.out.at_ k hlt
      have hc' := hx.cell_some hc
      have HX := Lib.hid hx
      have HOW := Lib.hid hown
      clear hc hx hown
      go_wp2
      obtain ⟨wo, hwo⟩ : ∃ wo : World, wo = wr := ⟨_, rfl⟩
      have HWO := Lib.hid hwo
      clear hwo
      have HX := Lib.hid (show Ext w wo by rw [HWO.out]; exact HX.out)
      have HOW := Lib.hid (show OwnI w.heap.size wo _ (pickTo xs ys m k) by rw [HWO.out]; exact HOW.out)
      have HM := Lib.hid (show (m : Int) = 2 * W2 + 1 by have := HW.out; have := HO.out; omega)
      go_loopw [9, 10] (fun x j W => ∃ (q : Nat) (jj : Int), q ≤ m ∧ j = .int .i64 jj ∧ Hid (jj = (q : Int) - W2) ∧ -W2 ≤ jj ∧ jj ≤ m - W2 ∧ x = .int .i64 (accR xs ys m k (xs[k]?.getD 0) q) ∧ Ext wo W) (fun _ j _ => ((m : Int) - W2 - intOf j).toNat)
      case atStart => exact ⟨0, -W2, by omega, rfl, Lib.hid (by omega), by omega, by omega, rfl, by rw [HWO.out]; exact Ext.refl _⟩
      case round =>
        clear hc'
        obtain ⟨q, jj, hq, rfl, HJ, hj1, hj2, rfl, hxi⟩ := hrel
        have HXI := Lib.hid hxi
        clear hxi
        obtain ⟨ac, hac⟩ : ∃ ac : Int, accR xs ys m k (xs[k]?.getD 0) q = ac := ⟨_, rfl⟩
        have hac0 : 0 ≤ ac := by rw [← hac]; exact Int.le_trans (HF.out.hx k).1 (accR_ge q)
        have hac1 : ac ≤ 10000 := by rw [← hac]; exact accR_le (HF.out.hx k).2 HF.out.hx HF.out.hy q
        rw [hac]
        have HAC := Lib.hid hac
        clear hac
        by_cases hlq : q < m
        · obtain ⟨i, hi, hin⟩ := emod_nat ((k : Int) + jj) (n := n) (by omega)
          obtain ⟨b', o', rfl, _, hc2⟩ := HS.out.at_ q hlq
          have hc2' := (HX.out.trans HXI.out).cell_some hc2
          have hc1' : wr.cell? ⟨b, o + i, none⟩ = some (.int .i64 (xs[i]?.getD 0)) := by
            obtain ⟨_, _, he, _, hc⟩ := HR.out.at_ i hin
            cases he
            exact (HX.out.trans HXI.out).cell_some hc
          have hwj : W2 + jj = (q : Int) := by have := HJ.out; omega
          have HWJ := Lib.hid (show jj ≤ W2 by have := HJ.out; have := HM.out; omega)
          have HA := Lib.hid fun W => refAround_any ((k : Int) + jj) n W (by omega) (by omega)
          rw [hi] at HA
          have HASK := Lib.hid (show askOf xs ys m k q = xs[i]?.getD 0 - ys[q]?.getD 0 by
            have h1 : ((k : Int) + (((min q m : Nat) : Int) - (m : Int) / 2)) = (k : Int) + jj := by
              have := HJ.out
              have := HW.out
              rw [Nat.min_eq_left (by omega)]
              omega
            rw [askOf, h1, HLX.out, hi]
            rfl)
          clear hi hc2
          have ⟨hx1, hx2⟩ := HF.out.hx i
          have ⟨hy1, hy2⟩ := HF.out.hy q
          generalize xs[i]?.getD 0 = xi at *
          generalize ys[q]?.getD 0 = yq at *
          have hjw := HWJ.out
          by_cases hmx : ac < xi - yq
          all_goals
            go_wp2
            go_quiet ((go_at_call 91; exact quiet_same (HA.out _)))
            go_wp2
            go_roundw
            case rel => exact ⟨q + 1, jj + 1, by omega, rfl, Lib.hid (by have := HJ.out; omega), by omega, by omega, by rw [accR_succ, HAC.out, HASK.out] <;> go_num, by first | exact HXI.out.drewN _ | exact HXI.out⟩
            case measure => simp [intOf]; omega
        · obtain rfl : q = m := by omega
          have hjw : ¬ jj ≤ W2 := by have := HJ.out; have := HM.out; omega
          have HBE := Lib.hid (show bestL xs ys q k (List.range q) = ac by
            have := accR_eq HF.out (k := k) (by rw [HLX.out]; exact hlt)
            rw [HLY.out] at this
            rw [← this, HAC.out])
          have HC := Lib.hid (cell_new0 wr (.int .i64 ac) 3)
          have HO1 := Lib.hid ((HOW.out.ext HXI.out).ext ((Ext.refl wr).alloc (.cells #[.int .i64 ac] 3)))
          have HB := Lib.hid (show w.heap.size ≤ (wr.alloc (.cells #[.int .i64 ac] 3)).heap.size from ((HX.out.trans HXI.out).alloc _).bel.size)
          have HZ := Lib.hid (show (pickTo xs ys q k).length ≤ 1000000000 by simp [pickTo]; omega)
          go_wp2_with (at_builtin; refine app_one rfl _ _ rfl _ _ _ rfl rfl HC.out HO1.out HB.out HZ.out ?_; intro v' w1 hown1 hb1)
          go_roundw
          case rel => exact ⟨k + 1, by omega, by go_num, by rw [pickTo_succ, HBE.out]; exact hown1, ((HX.out.trans HXI.out).alloc _).below hb1 (Nat.le_refl _)⟩
          case measure => simp [intOf]; omega
    · obtain rfl : k = n := by omega
      go_wp2
      go_ret
      exact ⟨_, rfl, by rw [liftL, HLX.out, HLY.out]; exact hown, hx⟩
end Go.Proofs.Ytaaceadcnnfngaa
