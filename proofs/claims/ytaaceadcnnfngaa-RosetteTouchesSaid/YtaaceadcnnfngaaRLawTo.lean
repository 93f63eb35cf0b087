/- RosetteTouches: the law's walk. Condition: slices read as lists. -/
import Derived.Test.YtaaceadcnnfngaaRBoth
import Derived.Test.YtaaceadcnnfngaaRRef
import Derived.Test.YtaaceadcnnfngaaRLawC
import Derived.Test.YtaaceadcnnfngaaRNee
namespace Go.Proofs.Ytaaceadcnnfngaa
section
/- RBothF: barleycornref03.Both. Condition: slices read as lists. -/
open Go.RowKit

def bothTo (b c : List Int) (k : Nat) : List Int := (List.range k).map fun k => minTo b c k b.length
theorem bothTo_succ (b c : List Int) (k : Nat) : bothTo b c (k + 1) = bothTo b c k ++ [minTo b c k b.length] := by simp [bothTo, List.range_succ]
theorem minTo_succ (b c : List Int) (k i : Nat) : minTo b c k (i + 1) = if i ≤ k ∧ k - i < c.length then min (minTo b c k i) (b[i]?.getD 0 + c[k - i]?.getD 0) else minTo b c k i := rfl
theorem minTo_hts {b c : List Int} (hb : Hts b) (hc : Hts c) (k : Nat) : ∀ n, 0 ≤ minTo b c k n ∧ minTo b c k n ≤ 10000
  | 0 => by simp [minTo]
  | n + 1 => by
    have := minTo_hts hb hc k n
    have := (hb n).1
    have := (hc (k - n)).1
    unfold minTo
    split <;> omega

set_option maxRecDepth 100000 in
set_option maxHeartbeats 2000000 in
theorem refBoth_bad (u v : Value) (xs ys : List Int) (w : World) (hu : IsI w u xs) (hv : IsI w v ys) (hg : ¬ bothEr xs ys = 0) :
    Calls Try.prog 57 #[u, v] w (RetOE w (bothR xs ys) (bothEr xs ys)) := by
  have HL := Lib.hid (show bothR xs ys = [] by rw [bothR, if_neg hg])
  have HRU := Lib.hid (refCheckRubber_any u xs 31 w hu)
  have HRV := Lib.hid (refCheckRubber_any v ys 31 w hv)
  obtain ⟨A, n, c, rfl, hc0, hr, hn⟩ := hu.open_
  obtain ⟨A', m, c', rfl, hd0, hs, hm⟩ := hv.open_
  have hl1 := hr.len
  have hl2 := hs.len
  clear hc0 hd0 hr hs hu hv
  cases h1 : rubberB xs 31
  · have HE := Lib.hid (show bothEr xs ys = 31 by rw [bothEr, h1]; rfl)
    rw [rubberE, h1] at HRU
    clear h1 hg hl1 hl2
    go_enter Try.func57, Try.ntmps57
    go_wp2_with (go_at_call 30; refine HRU.out.mono ?_; rintro e w' ⟨rfl, rfl⟩)
    go_ret2
    exact ⟨_, by rw [HE.out] <;> rfl, by rw [HL.out]; exact OwnI.nil _ _, Ext.refl _⟩
  · cases h2 : rubberB ys 31
    · have HE := Lib.hid (show bothEr xs ys = 31 by rw [bothEr, h1, h2]; rfl)
      rw [rubberE, h1] at HRU
      rw [rubberE, h2] at HRV
      clear h1 h2 hg hl1 hl2
      go_enter Try.func57, Try.ntmps57
      go_wp2_with fail
      refine HRU.out.mono ?_
      rintro e _ ⟨rfl, rfl⟩
      go_wp2_with fail
      refine HRV.out.mono ?_
      rintro e _ ⟨rfl, rfl⟩
      go_wp2_with fail
      go_ret2
      exact ⟨_, by rw [HE.out] <;> rfl, by rw [HL.out]; exact OwnI.nil _ _, Ext.refl _⟩
    · have h3 : ¬ xs.length + ys.length ≤ 32 := fun h => hg (by rw [bothEr, h1, h2, if_pos (show (true && true) = true from rfl), if_pos h])
      have HE := Lib.hid (show bothEr xs ys = 4 by rw [bothEr, h1, h2, if_pos (show (true && true) = true from rfl), if_neg h3])
      rw [rubberE, h1] at HRU
      rw [rubberE, h2] at HRV
      simp only [rubberB, Bool.and_eq_true, decide_eq_true_eq] at h1 h2
      have hn31 : n ≤ 31 := by rw [← hl1]; exact h1.1.1.2
      have hm31 : m ≤ 31 := by rw [← hl2]; exact h2.1.1.2
      have hd : decide ((31 : Int) < (n : Int) + (m : Int) - 1) = true := by simp; omega
      clear h1 h2 h3 hg hl1 hl2
      go_enter Try.func57, Try.ntmps57
      go_wp2_with fail
      refine HRU.out.mono ?_
      rintro e _ ⟨rfl, rfl⟩
      go_wp2_with fail
      refine HRV.out.mono ?_
      rintro e _ ⟨rfl, rfl⟩
      go_wp2_with fail
      go_ret2
      exact ⟨_, by rw [HE.out] <;> rfl, by rw [HL.out]; exact OwnI.nil _ _, Ext.refl _⟩
set_option maxRecDepth 100000 in
set_option maxHeartbeats 2000000 in
theorem refBoth_good (u v : Value) (xs ys : List Int) (w : World) (hu : IsI w u xs) (hv : IsI w v ys) (hg : bothEr xs ys = 0) :
    Calls Try.prog 57 #[u, v] w (RetOE w (bothL xs ys) 0) := by
  obtain ⟨h1, h2, h3⟩ := bothEr_zero hg
  have HRU := Lib.hid (refCheckRubber_any u xs 31 w hu)
  have HRV := Lib.hid (refCheckRubber_any v ys 31 w hv)
  rw [rubberE, h1] at HRU
  rw [rubberE, h2] at HRV
  simp only [rubberB, Bool.and_eq_true, decide_eq_true_eq] at h1 h2
  obtain ⟨⟨⟨⟨a1, _⟩, a2⟩, a3⟩, _⟩ := h1
  obtain ⟨⟨⟨⟨b1, _⟩, b2⟩, b3⟩, _⟩ := h2
  obtain ⟨A, n, c, rfl, hc0, hr, hn⟩ := hu.open_
  obtain ⟨A', m, c', rfl, hd0, hs, hm⟩ := hv.open_
  have HN := Lib.hid hr.len
  have HM := Lib.hid hs.len
  have HR := Lib.hid hr
  have HS := Lib.hid hs
  have HA3 := Lib.hid (hts_of_all.1 a3)
  have HB3 := Lib.hid (hts_of_all.1 b3)
  rw [hr.len] at a1 a2 h3
  rw [hs.len] at b1 b2 h3
  obtain ⟨p, hp⟩ : ∃ p, n + m - 1 = p := ⟨_, rfl⟩
  have hpi : (n : Int) + (m : Int) - 1 = (p : Int) := by omega
  have hp1 : 1 ≤ p := by omega
  have hp2 : p ≤ 31 := by omega
  have hd : decide ((31 : Int) < (p : Int)) = false := by simp; omega
  clear hc0 hd0 hr hs hu hv hg a3 b3
  go_enter Try.func57, Try.ntmps57
  go_wp2_with fail
  refine HRU.out.mono ?_
  rintro e _ ⟨rfl, rfl⟩
  go_wp2_with fail
  refine HRV.out.mono ?_
  rintro e _ ⟨rfl, rfl⟩
  go_wp2_with fail
  go_loopw [6, 7, 8, 9] (fun v i _ _ wr => ∃ k : Nat, k ≤ p ∧ i = .int .i64 k ∧ OwnI w.heap.size wr v (bothTo xs ys k) ∧ Ext w wr) (fun _ i _ _ _ => p - (intOf i).toNat)
  case atStart => exact ⟨0, by omega, rfl, OwnI.nil _ _, Ext.refl _⟩
  case round =>
    obtain ⟨k, hk, rfl, ho, hx⟩ := hrel
    have HX := Lib.hid hx
    have HO := Lib.hid ho
    clear ho hx
    by_cases hlt : k < p
    · go_wp2_with fail
      obtain ⟨wo, hwo⟩ : ∃ wo : World, wo = wr := ⟨_, rfl⟩
      have HWO := Lib.hid hwo
      clear hwo
      have HXO := Lib.hid (show Ext w wo by rw [HWO.out]; exact HX.out)
      have HOO := Lib.hid (show OwnI w.heap.size wo _ (bothTo xs ys k) by rw [HWO.out]; exact HO.out)
      go_loopw [8, 9] (fun x j W => ∃ q : Nat, q ≤ n ∧ j = .int .i64 q ∧ x = .int .i64 (minTo xs ys k q) ∧ Ext wo W) (fun _ j _ => n - (intOf j).toNat)
      case atStart => exact ⟨0, by omega, rfl, rfl, by rw [HWO.out]; exact Ext.refl _⟩
      case round =>
        obtain ⟨q, hq, rfl, rfl, hxi⟩ := hrel
        have HXI := Lib.hid (HXO.out.trans hxi)
        have HXJ := Lib.hid hxi
        clear hxi
        obtain ⟨ac0, ac1⟩ := minTo_hts HA3.out HB3.out k q
        have hst := minTo_succ xs ys k q
        obtain ⟨ac, hac⟩ : ∃ ac : Int, minTo xs ys k q = ac := ⟨_, rfl⟩
        rw [hac] at ac0 ac1 hst ⊢
        have HAC := Lib.hid hac
        clear hac
        by_cases hlq : q < n
        · have hW := refWithin_any ((k : Int) - (q : Int)) 0 ((m : Int) - 1)
          by_cases hin : q ≤ k ∧ k - q < m
          · rw [show inB 0 ((m : Int) - 1) ((k : Int) - (q : Int)) = true from inB_iff.2 (by omega)] at hW
            rw [if_pos (by rw [HM.out]; exact hin)] at hst
            obtain ⟨b', o', rfl, _, hc1⟩ := HR.out.at_ q hlq
            obtain ⟨b2', o2', rfl, _, hc2⟩ := HS.out.at_ (k - q) hin.2
            have hc1' := HXI.out.cell_some hc1
            have hc2' := HXI.out.cell_some hc2
            obtain ⟨hx1, hx2⟩ := HA3.out q
            obtain ⟨hy1, hy2⟩ := HB3.out (k - q)
            obtain ⟨s, hs⟩ : ∃ s, k - q = s := ⟨_, rfl⟩
            have hsi : (k : Int) - (q : Int) = (s : Int) := by omega
            have hsm : s < m := by omega
            rw [hs] at hst hc2' hy1 hy2
            rw [hsi] at hW
            have HW := Lib.hid hW
            have HST := Lib.hid hst
            obtain ⟨xa, hxa⟩ : ∃ xa, xs[q]?.getD 0 = xa := ⟨_, rfl⟩
            obtain ⟨ya, hya⟩ : ∃ ya, ys[s]?.getD 0 = ya := ⟨_, rfl⟩
            rw [hxa] at hx1 hx2 HST hc1'
            rw [hya] at hy1 hy2 HST hc2'
            clear hc1 hc2 hs hst hW hxa hya
            go_wp2_with fail
            refine (HW.out _).mono ?_
            rintro e _ ⟨rfl, rfl⟩
            go_wp2_with fail
            go_quiet (fail)
            go_wp2_with fail
            go_roundw
            case rel => exact ⟨q + 1, by omega, by go_num, by rw [HST.out], by first | exact HXJ.out.drewN _ | exact HXJ.out⟩
            case measure => simp [intOf]; omega
          · rw [show inB 0 ((m : Int) - 1) ((k : Int) - (q : Int)) = false from inB_false.2 (by omega)] at hW
            rw [if_neg (by rw [HM.out]; exact hin)] at hst
            have HW := Lib.hid hW
            have HST := Lib.hid hst
            clear hst hW
            go_wp2_with fail
            refine (HW.out _).mono ?_
            rintro e _ ⟨rfl, rfl⟩
            go_wp2_with fail
            go_roundw
            case rel => exact ⟨q + 1, by omega, by go_num, by rw [HST.out], HXJ.out⟩
            case measure => simp [intOf]; omega
        · obtain rfl : q = n := by omega
          have HC := Lib.hid (cell_new0 wr (.int .i64 ac) 3)
          have HO1 := Lib.hid ((HOO.out.ext HXJ.out).ext ((Ext.refl wr).alloc (.cells #[.int .i64 ac] 3)))
          have HB := Lib.hid (show w.heap.size ≤ (wr.alloc (.cells #[.int .i64 ac] 3)).heap.size from (HXI.out.alloc _).bel.size)
          have HZ := Lib.hid (show (bothTo xs ys k).length ≤ 1000000000 by simp [bothTo]; omega)
          clear hst
          go_wp2_with (at_builtin; refine app_one rfl _ _ rfl _ _ _ rfl rfl HC.out HO1.out HB.out HZ.out ?_; intro v' w1 hown1 hb1)
          go_roundw
          case rel => exact ⟨k + 1, by omega, by go_num, by rw [bothTo_succ, HN.out, HAC.out]; exact hown1, (HXI.out.alloc _).below hb1 (Nat.le_refl _)⟩
          case measure => simp [intOf]; omega
    · obtain rfl : k = p := by omega
      go_wp2_with fail
      go_ret2
      refine ⟨_, rfl, ?_, HX.out⟩
      rw [show bothL xs ys = bothTo xs ys k by rw [bothL, bothTo, HN.out, HM.out, hp]]
      exact HO.out
theorem refBoth_any (u v : Value) (xs ys : List Int) (w : World) (hu : IsI w u xs) (hv : IsI w v ys) :
    Calls Try.prog 57 #[u, v] w (RetOE w (bothR xs ys) (bothEr xs ys)) := by
  by_cases h : bothEr xs ys = 0
  · have := refBoth_good u v xs ys w hu hv h
    rwa [bothR, if_pos h, h]
  · exact refBoth_bad u v xs ys w hu hv h
end
open Go.RowKit

set_option maxRecDepth 100000 in
set_option maxHeartbeats 4000000 in
theorem lawTouches_any (u v t : Value) (xs ys zs : List Int) (x : Int) (w : World) (hu : IsI w u xs) (hv : IsI w v ys) (ht : IsI w t zs) :
    Calls Try.prog 15 #[u, v, t, .int .i64 x] w fun e w' => e = .returned (.bool true) ∧ Ext w w' := by
  have HU := Lib.hid hu
  have HV := Lib.hid hv
  have HT := Lib.hid ht
  obtain ⟨A, n, c, rfl, _⟩ := hu.open_
  obtain ⟨A', m, c', rfl, _⟩ := hv.open_
  obtain ⟨A2, m2, c2, rfl, _⟩ := ht.open_
  clear hu hv ht
  go_enter Try.func15, Try.ntmps15
  go_wp2_with fail
  refine lay_calls (fun W => Ext w W ∧ W.cell? ⟨w.heap.size, 0, none⟩ = some (.slice A n c) ∧ W.cell? ⟨w.heap.size, 1, none⟩ = some (.slice A' m c') ∧ W.cell? ⟨w.heap.size, 2, none⟩ = some (.slice A2 m2 c2)) ⟨by (repeat' (first | with_reducible exact Ext.refl _ | with_reducible apply Ext.alloc | with_reducible apply Ext.drew | with_reducible apply Ext.drewN | with_reducible refine Ext.setCell ?_ ?_ _ | with_reducible apply Ext.step | with_reducible assumption | with_reducible exact Nat.le_refl _ | (simp; done) | (simp; omega))), by go_cell, by go_cell, by go_cell⟩ ?_
  rintro w0 ⟨X0, h0, h1, h2⟩
  have HX0 := Lib.hid X0
  refine (great3_any _ _ _ _ _ xs ys zs w0 h0 h1 h2 (HU.out.ext X0) (HV.out.ext X0) (HT.out.ext X0)).mono ?_
  rintro e _ ⟨rfl, rfl⟩
  clear h0 h1 h2 X0
  cases hg : greatB3 xs ys zs
  rotate_left
  · go_wp2_with fail
    go_ret
    exact ⟨rfl, HX0.out⟩
  have hgl : xs.length ≤ 120 ∧ ys.length ≤ 120 ∧ zs.length ≤ 120 := by simp [greatB3] at hg; omega
  have HGL := Lib.hid hgl
  clear hgl hg
  have HMM := Lib.hid fun W : World => OwnI.made W.heap.size W 0 (Nat.le_refl _) #[] (by decide) rfl
  have HBB := Lib.hid fun W : World => show W.heap.size ≤ (W.alloc (.cells #[] 3)).heap.size by simp
  have HU0 := Lib.hid (HU.out.ext (HX0.out.alloc (.cells #[] 3)))
  have HX7 := Lib.hid fun (w7 : World) (b7 : Below w0.heap.size (w0.alloc (.cells #[] 3)) w7) => show Ext w w7 from (HX0.out.alloc _).below b7 HX0.out.bel.size
  have HV7 := Lib.hid fun (w7 : World) (b7 : Below w0.heap.size (w0.alloc (.cells #[] 3)) w7) => HV.out.ext ((HX7.out w7 b7).alloc (.cells #[] 3))
  have HZ0 := Lib.hid (show ([] : List Int).length + xs.length ≤ 10000000000 by have := HGL.out; rw [List.length_nil]; omega)
  have HZ1 := Lib.hid (show ([] : List Int).length + ys.length ≤ 10000000000 by have := HGL.out; rw [List.length_nil]; omega)
  go_wp2_with (first
    | (at_builtin; refine app_all rfl _ _ rfl rfl rfl HU0.out (HMM.out w0) (HBB.out w0) HZ0.out ?_; intro v7 w7 o7 b7)
    | (at_builtin; refine app_all rfl _ _ rfl rfl rfl (HV7.out w7 b7) (HMM.out w7) (HBB.out w7) HZ1.out ?_; intro v8 w8 o8 b8))
  have X7 := Lib.hid (HX7.out w7 b7)
  have O7 := Lib.hid (show OwnI w0.heap.size w7 v7 xs by simpa using o7)
  clear o7 b7 HMM HBB HU0 HX7 HV7 HZ0 HZ1
  have X8 := Lib.hid (show Ext w w8 from (X7.out.alloc _).below b8 X7.out.bel.size)
  have E78 := Lib.hid (show Ext w7 w8 from ((Ext.refl w7).alloc _).below b8 (Nat.le_refl _))
  have S8 := Lib.hid ((((Has.nil w8).snoc (O7.out.isI.ext E78.out)).snoc (show IsI w8 v8 ys from (show OwnI w7.heap.size w8 v8 ys by simpa using o8).isI)).snoc (HU.out.ext X8.out) |>.snoc (HV.out.ext X8.out) |>.snoc (HT.out.ext X8.out))
  have M8 := Lib.hid (Mine.nil w8.heap.size w8)
  have E8 := Lib.hid (Ext.refl w8)
  clear o8 b8
  refine (Contacts_any v7 v8 xs ys x w8 (S8.out.get 0 rfl) (S8.out.get 1 rfl)).mono ?_
  rintro e w9 ⟨v9, rfl, o9, x9⟩
  have S9 := Lib.hid ((S8.out.ext x9).snoc o9.isI)
  have M9 := Lib.hid (M8.out.ext x9)
  have E9 := Lib.hid (E8.out.trans x9)
  clear x9 o9 M8 E8
  go_wp2_with fail
  refine (refContacts_any _ _ xs ys x w9 (S9.out.get 2 rfl) (S9.out.get 3 rfl)).mono ?_
  rintro e w10 ⟨v10, rfl, o10, x10⟩
  have S10 := Lib.hid ((S9.out.ext x10).snoc o10.isI)
  have M10 := Lib.hid (M9.out.ext x10)
  have E10 := Lib.hid (E9.out.trans x10)
  clear x10 o10 S9 M9 E9
  go_wp2_with fail
  refine (Needed_any v7 v8 xs ys w10 (S10.out.get 0 rfl) (S10.out.get 1 rfl)).mono ?_
  rintro e w11 ⟨v11, rfl, o11, x11⟩
  have S11 := Lib.hid ((S10.out.ext x11).snoc o11.isI)
  have M11 := Lib.hid (M10.out.ext x11)
  have E11 := Lib.hid (E10.out.trans x11)
  clear x11 o11 S10 M10 E10
  go_wp2_with fail
  refine (refNeeded_any _ _ xs ys w11 (S11.out.get 2 rfl) (S11.out.get 3 rfl)).mono ?_
  rintro e w12 ⟨v12, rfl, o12, x12⟩
  have S12 := Lib.hid ((S11.out.ext x12).snoc o12.isI)
  have M12 := Lib.hid (M11.out.ext x12)
  have E12 := Lib.hid (E11.out.trans x12)
  clear x12 o12 S11 M11 E11
  go_wp2_with fail
  refine (Both_any v8 _ ys zs w12 (S12.out.get 1 rfl) (S12.out.get 4 rfl)).mono ?_
  rintro e w13 ⟨v13, rfl, o13, x13⟩
  have S13 := Lib.hid ((S12.out.ext x13).snoc o13.isI)
  have M13 := Lib.hid (M12.out.snoc E12.out.bel.size x13 o13)
  have E13 := Lib.hid (E12.out.trans x13)
  clear x13 o13 S12 M12 E12
  go_wp2_with fail
  refine (refBoth_any _ _ ys zs w13 (S13.out.get 3 rfl) (S13.out.get 4 rfl)).mono ?_
  rintro e w14 ⟨v14, rfl, o14, x14⟩
  have S14 := Lib.hid ((S13.out.ext x14).snoc o14.isI)
  have M14 := Lib.hid (M13.out.ext x14)
  have E14 := Lib.hid (E13.out.trans x14)
  clear x14 o14 S13 M13 E13
  go_wp2_with fail
  refine (same_true (S14.out.get 5 rfl) (S14.out.get 6 rfl)).mono ?_
  rintro e w15 ⟨rfl, x15⟩
  have S15 := Lib.hid (S14.out.ext x15)
  have M15 := Lib.hid (M14.out.ext x15)
  have E15 := Lib.hid (E14.out.trans x15)
  clear x15 S14 M14 E14
  go_wp2_with fail
  refine (same_true (S15.out.get 7 rfl) (S15.out.get 8 rfl)).mono ?_
  rintro e w16 ⟨rfl, x16⟩
  have S16 := Lib.hid (S15.out.ext x16)
  have M16 := Lib.hid (M15.out.ext x16)
  have E16 := Lib.hid (E15.out.trans x16)
  clear x16 S15 M15 E15
  go_wp2_with fail
  refine (same_true (S16.out.get 9 rfl) (S16.out.get 10 rfl)).mono ?_
  rintro e w17 ⟨rfl, x17⟩
  have S17 := Lib.hid (S16.out.ext x17)
  have M17 := Lib.hid (M16.out.ext x17)
  have E17 := Lib.hid (E16.out.trans x17)
  clear x17 S16 M16 E16
  go_wp2_with fail
  refine (Mine.erase E17.out M17.out).mono ?_
  rintro e w18 ⟨rfl, e18, m18⟩
  have E18 := Lib.hid e18
  clear e18 m18 M17 E17
  go_wp2_with fail
  refine (same_true ((S8.out.ext E18.out).get 0 rfl) ((S8.out.ext E18.out).get 2 rfl)).mono ?_
  rintro e w19 ⟨rfl, x19⟩
  have E19 := Lib.hid (E18.out.trans x19)
  clear x19 E18
  go_wp2_with fail
  refine (same_true ((S8.out.ext E19.out).get 1 rfl) ((S8.out.ext E19.out).get 3 rfl)).mono ?_
  rintro e w20 ⟨rfl, x20⟩
  have E20 := Lib.hid (E19.out.trans x20)
  clear x20 E19
  go_wp2_with fail
  go_ret
  exact ⟨rfl, X8.out.trans E20.out⟩
theorem lawTouches_row (u : Value) (xs : List Int) (v : Value) (ys : List Int) (t : Value) (zs : List Int) (x : Int) (w : World) (hu : IsI w u xs) (hv : IsI w v ys) (ht : IsI w t zs) :
    Calls Try.prog 15 #[u, v, t, .int .i64 x] w fun e w' => e = .returned (.bool true) ∧ Ext w w' := lawTouches_any u v t xs ys zs x w hu hv ht
end Go.Proofs.Ytaaceadcnnfngaa
