/- GrooveBack: the law's walk. Condition: the list reads. -/
import Derived.Test.YtgeapenglcohfaaGLawHd
namespace Go.Proofs.Ytgeapenglcohfaa
open Go.RowKit

theorem hideO_rng {made : List Int} {left most : Int} (h : HidArgs made left most) : (∀ x ∈ hideO made left most, -20 ≤ x ∧ x ≤ 20) ∧ (hideO made left most).length ≤ 60 := by
  cases hs : (hideRes made left most).isSome with
  | true =>
    obtain ⟨b1, b2, _⟩ := hide_best h hs
    exact ⟨chain_rng b2, by rw [b1]; have := h.left; omega⟩
  | false =>
    rw [hideO_ok h]
    rw [Option.isSome_eq_false_iff, Option.isNone_iff_eq_none] at hs
    rw [hs]
    exact ⟨fun x hx => (by cases hx), by simp⟩

set_option maxRecDepth 100000 in
set_option maxHeartbeats 8000000 in
theorem lawBack_any (v : Value) (made : List Int) (left most : Int) (w : World) (hI : IsI w v made) :
    Calls Try.prog 13 #[v, .int .i64 left, .int .i64 most] w fun e w' => e = .returned (.bool true) ∧ Ext w w' := by
  have HAL := Lib.hid fun W : World => alive_any W
  have HH := Lib.hid fun (W : World) (x : Ext w W) => hide_any v made left most W (hI.ext x)
  obtain ⟨A, n, c, rfl, hc0, hr, hn⟩ := hI.open_
  have HN := Lib.hid hr.len
  have HR := Lib.hid hr
  clear hI hr hc0
  by_cases hbad : 80 < n
  · have d1 : decide ((80 : Int) < (n : Int)) = true := by simp; omega
    clear hbad
    go_enter Try.func13, Try.ntmps13
    go_wp2_with fail
    refine (HAL.out _).mono ?_
    rintro e1 W1 ⟨rfl, x1⟩
    have X1 := Lib.hid (show Ext w W1 from Ext.trans (by (repeat' (first | with_reducible exact Ext.refl _ | with_reducible apply Ext.alloc | with_reducible apply Ext.drew | with_reducible apply Ext.drewN | with_reducible refine Ext.setCell ?_ ?_ _ | with_reducible apply Ext.step | with_reducible assumption | with_reducible exact Nat.le_refl _ | (simp; done) | (simp; omega)))) x1)
    clear x1
    go_wp2_with fail
    go_ret
    exact ⟨rfl, X1.out⟩
  have d1 : decide ((80 : Int) < (n : Int)) = false := by simp; omega
  rcases hide_cases made left most with hA | ⟨e0, e6, eO⟩
  case inr =>
    rw [eO] at HH
    generalize hideE made left most = E at *
    have g0 : (E != (0 : Int)) = true := by simpa using e0
    have g6 : (E != (6 : Int)) = true := by simpa using e6
    clear hbad e0 e6 eO
    go_enter Try.func13, Try.ntmps13
    go_wp2_with fail
    refine (HAL.out _).mono ?_
    rintro e1 W1 ⟨rfl, x1⟩
    have X1 := Lib.hid (show Ext w W1 from Ext.trans (by (repeat' (first | with_reducible exact Ext.refl _ | with_reducible apply Ext.alloc | with_reducible apply Ext.drew | with_reducible apply Ext.drewN | with_reducible refine Ext.setCell ?_ ?_ _ | with_reducible apply Ext.step | with_reducible assumption | with_reducible exact Nat.le_refl _ | (simp; done) | (simp; omega)))) x1)
    clear x1
    go_wp2_with fail
    refine (HH.out _ X1.out).mono ?_
    rintro e2 W2 ⟨v2, rfl, i2, x2⟩
    obtain ⟨A2, c2, rfl⟩ := isI_shape (m := 0) i2 rfl
    have X2 := Lib.hid (X1.out.trans x2)
    clear x2 i2
    go_wp2_with fail
    go_ret
    exact ⟨rfl, X2.out⟩
  have HA := Lib.hid hA
  obtain ⟨o1, o2⟩ := hideO_rng hA
  obtain ⟨p1, p2⟩ := hideO_rng hA.neg
  obtain ⟨q1, q2, q3⟩ := hide_back hA
  have HST := Lib.hid fun (h : ∀ x ∈ made, x = 0) => hide_still hA h
  have HE06 : hideE made left most = 0 ∨ hideE made left most = 6 := by rw [hideE_ok hA]; split <;> simp
  have HB := Lib.hid fun (W : World) (v' : Value) (h : IsI W v' (made.map (- ·))) => hide_any v' (made.map (- ·)) left most W h
  have HW1 := Lib.hid fun (W : World) (v' : Value) (h : IsI W v' (hideO made left most)) => weigh_any v' _ W h (by omega) (fun x hx => by have := o1 x hx; omega)
  have HW2 := Lib.hid fun (W : World) (v' : Value) (h : IsI W v' (hideO (made.map (- ·)) left most)) => weigh_any v' _ W h (by omega) (fun x hx => by have := p1 x hx; omega)
  rw [q1] at HB
  rw [q2, q3] at HW2
  generalize hideO (made.map (- ·)) left most = O' at *
  generalize hideO made left most = O at *
  generalize weighN O = wa at *
  generalize weighS O = wb at *
  generalize hideE made left most = E at *
  have HRG := Lib.hid hA.rng
  have hn60 : n ≤ 60 := by rw [← HN.out]; exact hA.len.2
  have g06 : ((E != (0 : Int)) = false) ∨ ((E != (0 : Int)) = true ∧ (E != (6 : Int)) = false) := by
    rcases HE06 with rfl | rfl
    · exact .inl rfl
    · exact .inr ⟨rfl, rfl⟩
  have HOS := Lib.hid o2
  clear hA o1 o2 p1 p2 q1 q2 q3 hbad HE06
  rcases g06 with g0 | ⟨g0, g6⟩
  all_goals
    go_enter Try.func13, Try.ntmps13
    go_wp2_with fail
    refine (HAL.out _).mono ?_
    rintro e1 W1 ⟨rfl, x1⟩
    have X1 := Lib.hid (show Ext w W1 from Ext.trans (by (repeat' (first | with_reducible exact Ext.refl _ | with_reducible apply Ext.alloc | with_reducible apply Ext.drew | with_reducible apply Ext.drewN | with_reducible refine Ext.setCell ?_ ?_ _ | with_reducible apply Ext.step | with_reducible assumption | with_reducible exact Nat.le_refl _ | (simp; done) | (simp; omega)))) x1)
    clear x1
    go_wp2_with fail
    refine (HH.out _ X1.out).mono ?_
    rintro e2 W2 ⟨v2, rfl, i2, x2⟩
    obtain ⟨A2, k2, c2, rfl⟩ : ∃ A k c, v2 = .slice A k c := by obtain ⟨A2, c2, h, _⟩ := i2; exact ⟨A2, _, c2, h⟩
    have HI2 := Lib.hid i2
    have X2 := Lib.hid (X1.out.trans x2)
    clear x2 i2
    go_wp2_with fail
    go_loopw [10, 11, 45] (fun bv sv iv wr => ∃ j : Nat, j ≤ n ∧ iv = .int .i64 (j : Int) ∧ sv = .bool ((made.take j).all (fun x => x == 0)) ∧ intK.Own W2.heap.size wr bv ((made.map (- ·)).take j) ∧ Ext W2 wr) (fun _ _ iv _ => n - (intOf iv).toNat)
    case atStart => exact ⟨0, by omega, rfl, rfl, EK.Own.nil _ _, Ext.refl _⟩
    case round =>
      obtain ⟨j, hj, rfl, rfl, hown, hx⟩ := hrel
      have HX := Lib.hid hx
      have HO := Lib.hid hown
      obtain ⟨Ao, no, co, rfl⟩ := own_shapeW hown
      by_cases hlt : j < n
      · have hjl : j < made.length := by rw [HN.out]; exact hlt
        obtain ⟨b, o, rfl, hb, hc⟩ := HR.out.at_ j hlt
        have hxr : -20 ≤ made[j]?.getD 0 ∧ made[j]?.getD 0 ≤ 20 := by rw [List.getElem?_eq_getElem hjl]; exact HRG.out _ (List.getElem_mem _)
        have HT1 := Lib.hid (show (made.map (- ·)).take (j + 1) = (made.map (- ·)).take j ++ [-(made[j]?.getD 0)] by
          rw [List.take_succ_eq_append_getElem (by simpa using hjl), List.getElem?_eq_getElem hjl]
          simp)
        have HT2 := Lib.hid (show (made.take (j + 1)).all (fun x => x == 0) = ((made.take j).all (fun x => x == 0) && (made[j]?.getD 0 == 0)) by
          rw [List.take_succ_eq_append_getElem hjl, List.getElem?_eq_getElem hjl, List.all_append]
          simp only [List.all_cons, List.all_nil, Bool.and_true, Option.getD_some])
        have HLN := Lib.hid (show ((made.map (- ·)).take j).length ≤ 1000000000 by rw [List.length_take]; omega)
        generalize made[j]?.getD 0 = x at *
        generalize (made.take j).all (fun x => x == 0) = sb at *
        replace hc := hx.cell_some (X2.out.cell_some hc)
        have lb := cell_lt hc
        have hji : (j : Int) < (n : Int) := by omega
        have hwn : IntKind.i64.wrap (-x) = -x := by apply IntWalk.i64_in <;> omega
        have hwr := hx.bel.size
        clear hx hown hb
        cases sb
        case' false => have hz : True := trivial
        case' true => rcases (show (x == 0) = true ∨ (x == 0) = false by cases (x == 0) <;> simp) with hz | hz
        all_goals
          go_wp2_with (at_builtin; refine EK.app (K := intK) (B := W2.heap.size) rfl (.tmp 49) (.tmp 52) rfl wr.heap.size 1 (-x) rfl rfl (fun ii u hu => cell_new hu) (HO.out.ext ((Ext.refl _).alloc _)) (by simp; omega) HLN.out ?_; intro v' w3 o3 b3 _; obtain ⟨Av, kv, cv, rfl⟩ := own_shapeW o3; have HO3 := Lib.hid o3; have HB3 := Lib.hid b3; clear o3 b3)
          go_roundw
          case rel => exact ⟨j + 1, by omega, by go_num, by rw [HT2.out]; simp_all, by rw [HT1.out]; exact HO3.out, (HX.out.alloc _).below HB3.out (Nat.le_refl _)⟩
          case measure => simp [intOf]; omega
      · obtain rfl : j = n := by omega
        have HAS := Lib.hid (show (made.take j).all (fun x => x == 0) = made.all (fun x => x == 0) by rw [List.take_of_length_le (by rw [HN.out]; exact Nat.le_refl _)])
        have HBK := Lib.hid (show IsI wr (.slice Ao no co) (made.map (- ·)) by
          have := (intK_own.1 hown).isI
          rwa [List.take_of_length_le (by rw [List.length_map, HN.out]; exact Nat.le_refl _)] at this)
        have XR := Lib.hid (X2.out.trans hx)
        have HI3 := Lib.hid (HI2.out.ext hx)
        rw [HAS.out]
        have HSS := Lib.hid (show made.all (fun x => x == 0) = true → wa = 0 ∧ E = 0 from fun h => HST.out fun x hx => by
          have := List.all_eq_true.1 h x hx
          simpa using this)
        generalize made.all (fun x => x == 0) = sb at *
        clear hx hown HAS
        go_wp2_with fail
        refine (HB.out _ _ HBK.out).mono ?_
        rintro e4 W4 ⟨v4, rfl, i4, x4⟩
        obtain ⟨A4, k4, c4, rfl⟩ : ∃ A k c, v4 = .slice A k c := by obtain ⟨A4, c4, h, _⟩ := i4; exact ⟨A4, _, c4, h⟩
        have HI4 := Lib.hid i4
        have HI5 := Lib.hid (HI3.out.ext x4)
        have X4 := Lib.hid (XR.out.trans x4)
        clear x4 i4
        go_wp2_with fail
        refine (HW1.out _ _ HI5.out).mono ?_
        rintro e5 W5 ⟨rfl, rfl⟩
        go_wp2_with fail
        refine (HW2.out _ _ HI4.out).mono ?_
        rintro e6 W6 ⟨rfl, rfl⟩
        cases sb
        case false =>
          go_wp2_with fail
          go_ret
          exact ⟨rfl, X4.out⟩
        case true =>
          obtain ⟨rfl, rfl⟩ := HSS.out rfl
          go_wp2_with fail
          all_goals
            go_ret
            exact ⟨rfl, X4.out⟩
end Go.Proofs.Ytgeapenglcohfaa
