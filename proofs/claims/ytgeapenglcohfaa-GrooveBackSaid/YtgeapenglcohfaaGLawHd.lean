/- GrooveHidden: the law's walk. Condition: the lists read. -/
import Derived.Test.YtgeapenglcohfaaGHidX
namespace Go.Proofs.Ytgeapenglcohfaa
open Go.RowKit

theorem chain_rng {most : Int} : ∀ {cs : List Int} {last h : Int}, chainB most last (cs ++ [h]) = true → ∀ x ∈ cs, -20 ≤ x ∧ x ≤ 20
  | [], _, _, _, x, hx => by cases hx
  | c :: cs, last, h, hc, x, hx => by
    rw [List.cons_append] at hc
    unfold chainB at hc
    simp only [Bool.and_eq_true, inB_iff] at hc
    rcases List.mem_cons.1 hx with rfl | hx
    · exact hc.1.1.1
    · exact chain_rng hc.2 x hx
theorem isI_shape {w : World} {v : Value} {zs : List Int} {m : Nat} (h : IsI w v zs) (hm : zs.length = m) : ∃ A c, v = .slice A m c := by
  obtain ⟨A, c, rfl, _⟩ := h
  exact ⟨A, c, by rw [hm]⟩

set_option maxRecDepth 100000 in
set_option maxHeartbeats 8000000 in
theorem lawHidden_any (v : Value) (made : List Int) (left most : Int) (u : Value) (other : List Int) (w : World) (hI : IsI w v made) (hJ : IsI w u other) :
    Calls Try.prog 12 #[v, .int .i64 left, .int .i64 most, u] w fun e w' => e = .returned (.bool true) ∧ Ext w w' := by
  have HAL := Lib.hid fun W : World => alive_any W
  have HH := Lib.hid fun (W : World) (x : Ext w W) => hide_any v made left most W (hI.ext x)
  have HI := Lib.hid fun (W : World) (x : Ext w W) => hI.ext x
  have HJ := Lib.hid fun (W : World) (x : Ext w W) => hJ.ext x
  obtain ⟨A, n, c, rfl, hc0, hr, hn⟩ := hI.open_
  obtain ⟨A', n', c', rfl, -, hr', hn'⟩ := hJ.open_
  have HN := Lib.hid hr.len
  have HN' := Lib.hid hr'.len
  have HR := Lib.hid hr
  clear hI hJ hr hr' hc0
  by_cases hbad : 80 < n ∨ 80 < n'
  · have hp : (80 < n) ∨ (¬ 80 < n ∧ 80 < n') := by omega
    clear hbad
    rcases hp with h1 | ⟨h1, h2⟩
    case' inl => have d1 : decide ((80 : Int) < (n : Int)) = true := by simp; omega
    case' inr => have d1 : decide ((80 : Int) < (n : Int)) = false := by simp; omega
    case' inr => have d2 : decide ((80 : Int) < (n' : Int)) = true := by simp; omega
    all_goals
      (try clear h1)
      (try clear h2)
      go_enter Try.func12, Try.ntmps12
      go_wp2_with fail
      refine (HAL.out _).mono ?_
      rintro e1 W1 ⟨rfl, x1⟩
      have X1 := Lib.hid (show Ext w W1 from Ext.trans (by (repeat' (first | with_reducible exact Ext.refl _ | with_reducible apply Ext.alloc | with_reducible apply Ext.drew | with_reducible apply Ext.drewN | with_reducible refine Ext.setCell ?_ ?_ _ | with_reducible apply Ext.step | with_reducible assumption | with_reducible exact Nat.le_refl _ | (simp; done) | (simp; omega)))) x1)
      clear x1
      go_wp2_with fail
      go_ret
      exact ⟨rfl, X1.out⟩
  have d1 : decide ((80 : Int) < (n : Int)) = false := by simp; omega
  have d2 : decide ((80 : Int) < (n' : Int)) = false := by simp; omega
  rcases hide_cases made left most with hA | ⟨e0, e6, eO⟩
  case inr =>
    rw [eO] at HH
    generalize hideE made left most = E at *
    have g0 : (E == (0 : Int)) = false := by simpa using e0
    have g6 : (E == (6 : Int)) = false := by simpa using e6
    clear hbad e0 e6 eO
    go_enter Try.func12, Try.ntmps12
    go_wp2_with fail
    refine (HAL.out _).mono ?_
    rintro e1 W1 ⟨rfl, x1⟩
    have X1 := Lib.hid (show Ext w W1 from Ext.trans (by (repeat' (first | with_reducible exact Ext.refl _ | with_reducible apply Ext.alloc | with_reducible apply Ext.drew | with_reducible apply Ext.drewN | with_reducible refine Ext.setCell ?_ ?_ _ | with_reducible apply Ext.step | with_reducible assumption | with_reducible exact Nat.le_refl _ | (simp; done) | (simp; omega)))) x1)
    clear x1
    go_wp2_with fail
    refine (HH.out _ X1.out).mono ?_
    rintro e2 W2 ⟨v2, rfl, i2, x2⟩
    obtain ⟨A2, c2, rfl⟩ := isI_shape (m := 0) i2 rfl
    have X2 := Lib.hid (X1.out.trans x2)
    clear x2 i2
    go_wp2_with fail
    go_ret
    exact ⟨rfl, X2.out⟩
  have HE := Lib.hid (hideE_ok hA)
  have HO := Lib.hid (hideO_ok hA)
  have HF := Lib.hid (hide_found hA)
  obtain ⟨L, rfl⟩ : ∃ L : Nat, left = L := ⟨left.toNat, by have := hA.left; omega⟩
  obtain ⟨hl1, hl2⟩ := hA.left
  obtain ⟨hm1, hm2⟩ := hA.most
  have h1 : 1 ≤ n := by rw [← HN.out]; exact hA.len.1
  have h60 : n ≤ 60 := by rw [← HN.out]; exact hA.len.2
  cases hs : (hideRes made L most).isSome with
  | false =>
    have hE : hideE made L most = 6 := by rw [HE.out, hs]; rfl
    have hO : hideO made L most = [] := by
      rw [HO.out]
      rw [Option.isSome_eq_false_iff, Option.isNone_iff_eq_none] at hs
      rw [hs]
      rfl
    have hd : ¬ max (lastL made - headL made) (headL made - lastL made) ≤ most * (L + 1) := fun h => by rw [HF.out.2 h] at hs; cases hs
    rw [hE, hO] at HH
    obtain ⟨⟨bh1, bh2⟩, bl1, bl2⟩ := hA.ends
    obtain ⟨b0, o0, hA0, hb0, cl⟩ := HR.out.at_ (n - 1) (by omega)
    obtain ⟨b1, o1, hA1, hb1, ch⟩ := HR.out.at_ 0 (by omega)
    subst hA0
    cases hA1
    rw [show made[n - 1]?.getD 0 = lastL made by unfold lastL; rw [HN.out]] at cl
    rw [show made[0]?.getD 0 = headL made from rfl] at ch
    generalize headL made = mh at *
    generalize lastL made = ml at *
    have hp : (mh - ml ≥ ml - mh ∧ most * (L + 1) < mh - ml) ∨ (mh - ml < ml - mh ∧ most * (L + 1) < ml - mh) := by omega
    have hb3 : 0 ≤ most * ((L : Int) + 1) := Int.mul_nonneg hm1 (by omega)
    have hb4 : most * ((L : Int) + 1) ≤ 20 * 61 := Int.mul_le_mul hm2 (by omega) (by omega) (by omega)
    have hw0 : IntKind.i64.wrap (mh - ml) = mh - ml := by apply IntWalk.i64_in <;> omega
    have hw1 : IntKind.i64.wrap ((n : Int) - 1) = (n : Int) - 1 := by apply IntWalk.i64_in <;> omega
    have hw2 : IntKind.i64.wrap ((L : Int) + 1) = (L : Int) + 1 := by apply IntWalk.i64_in <;> omega
    have hw3 : IntKind.i64.wrap (most * ((L : Int) + 1)) = most * ((L : Int) + 1) := by apply IntWalk.i64_in <;> omega
    have hw4 : IntKind.i64.wrap (-(mh - ml)) = -(mh - ml) := by apply IntWalk.i64_in <;> omega
    have hnat : ((n - 1 : Nat) : Int) = (n : Int) - 1 := by omega
    have hg1 : (0 : Int) ≤ (n : Int) - 1 := by omega
    have hg2 : (n : Int) - 1 < (n : Int) := by omega
    have hg3 : (0 : Int) < (n : Int) := by omega
    have hg7 : 0 < n := by omega
    rw [Nat.add_zero] at ch
    have hg4 : ((n : Int) == 0) = false := by simp; omega
    have hg5 : decide ((L : Int) < 0) = false := decide_eq_false (by omega)
    have hg6 : decide (most < 0) = false := by simp; omega
    have hmx : decide (most * ((L : Int) + 1) < max (mh - ml) (-(mh - ml))) = true := by simp only [decide_eq_true_eq]; omega
    have HMX := Lib.hid (And.intro hp (And.intro hb3 hb4))
    clear HE HO HF hA hd hE hO hs hbad hp hb3 hb4
    go_enter Try.func12, Try.ntmps12
    go_wp2_with fail
    refine (HAL.out _).mono ?_
    rintro e1 W1 ⟨rfl, x1⟩
    have X1 := Lib.hid (show Ext w W1 from Ext.trans (by (repeat' (first | with_reducible exact Ext.refl _ | with_reducible apply Ext.alloc | with_reducible apply Ext.drew | with_reducible apply Ext.drewN | with_reducible refine Ext.setCell ?_ ?_ _ | with_reducible apply Ext.step | with_reducible assumption | with_reducible exact Nat.le_refl _ | (simp; done) | (simp; omega)))) x1)
    clear x1
    go_wp2_with fail
    refine (HH.out _ X1.out).mono ?_
    rintro e2 W2 ⟨v2, rfl, i2, x2⟩
    obtain ⟨A2, c2, rfl⟩ := isI_shape (m := 0) i2 rfl
    have X2 := Lib.hid (X1.out.trans x2)
    replace cl := X2.out.cell_some cl
    replace ch := X2.out.cell_some ch
    have lcl := cell_lt cl
    clear x2 i2 hb0 hb1
    go_wp2_with fail
    refine wp_region_bext (by kernel_rfl) (by kernel_rfl) ?_
    repeat (any_goals (go_big_quiet_step (fail)))
    all_goals refine wpQuiet_nil ?_
    all_goals rintro _ ⟨δ, rfl⟩
    have X3 := Lib.hid (X2.out.trans ⟨δ, rfl⟩)
    go_wp2_with fail
    all_goals
      go_ret
      refine ⟨ret_b ?_, X3.out⟩
      have h := HMX.out
      simp only [decide_eq_true_eq]
      omega
  | true =>
    have hE : hideE made L most = 0 := by rw [HE.out, hs]; rfl
    obtain ⟨b1, b2, b3⟩ := hide_best hA hs
    rw [hE] at HH
    rw [Int.toNat_natCast] at b1 b3
    generalize hideO made L most = O at *
    have HOL := Lib.hid b1
    have HRG := Lib.hid (chain_rng b2)
    have HMN := Lib.hid b3
    have H1 := Lib.hid fun (W : World) (x : Ext w W) (v' : Value) (h : IsI W v' O) => hidden_any (.slice A n c) v' made O most W (HI.out W x) h (by omega) hA.most hA.len.1 hA.rng
    have H2 := Lib.hid fun (W : World) (x : Ext w W) => hidden_any (.slice A n c) (.slice A' n' c') made other most W (HI.out W x) (HJ.out W x) (by rw [HN'.out]; omega) hA.most hA.len.1 hA.rng
    rw [b2] at H1
    have HW1 := Lib.hid fun (W : World) (v' : Value) (h : IsI W v' O) => weigh_any v' O W h (by omega) (fun x hx => by have := HRG.out x hx; omega)
    have hg4 : ((n : Int) == 0) = false := by simp; omega
    clear HE HO HF hE hs hbad b1 b2 b3 hA
    by_cases hlo : n' = L
    case neg =>
      have hlb : ((n' : Int) != (L : Int)) = true := by simp; omega
      clear hlo
      go_enter Try.func12, Try.ntmps12
      go_wp2_with fail
      refine (HAL.out _).mono ?_
      rintro e1 W1 ⟨rfl, x1⟩
      have X1 := Lib.hid (show Ext w W1 from Ext.trans (by (repeat' (first | with_reducible exact Ext.refl _ | with_reducible apply Ext.alloc | with_reducible apply Ext.drew | with_reducible apply Ext.drewN | with_reducible refine Ext.setCell ?_ ?_ _ | with_reducible apply Ext.step | with_reducible assumption | with_reducible exact Nat.le_refl _ | (simp; done) | (simp; omega)))) x1)
      clear x1
      go_wp2_with fail
      refine (HH.out _ X1.out).mono ?_
      rintro e2 W2 ⟨v2, rfl, i2, x2⟩
      obtain ⟨A2, c2, rfl⟩ := isI_shape i2 HOL.out
      have X2 := Lib.hid (X1.out.trans x2)
      have HI2 := Lib.hid i2
      clear x2 i2
      go_wp2_with fail
      refine (H1.out _ X2.out _ HI2.out).mono ?_
      rintro e3 W3 ⟨rfl, x3⟩
      have X3 := Lib.hid (X2.out.trans x3)
      clear x3
      go_wp2_with fail
      go_ret
      exact ⟨rfl, X3.out⟩
    subst hlo
    cases hco : chainB most (lastL made) (other ++ [headL made]) with
    | false =>
      rw [hco] at H2
      clear hco
      go_enter Try.func12, Try.ntmps12
      go_wp2_with fail
      refine (HAL.out _).mono ?_
      rintro e1 W1 ⟨rfl, x1⟩
      have X1 := Lib.hid (show Ext w W1 from Ext.trans (by (repeat' (first | with_reducible exact Ext.refl _ | with_reducible apply Ext.alloc | with_reducible apply Ext.drew | with_reducible apply Ext.drewN | with_reducible refine Ext.setCell ?_ ?_ _ | with_reducible apply Ext.step | with_reducible assumption | with_reducible exact Nat.le_refl _ | (simp; done) | (simp; omega)))) x1)
      clear x1
      go_wp2_with fail
      refine (HH.out _ X1.out).mono ?_
      rintro e2 W2 ⟨v2, rfl, i2, x2⟩
      obtain ⟨A2, c2, rfl⟩ := isI_shape i2 HOL.out
      have X2 := Lib.hid (X1.out.trans x2)
      have HI2 := Lib.hid i2
      clear x2 i2
      go_wp2_with fail
      refine (H1.out _ X2.out _ HI2.out).mono ?_
      rintro e3 W3 ⟨rfl, x3⟩
      have X3 := Lib.hid (X2.out.trans x3)
      clear x3
      go_wp2_with fail
      refine (H2.out _ X3.out).mono ?_
      rintro e4 W4 ⟨rfl, x4⟩
      have X4 := Lib.hid (X3.out.trans x4)
      clear x4
      go_wp2_with fail
      go_ret
      exact ⟨rfl, X4.out⟩
    | true =>
      have hle := HMN.out other HN'.out hco
      rw [hco] at H2
      have HRO := Lib.hid (chain_rng hco)
      have HW2 := Lib.hid fun (W : World) (x : Ext w W) => weigh_any (.slice A' n' c') other W (HJ.out W x) (by rw [HN'.out]; omega) (fun x hx => by have := HRO.out x hx; omega)
      rw [← (weigh_eq O).1, ← (weigh_eq O).2, ← (weigh_eq other).1, ← (weigh_eq other).2] at hle
      generalize weighN O = wa at *
      generalize weighS O = wb at *
      generalize weighN other = wc at *
      generalize weighS other = wd at *
      clear hco
      unfold leC at hle
      simp only at hle
      rcases hle with hl | ⟨hl, hl'⟩
      case' inl => have q1 : decide (wa < wc) = true := decide_eq_true hl
      case' inr => subst hl
      case' inr => have q1 : decide (wa < wa) = false := by simp
      case' inr => have q2 : decide (wb ≤ wd) = true := decide_eq_true hl'
      all_goals
        (try clear hl)
        (try clear hl')
        go_enter Try.func12, Try.ntmps12
        go_wp2_with fail
        refine (HAL.out _).mono ?_
        rintro e1 W1 ⟨rfl, x1⟩
        have X1 := Lib.hid (show Ext w W1 from Ext.trans (by (repeat' (first | with_reducible exact Ext.refl _ | with_reducible apply Ext.alloc | with_reducible apply Ext.drew | with_reducible apply Ext.drewN | with_reducible refine Ext.setCell ?_ ?_ _ | with_reducible apply Ext.step | with_reducible assumption | with_reducible exact Nat.le_refl _ | (simp; done) | (simp; omega)))) x1)
        clear x1
        go_wp2_with fail
        refine (HH.out _ X1.out).mono ?_
        rintro e2 W2 ⟨v2, rfl, i2, x2⟩
        obtain ⟨A2, c2, rfl⟩ := isI_shape i2 HOL.out
        have X2 := Lib.hid (X1.out.trans x2)
        have HI2 := Lib.hid i2
        clear x2 i2
        go_wp2_with fail
        refine (H1.out _ X2.out _ HI2.out).mono ?_
        rintro e3 W3 ⟨rfl, x3⟩
        have X3 := Lib.hid (X2.out.trans x3)
        have HI3 := Lib.hid (HI2.out.ext x3)
        clear x3
        go_wp2_with fail
        refine (H2.out _ X3.out).mono ?_
        rintro e4 W4 ⟨rfl, x4⟩
        have X4 := Lib.hid (X3.out.trans x4)
        have HI4 := Lib.hid (HI3.out.ext x4)
        clear x4
        go_wp2_with fail
        refine (HW1.out _ _ HI4.out).mono ?_
        rintro e5 W5 ⟨rfl, rfl⟩
        go_wp2_with fail
        refine (HW2.out _ X4.out).mono ?_
        rintro e6 W6 ⟨rfl, rfl⟩
        go_wp2_with fail
        go_ret
        exact ⟨rfl, X4.out⟩
end Go.Proofs.Ytgeapenglcohfaa
