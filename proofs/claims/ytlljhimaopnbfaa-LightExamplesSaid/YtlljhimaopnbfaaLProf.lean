/- light's profiles of cuts: profileOf, depth. Conditions: bounds. -/
import Derived.Test.YtlljhimaopnbfaaLCarP
import Derived.Test.YtlljhimaopnbfaaLBox
import Derived.Test.YtlljhimaopnbfaaLSame
import Derived.Laws.OwnMore
import Derived.Deep.OwnRows
namespace Go.Proofs.Ytlljhimaopnbfaa
open Go.RowKit

/-- A profile while its first i are laid. -/
def profTo (tip num den : Int) (high i : Nat) : List Int := (List.range high).map fun j => if j < i then farAt tip num den j else 0
theorem profTo_len {tip num den : Int} {high i : Nat} : (profTo tip num den high i).length = high := by simp [profTo]
theorem profTo_zero {tip num den : Int} {high : Nat} : profTo tip num den high 0 = List.replicate high 0 := by
  apply List.ext_getElem
  · simp [profTo]
  · intro i h1 h2
    simp [profTo]
theorem profTo_end {tip num den : Int} {high : Nat} : profTo tip num den high high = profL tip num den high := by
  apply List.ext_getElem
  · simp [profTo, profL]
  · intro i h1 h2
    have h3 : i < high := by simpa [profL] using h2
    simp [profTo, profL, h3]
theorem profTo_set {tip num den : Int} {high i : Nat} : (profTo tip num den high i).set i (farAt tip num den i) = profTo tip num den high (i + 1) := by
  apply List.ext_getElem
  · simp [profTo]
  · intro j h1 h2
    rw [List.getElem_set]
    simp only [profTo, List.getElem_map, List.getElem_range]
    split
    · rename_i h
      subst h
      rw [if_pos (by omega)]
    · split
      · rw [if_pos (by omega)]
      · rw [if_neg (by omega)]
theorem far_bd {tip num den : Int} {i : Nat} (h1 : 0 ≤ tip ∧ tip ≤ 100) (h2 : 1 ≤ num ∧ num ≤ 100) (h3 : 1 ≤ den ∧ den ≤ 100) (hi : i ≤ 100) : (0 ≤ tip * den ∧ tip * den ≤ 10000) ∧ (0 ≤ (i : Int) * num ∧ (i : Int) * num ≤ 10000) ∧ 0 ≤ farAt tip num den i ∧ farAt tip num den i ≤ 20000 := by
  have a := mul_bd h1.1 h1.2 (show 0 ≤ den by omega) h3.2
  have b := mul_bd (show (0 : Int) ≤ (i : Int) by omega) (show (i : Int) ≤ 100 by omega) (show 0 ≤ num by omega) h2.2
  unfold farAt
  omega

set_option maxRecDepth 100000 in
set_option maxHeartbeats 4000000 in
theorem profileOf_any (tip num den bite slack : Int) (N : Nat) (w : World) (h1 : 0 ≤ tip ∧ tip ≤ 100) (h2 : 1 ≤ num ∧ num ≤ 100) (h3 : 1 ≤ den ∧ den ≤ 100) (hN : N ≤ 100) :
    Calls Try.prog 85 #[.agg #[.int .i64 tip, .int .i64 num, .int .i64 den, .int .i64 bite, .int .i64 slack], .int .i64 N] w (RetE intK w (profL tip num den N)) := by
  have hmk : ∀ w : World, (Instr.makeSlice 142 (.int .i64 (N : Int)) (.int .i64 (N : Int))).run Try.prog w = .ok (.slice (some ⟨w.heap.size, 0, none⟩) N N) (w.alloc (.cells (madeCells #[.int .i64 0] N) 3)) := fun w =>
    run_make_row' (P := Try.prog) 142 3 (.int .i64 0) 8 Try.underlying142 intInfo rfl .i64 .i64 N (by omega) (by omega) w
  have HFB := Lib.hid fun (i : Nat) (hi : i ≤ 100) => far_bd h1 h2 h3 hi
  clear h1 h2 h3
  go_enter Try.func85, Try.ntmps85
  go_wp2_with fail
  have HZ := Lib.hid (show intK.Own (w.heap.size + 1) ((w.alloc (.cells #[.int .i64 tip, .int .i64 num, .int .i64 den, .int .i64 bite, .int .i64 slack] 75)).alloc (.cells (madeCells #[.int .i64 0] N) 3)) (.slice (some ⟨w.heap.size + 1, 0, none⟩) N N) (profTo tip num den N 0) from by
    rw [profTo_zero]
    have := own_zero (w.alloc (.cells #[.int .i64 tip, .int .i64 num, .int .i64 den, .int .i64 bite, .int .i64 slack] 75)) (w.heap.size + 1) N (by simp) (by omega)
    rwa [World.size_alloc] at this)
  refine lay_wp (fun W => Ext w W ∧ intK.Own (w.heap.size + 1) W (.slice (some ⟨w.heap.size + 1, 0, none⟩) N N) (profTo tip num den N 0) ∧ W.cell? ⟨w.heap.size, 0, none⟩ = some (.int .i64 tip) ∧ W.cell? ⟨w.heap.size, 1, none⟩ = some (.int .i64 num) ∧ W.cell? ⟨w.heap.size, 2, none⟩ = some (.int .i64 den)) ⟨by (repeat' (first | with_reducible exact Ext.refl _ | with_reducible apply Ext.alloc | with_reducible apply Ext.drew | with_reducible apply Ext.drewN | with_reducible refine Ext.setCell ?_ ?_ _ | with_reducible apply Ext.step | with_reducible assumption | with_reducible exact Nat.le_refl _ | (simp; done) | (simp; omega))), HZ.out, by go_cell, by go_cell, by go_cell⟩ ?_
  rintro W0 ⟨x0, o0, a0, a1, a2⟩
  have HX0 := Lib.hid x0
  have HO0 := Lib.hid o0
  have HA := Lib.hid (And.intro a0 (And.intro a1 a2))
  clear x0 o0 a0 a1 a2 hmk HZ
  go_loopw [11] (fun iv wr => ∃ i : Nat, i ≤ N ∧ iv = .int .i64 (i : Int) ∧ intK.Own (w.heap.size + 1) wr (.slice (some ⟨w.heap.size + 1, 0, none⟩) N N) (profTo tip num den N i) ∧ But [w.heap.size + 1] W0 wr) (fun iv _ => N - (intOf iv).toNat)
  case atStart => exact ⟨0, by omega, rfl, HO0.out, But.refl _ _⟩
  case round =>
    obtain ⟨i, hi, rfl, ho, hb⟩ := hrel
    have HO := Lib.hid ho
    have HB := Lib.hid hb
    by_cases hlt : i < N
    · have hii : (i : Int) < (N : Int) := by omega
      have a0 := hb.cell HA.out.1 (by simp)
      have a1 := hb.cell HA.out.2.1 (by simp)
      have a2 := hb.cell HA.out.2.2 (by simp)
      have la := cell_lt a0
      obtain ⟨g, cg, hge, _, hgl, hgc, hgf⟩ := ho.slot (j := i) (by rw [profTo_len]; exact hlt)
      simp only [Value.slice.injEq, Option.some.injEq, Addr.mk.injEq] at hge
      obtain ⟨⟨rfl, -⟩, -, -⟩ := hge
      have g0 := hgc 0 _ rfl
      simp only [intK, Nat.mul_one, Nat.add_zero] at g0
      generalize ((profTo tip num den N i)[i]'_) = old at g0
      have gf := hgf i
      obtain ⟨⟨f1, f2⟩, ⟨f3, f4⟩, f5, f6⟩ := HFB.out i (by omega)
      have k1 : IntKind.i64.wrap (tip * den) = tip * den := IntWalk.i64_in _ (by omega)
      have k2 : IntKind.i64.wrap ((i : Int) * num) = (i : Int) * num := IntWalk.i64_in _ (by omega)
      have k3 : IntKind.i64.wrap (tip * den + (i : Int) * num) = tip * den + (i : Int) * num := IntWalk.i64_in _ (by omega)
      have HST := Lib.hid (profTo_set (tip := tip) (num := num) (den := den) (high := N) (i := i))
      clear hgc hgf ho hb f1 f2 f3 f4 f5 f6
      go_wp2_with fail
      go_roundw
      case rel =>
        have h1 := HO.out.put1N profTo_len hlt rfl (farAt tip num den i) (.int .i64 (tip * den + (i : Int) * num)) rfl
        rw [HST.out] at h1
        exact ⟨i + 1, by omega, by go_num, h1, HB.out.setCell (by simp) _⟩
      case measure => simp [intOf]; omega
    · obtain rfl : i = N := by omega
      clear ho hb
      go_wp2_with fail
      go_ret
      exact ⟨_, rfl, by rw [← profTo_end]; exact HO.out.mono (by omega), HB.out.below HX0.out (by simp)⟩

theorem lex_le (A B : Nat) : (decide (A / 18446744073709551616 < B / 18446744073709551616) || (decide (A / 18446744073709551616 = B / 18446744073709551616) && decide (A % 18446744073709551616 ≤ B % 18446744073709551616))) = decide (A ≤ B) := by
  rw [Bool.eq_iff_iff]
  simp only [Bool.or_eq_true, Bool.and_eq_true, decide_eq_true_eq]
  omega

set_option maxRecDepth 100000 in
set_option maxHeartbeats 4000000 in
theorem profDepth_any (v : Value) (ps : List Int) (q1 q2 den : Int) (w : World) (hI : intK.Is w v ps) (hp : ∀ x ∈ ps, 0 ≤ x ∧ x ≤ 20000) (h1 : 0 ≤ q1 ∧ q1 ≤ 937024000000000000) (h2 : 1 ≤ q2 ∧ q2 ≤ 968000000) (hd : 1 ≤ den ∧ den ≤ 100) :
    Calls Try.prog 87 #[v, V2 q1 q2, .int .i64 den] w fun e w' => e = .returned (.int .i64 (depN ps (q1, q2) den : Int)) ∧ Ext w w' := by
  obtain ⟨A, n, c, rfl, hn, _, hr, hm⟩ := hI.open_
  have HN := Lib.hid hn
  have HR := Lib.hid hr
  have HP := Lib.hid hp
  obtain ⟨d1, d2⟩ := mul_bd (show 0 ≤ den by omega) hd.2 (show 0 ≤ den by omega) hd.2
  have k1 : IntKind.i64.wrap (den * den) = den * den := IntWalk.i64_in _ (by omega)
  obtain ⟨Q, rfl⟩ : ∃ Q : Nat, q1 = Q := ⟨q1.toNat, by omega⟩
  obtain ⟨R, rfl⟩ : ∃ R : Nat, q2 = R := ⟨q2.toNat, by omega⟩
  obtain ⟨D, hD⟩ : ∃ D : Nat, den * den = D := ⟨(den * den).toNat, by omega⟩
  have HD := Lib.hid hD
  rw [hD] at k1 d1 d2
  have u1 : IntKind.u64.wrap (Q : Int) = Q := Mul64.wrapN Q (by omega)
  have u2 : IntKind.u64.wrap (D : Int) = D := Mul64.wrapN D (by omega)
  have u3 : IntKind.u64.wrap (R : Int) = R := Mul64.wrapN R (by omega)
  have HM1 := Lib.hid fun W : World => mul64_any Q D (by omega) (by omega) W
  have k1' := k1
  rw [← hD] at k1'
  have kk : IntKind.i64.wrap (den * den) = (D : Int) := by rw [k1', hD]
  have hR9 : R ≤ 968000000 := by omega
  obtain ⟨pa, hpa⟩ : ∃ z, z = Q * D := ⟨_, rfl⟩
  rw [← hpa] at HM1
  have HPA := Lib.hid hpa
  clear hI hr hp hD d1 d2 h1 h2 hd k1 k1' hpa hn
  go_enter Try.func87, Try.ntmps87
  go_wp2_with fail
  refine lay_wp (fun W => Ext w W ∧ W.cell? ⟨w.heap.size, 0, none⟩ = some (.int .i64 Q) ∧ W.cell? ⟨w.heap.size, 1, none⟩ = some (.int .i64 R)) ⟨by (repeat' (first | with_reducible exact Ext.refl _ | with_reducible apply Ext.alloc | with_reducible apply Ext.drew | with_reducible apply Ext.drewN | with_reducible refine Ext.setCell ?_ ?_ _ | with_reducible apply Ext.step | with_reducible assumption | with_reducible exact Nat.le_refl _ | (simp; done) | (simp; omega))), by go_cell, by go_cell⟩ ?_
  rintro W0 ⟨x0, a0, a1⟩
  have HX0 := Lib.hid x0
  have HA := Lib.hid (And.intro a0 a1)
  clear x0 a0 a1
  go_loopw [15] (fun iv wr => ∃ i : Nat, i ≤ n ∧ iv = .int .i64 (i : Int) ∧ Hid (∀ (j : Nat) (hj : j < ps.length), j < i → fitB ((Q : Int), (R : Int)) den ps[j] = false) ∧ Ext W0 wr) (fun iv _ => n - (intOf iv).toNat)
  case atStart => exact ⟨0, by omega, rfl, Lib.hid (fun j hj h => by omega), Ext.refl _⟩
  case round =>
    obtain ⟨i, hi, rfl, HNF, hx⟩ := hrel
    have HX := Lib.hid hx
    by_cases hlt : i < n
    · have hil : i < ps.length := by rw [HN.out]; exact hlt
      have hii : (i : Int) < (n : Int) := by omega
      obtain ⟨b, o, rfl, _, g0⟩ := ints_at HR.out i hil
      replace g0 := (HX0.out.trans hx).cell_some g0
      have lg := cell_lt g0
      have a0 := hx.cell_some HA.out.1
      have a1 := hx.cell_some HA.out.2
      have la := cell_lt a0
      obtain ⟨p1, p2⟩ := HP.out _ (List.getElem_mem hil)
      have HFD := Lib.hid (show fitB ((Q : Int), (R : Int)) den ps[i] = decide (pa ≤ (ps[i] * ps[i]).toNat * R) by
        unfold fitB
        have hs := mul_bd p1 p2 p1 p2
        rw [HD.out, HPA.out, decide_eq_decide]
        have e : (ps[i] * ps[i]) = (((ps[i] * ps[i]).toNat : Nat) : Int) := by omega
        rw [e, Int.toNat_natCast, ← Int.natCast_mul, ← Int.natCast_mul]
        exact Int.ofNat_le)
      have HNX := Lib.hid fun (h : fitB ((Q : Int), (R : Int)) den ps[i] = false) => (show ∀ (j : Nat) (hj : j < ps.length), j < i + 1 → fitB ((Q : Int), (R : Int)) den ps[j] = false from fun j hj hji => by
        rcases (by omega : j < i ∨ j = i) with h5 | rfl
        · exact HNF.out j hj h5
        · exact h)
      have HYS := Lib.hid fun (h : fitB ((Q : Int), (R : Int)) den ps[i] = true) => dep_found hil h HNF.out
      rw [HN.out] at HYS
      generalize ps[i] = far at *
      obtain ⟨s1, s2⟩ := mul_bd p1 p2 p1 p2
      have k2 : IntKind.i64.wrap (far * far) = far * far := IntWalk.i64_in _ (by omega)
      obtain ⟨S, hS⟩ : ∃ S : Nat, far * far = S := ⟨(far * far).toNat, by omega⟩
      rw [hS] at k2 s1 s2 HFD
      rw [Int.toNat_natCast] at HFD
      have k3 : IntKind.i64.wrap (far * far) = (S : Int) := by rw [hS]; exact k2
      have u4 : IntKind.u64.wrap (S : Int) = S := Mul64.wrapN S (by omega)
      have HM2 := Lib.hid fun W : World => mul64_any S R (by omega) (by omega) W
      obtain ⟨pb, hpb⟩ : ∃ z, z = S * R := ⟨_, rfl⟩
      rw [← hpb] at HM2 HFD
      have HLX := Lib.hid (lex_le pa pb)
      obtain ⟨h, hh⟩ : ∃ z, z = pa / 18446744073709551616 := ⟨_, rfl⟩
      obtain ⟨l, hl⟩ : ∃ z, z = pa % 18446744073709551616 := ⟨_, rfl⟩
      obtain ⟨j, hj⟩ : ∃ z, z = pb / 18446744073709551616 := ⟨_, rfl⟩
      obtain ⟨k, hk⟩ : ∃ z, z = pb % 18446744073709551616 := ⟨_, rfl⟩
      rw [← hh, ← hl, ← hj, ← hk] at HLX
      rw [← hh, ← hl] at HM1
      rw [← hj, ← hk] at HM2
      have i1 : decide ((h : Int) < (j : Int)) = decide (h < j) := decide_eq_decide.2 Int.ofNat_lt
      have i2 : ((h : Int) == (j : Int)) = decide (h = j) := by rw [Bool.eq_iff_iff, beq_iff_eq, decide_eq_true_eq]; exact Int.ofNat_inj
      have i3 : decide ((l : Int) ≤ (k : Int)) = decide (l ≤ k) := decide_eq_decide.2 Int.ofNat_le
      have HSB := Lib.hid (show IntKind.i64.wrap ((n : Int) - (i : Int)) = ((n - i : Nat) : Int) from (IntWalk.i64_in _ (by omega)).trans (by omega))
      have hsb := HSB.out
      clear hx p1 p2 s1 s2 hS k2 hpb hh hl hj hk
      clear i1 i2 i3
      by_cases h1 : h < j
      · have g1 : (h : Int) < (j : Int) := Int.ofNat_lt.2 h1
        rw [decide_eq_true h1, Bool.true_or] at HLX
        have HV := Lib.hid (HYS.out (HFD.out.trans HLX.out.symm))
        go_wp2_with fail
        refine (HM1.out _).mono ?_
        rintro e _ ⟨rfl, rfl⟩
        go_wp2_with fail
        refine (HM2.out _).mono ?_
        rintro e _ ⟨rfl, rfl⟩
        go_wp2_with fail
        go_ret
        exact ⟨by first | (rw [HV.out]; done) | (rw [HV.out]; rfl), HX0.out.trans HX.out⟩
      by_cases h2 : h = j
      · subst h2
        by_cases h3 : l ≤ k
        · have g3 : (l : Int) ≤ (k : Int) := Int.ofNat_le.2 h3
          rw [decide_eq_false h1, decide_eq_true rfl, decide_eq_true h3, Bool.false_or, Bool.true_and] at HLX
          have HV := Lib.hid (HYS.out (HFD.out.trans HLX.out.symm))
          go_wp2_with fail
          refine (HM1.out _).mono ?_
          rintro e _ ⟨rfl, rfl⟩
          go_wp2_with fail
          refine (HM2.out _).mono ?_
          rintro e _ ⟨rfl, rfl⟩
          go_wp2_with fail
          go_ret
          exact ⟨by first | (rw [HV.out]; done) | (rw [HV.out]; rfl), HX0.out.trans HX.out⟩
        · have g3 : ¬ (l : Int) ≤ (k : Int) := fun h => h3 (Int.ofNat_le.1 h)
          rw [decide_eq_false h1, decide_eq_true rfl, decide_eq_false h3, Bool.false_or, Bool.true_and] at HLX
          have HV := Lib.hid (HNX.out (HFD.out.trans HLX.out.symm))
          go_wp2_with fail
          refine (HM1.out _).mono ?_
          rintro e _ ⟨rfl, rfl⟩
          go_wp2_with fail
          refine (HM2.out _).mono ?_
          rintro e _ ⟨rfl, rfl⟩
          go_wp2_with fail
          go_roundw
          case rel => exact ⟨i + 1, by omega, by go_num, HV, HX.out⟩
          case measure => simp [intOf]; omega
      · have g1 : ¬ (h : Int) < (j : Int) := fun h => h1 (Int.ofNat_lt.1 h)
        have g2 : ((h : Int) == (j : Int)) = false := by
          rw [beq_eq_false_iff_ne]
          omega
        have g2' : (h == j) = false := by simpa using h2
        rw [decide_eq_false h1, decide_eq_false h2, Bool.false_or, Bool.false_and] at HLX
        have HV := Lib.hid (HNX.out (HFD.out.trans HLX.out.symm))
        go_wp2_with fail
        refine (HM1.out _).mono ?_
        rintro e _ ⟨rfl, rfl⟩
        go_wp2_with fail
        refine (HM2.out _).mono ?_
        rintro e _ ⟨rfl, rfl⟩
        go_wp2_with fail
        go_roundw
        case rel => exact ⟨i + 1, by omega, by go_num, HV, HX.out⟩
        case measure => simp [intOf]; omega
    · obtain rfl : i = n := by omega
      have HV := Lib.hid (dep_none (den := den) (q := ((Q : Int), (R : Int))) (p := ps) fun j hj => HNF.out j hj (by rw [← HN.out]; exact hj))
      clear hx
      go_wp2_with fail
      go_ret
      exact ⟨by rw [HV.out]; rfl, HX0.out.trans HX.out⟩
end Go.Proofs.Ytlljhimaopnbfaa
