/- Whether a slip is hidden: the law's helper. Condition: the lists read, the made ones are slips. -/
import Derived.Test.YtgeapenglcohfaaGHidQ
import Derived.Test.YtgeapenglcohfaaGAppD
namespace Go.Proofs.Ytgeapenglcohfaa
open Go.RowKit

theorem isI_K {w : World} {v : Value} {zs : List Int} (h : IsI w v zs) : intK.Is w v zs := by
  obtain ⟨A, c, rfl, h0, hc, hr⟩ := h
  refine ⟨A, c, rfl, h0, hc, fun j hj => ?_⟩
  obtain ⟨b, o, hA, hb, hcell⟩ := hr.at_ j hj
  refine ⟨b, o, hA, hb, fun i u hu => ?_⟩
  have hi : i = 0 := by
    have : i < (intK.enc zs[j]).length := (List.getElem?_eq_some_iff.1 hu).1
    simp [intK] at this
    omega
  subst hi
  simp only [intK, List.getElem?_cons_zero, Option.some.injEq] at hu
  subst hu
  rw [List.getElem?_eq_getElem hj] at hcell
  show w.cell? ⟨b, o + j * 1 + 0, none⟩ = _
  rw [Nat.mul_one, Nat.add_zero]
  exact hcell
theorem chain_drop (most : Int) {xs : List Int} {j : Nat} (h : j < xs.length) (la : Int) : chainB most la (xs.drop j) = (inB (-20) 20 (xs[j]?.getD 0) && decide (xs[j]?.getD 0 - la ≤ most) && decide (la - xs[j]?.getD 0 ≤ most) && chainB most (xs[j]?.getD 0) (xs.drop (j + 1))) := by
  rw [List.drop_eq_getElem_cons h, List.getElem?_eq_getElem h]
  rfl

set_option maxRecDepth 100000 in
set_option maxHeartbeats 4000000 in
theorem hidden_any (v u' : Value) (made l : List Int) (most : Int) (w : World) (hI : IsI w v made) (hJ : IsI w u' l) (hl : l.length ≤ 100) (hm : 0 ≤ most ∧ most ≤ 20) (h1 : 1 ≤ made.length) (hb : ∀ x ∈ made, -20 ≤ x ∧ x ≤ 20) :
    Calls Try.prog 55 #[v, u', .int .i64 most] w fun e w' => e = .returned (.bool (chainB most (lastL made) (l ++ [headL made]))) ∧ Ext w w' := by
  have HJ := Lib.hid (isI_K hJ)
  obtain ⟨A, n, c, rfl, hc0, hr, hn⟩ := hI.open_
  have hlen := hr.len
  obtain ⟨b0, o0, hA0, hb0, hc1⟩ := hr.at_ (n - 1) (by omega)
  obtain ⟨b1, o1, hA1, hb1, hc2⟩ := hr.at_ 0 (by omega)
  subst hA0
  cases hA1
  obtain ⟨la0, hla0⟩ : ∃ x, x = made[n - 1]?.getD 0 := ⟨_, rfl⟩
  obtain ⟨he0, hhe0⟩ : ∃ x, x = made[0]?.getD 0 := ⟨_, rfl⟩
  have HLA := Lib.hid (show lastL made = la0 ∧ headL made = he0 from ⟨by rw [hla0]; unfold lastL; rw [hlen], hhe0.symm⟩)
  have hbl : -20 ≤ la0 ∧ la0 ≤ 20 := by
    rw [hla0, List.getElem?_eq_getElem (by omega)]
    exact hb _ (List.getElem_mem _)
  rw [← hla0] at hc1
  rw [← hhe0, Nat.add_zero] at hc2
  obtain ⟨A', n', c', rfl, -, hr', hn'⟩ := hJ.open_
  have HLN := Lib.hid hr'.len
  have hn100 : n' ≤ 100 := by rw [← HLN.out]; exact hl
  have hnat : ((n - 1 : Nat) : Int) = (n : Int) - 1 := by omega
  have hn0 : (0 : Int) ≤ (n : Int) - 1 := by omega
  have hnn : (n : Int) - 1 < (n : Int) := by omega
  have hw1 : IntKind.i64.wrap ((n : Int) - 1) = (n : Int) - 1 := by apply IntWalk.i64_in <;> omega
  have hn00 : (0 : Int) < (n : Int) := by omega
  have hn01 : 0 < n := by omega
  clear hI hJ hr hr' hla0 hhe0 hb hlen hl h1 hc0
  go_enter Try.func55, Try.ntmps55
  go_wp2_with fail
  refine (wpIn_wide (n := 3)).1 ?_
  refine wpIn_region_tree (B := w.heap.size) 10 [1, 3, 4, 5, 9] (Nat.le_refl _) (by kernel_rfl) (by decide +kernel) ?_
  repeat (refine wpQ_step (by rfl) (fun _ _ _ => trivial) (fun K hK => ?_); go_simp; refine hK _ ?_; clear hK K)
  refine wpQ_nil ?_
  refine wpAnyT_net [⟨0, some 16, [], []⟩, ⟨2, some 18, [0], [0]⟩, ⟨6, some 22, [], []⟩, ⟨7, some 23, [2, 6], [2]⟩, ⟨8, some 24, [7], []⟩] [] [0, 2, 6, 7]
    (fun i u W => match i with
      | 0 => intK.Own w.heap.size W (u 0) []
      | 2 => intK.Own w.heap.size W (u 2) l
      | 6 => intK.Own w.heap.size W (u 6) [he0]
      | 7 => intK.Own w.heap.size W (u 7) (l ++ [he0])
      | 8 => u 8 = .int .i64 ((n' + 1 : Nat) : Int)
      | _ => False) (fun _ => undef) (Nat.le_refl _) (by decide +kernel) ?loc ?ext (.inr ?keep) (fun _ h => by cases h) ?step ?end_
  case loc =>
    intro i hi u u' W e _ h
    simp only [List.map_cons, List.map_nil, List.append_nil, List.mem_cons, List.not_mem_nil, or_false] at hi
    rcases hi with rfl | rfl | rfl | rfl | rfl <;> (simp only at h ⊢; rw [e]; exact h)
  case ext =>
    intro i hi u W W' h x
    simp only [List.map_cons, List.map_nil, List.append_nil, List.mem_cons, List.not_mem_nil, or_false] at hi
    rcases hi with rfl | rfl | rfl | rfl | rfl <;> first | exact EK.Own.ext h x | exact h
  case keep =>
    intro i hi _ u W W' row h hg hne
    simp only [List.map_cons, List.map_nil, List.append_nil, List.mem_cons, List.not_mem_nil, or_false] at hi
    rcases hi with rfl | rfl | rfl | rfl | rfl <;> first | exact own_keep h hg (fun b hb => (hne b hb).2 (by simp)) | exact h
  case step =>
    intro r hr u w1 hb hon
    simp only [List.mem_cons, List.not_mem_nil, or_false] at hr
    have x1 := Ext.of hb
    rcases hr with rfl | rfl | rfl | rfl | rfl
    · refine ⟨_, by rfl, by rfl, fun _ _ => trivial, ?_⟩
      simp only [putL]
      go_simp
      refine ⟨(Below.refl _ _).alloc hb.size _, ?_⟩
      exact step_ext (EK.Own.lit (K := intK) (B := w.heap.size) w1 #[] [] rfl hb.size (Nat.zero_le _)) ((Ext.refl _).alloc _) (own_fresh (EK.Own.lit (K := intK) (B := w1.heap.size) w1 #[] [] rfl (Nat.le_refl _) (Nat.zero_le _)))
    · refine ⟨_, by rfl, by rfl, fun _ _ => trivial, ?_⟩
      have o0 : intK.Own w.heap.size w1 (u 0) [] := hon 0 (by simp)
      simp only [putL]
      refine EK.appAll_D (K := intK) (B' := w.heap.size) (.tmp 16) (.tmp 17) (by rfl) (v := u 0) (by rfl) (by rfl) (HJ.out.ext x1) o0 (Nat.le_refl _) hb.size (by rw [HLN.out]; simp only [List.length_nil]; omega) ?_
      intro v' w2 h1 h2 h3 h4
      exact step_app 0 (by simp) (by simp) o0 h1 h2 h4 h1
    · refine ⟨_, by rfl, by rfl, fun _ _ => trivial, ?_⟩
      simp only [putL]
      go_simp
      refine ⟨(Below.refl _ _).alloc hb.size _, ?_⟩
      exact step_ext (EK.Own.lit (K := intK) (B := w.heap.size) w1 #[.int .i64 he0] [he0] rfl hb.size (by simp [maxLen])) ((Ext.refl _).alloc _) (own_fresh (EK.Own.lit (K := intK) (B := w1.heap.size) w1 #[.int .i64 he0] [he0] rfl (Nat.le_refl _) (by simp [maxLen])))
    · refine ⟨_, by rfl, by rfl, fun _ _ => trivial, ?_⟩
      have o2 : intK.Own w.heap.size w1 (u 2) l := hon 2 (by simp)
      have o6 : intK.Own w.heap.size w1 (u 6) [he0] := hon 6 (by simp)
      simp only [putL]
      refine EK.appAll_D (K := intK) (B' := w.heap.size) (.tmp 18) (.tmp 22) (by rfl) (v := u 2) (by rfl) (by rfl) o6.is o2 (Nat.le_refl _) hb.size (by rw [HLN.out]; simp only [List.length_cons, List.length_nil]; omega) ?_
      intro v' w2 h1 h2 h3 h4
      exact step_app 2 (by simp) (by simp) o2 h1 h2 h4 h1
    · have o7 : intK.Own w.heap.size w1 (u 7) (l ++ [he0]) := hon 7 (by simp)
      obtain ⟨A7, c7, h7, -⟩ := o7.is
      have hl7 : (l ++ [he0]).length = n' + 1 := by simp [HLN.out]
      rw [hl7] at h7
      refine ⟨_, by rfl, by rfl, fun _ _ => trivial, ?_⟩
      simp only [putL, h7]
      go_simp
      exact ⟨Below.refl _ _, step_none (by simp [updV]) (Ext.refl _) (by simp)⟩
  case end_ =>
    intro u w9 hb hf
    refine ⟨by decide +kernel, fun w10 x10 => ?_⟩
    have o7 : intK.Own w.heap.size w9 (u 7) (l ++ [he0]) := hf 7 (by simp) (by decide)
    have h8 : u 8 = .int .i64 ((n' + 1 : Nat) : Int) := hf 8 (by simp) (by decide)
    have X9 := Lib.hid ((Ext.of hb).trans x10)
    have hi7 : IsI w10 (u 7) (l ++ [he0]) := (intK_own.1 (o7.ext x10)).isI
    obtain ⟨A7, m7, c7, h7, -, r7, -⟩ := hi7.open_
    have hl7 : m7 = n' + 1 := by rw [← r7.len]; simp [HLN.out]
    subst hl7
    have R7 := Lib.hid r7
    simp only [putL, h7, h8]
    clear hb hf o7 hi7 r7 h7 h8 hc1 hc2
    simp only [List.drop_succ_cons, List.drop_nil]
    have HFL := Lib.hid (show (l ++ [he0]).length = n' + 1 by simp [HLN.out])
    have HGL := Lib.hid (show chainB most (lastL made) (l ++ [headL made]) = chainB most la0 (l ++ [he0]) by rw [HLA.out.1, HLA.out.2])
    generalize l ++ [he0] = xs at *
    generalize hmm : n' + 1 = m at *
    have hm101 : m ≤ 101 := by omega
    clear hmm hn100 hn' HLN HJ HLA hn0 hnn hn00 hn01 hw1 hnat hb0 hb1 hn
    gi_wp2
    go_wp2_with fail
    go_frame
    go_loopw [7, 25] (fun lv iv wr => ∃ (j : Nat) (la : Int), j ≤ m ∧ iv = .int .i64 (j : Int) ∧ lv = .int .i64 la ∧ (-20 ≤ la ∧ la ≤ 20) ∧ Hid (chainB most la0 xs = chainB most la (xs.drop j)) ∧ Ext w10 wr) (fun _ iv _ => m - (intOf iv).toNat)
    case atStart => exact ⟨0, la0, by omega, rfl, rfl, hbl, (by rw [List.drop_zero]; exact Lib.hid rfl), Ext.refl _⟩
    case round =>
      obtain ⟨j, la, hj, rfl, rfl, hla, HC, hx⟩ := hrel
      by_cases hlt : j < m
      · obtain ⟨b, o, rfl, hb, hc⟩ := R7.out.at_ j hlt
        have HCD := Lib.hid (chain_drop most (show j < xs.length by rw [HFL.out]; exact hlt) la)
        generalize xs[j]?.getD 0 = x at *
        replace hc := hx.cell_some hc
        have lb := cell_lt hc
        have hji : (j : Int) < (m : Int) := by omega
        have XR := Lib.hid (X9.out.trans hx)
        have HX10 := Lib.hid hx
        clear hx
        by_cases hgood : (-20 ≤ x ∧ x ≤ 20) ∧ x - la ≤ most ∧ la - x ≤ most
        · have q1 : decide (x < -20) = false := by simp; omega
          have q2 : decide (20 < x) = false := by simp; omega
          have q3 : decide (most < x - la) = false := by simp; omega
          have q4 : decide (most < la - x) = false := by simp; omega
          have w1 : IntKind.i64.wrap (x - la) = x - la := by apply IntWalk.i64_in <;> omega
          have w2 : IntKind.i64.wrap (la - x) = la - x := by apply IntWalk.i64_in <;> omega
          have HNX := Lib.hid (show chainB most la0 xs = chainB most x (xs.drop (j + 1)) by
            rw [HC.out, HCD.out, inB_iff.2 hgood.1, decide_eq_true hgood.2.1, decide_eq_true hgood.2.2]
            rfl)
          have hxr := hgood.1
          clear hgood HCD HC
          go_wp2_with fail
          go_roundw
          case rel => exact ⟨j + 1, x, by omega, by go_num, rfl, hxr, HNX, HX10.out⟩
          case measure => simp [intOf]; omega
        · have HNX := Lib.hid (show chainB most la0 xs = false by
            rw [HC.out, HCD.out]
            cases h : (inB (-20) 20 x && decide (x - la ≤ most) && decide (la - x ≤ most)) with
            | false => rfl
            | true =>
              simp only [Bool.and_eq_true, inB_iff, decide_eq_true_eq] at h
              exact absurd ⟨h.1.1, h.1.2, h.2⟩ hgood)
          clear HCD HC
          have hp : x < -20 ∨ (¬ x < -20 ∧ 20 < x) ∨ (¬ x < -20 ∧ ¬ 20 < x ∧ most < x - la) ∨ (¬ x < -20 ∧ ¬ 20 < x ∧ ¬ most < x - la ∧ most < la - x) := by omega
          clear hgood
          rcases hp with h1 | ⟨h1, h2⟩ | ⟨h1, h2, h3⟩ | ⟨h1, h2, h3, h4⟩
          case' inl => have q1 : decide (x < -20) = true := decide_eq_true h1
          case' inr.inl => have q1 : decide (x < -20) = false := decide_eq_false h1
          case' inr.inl => have q2 : decide (20 < x) = true := decide_eq_true h2
          case' inr.inr.inl => have q1 : decide (x < -20) = false := decide_eq_false h1
          case' inr.inr.inl => have q2 : decide (20 < x) = false := decide_eq_false h2
          case' inr.inr.inl => have q3 : decide (most < x - la) = true := decide_eq_true h3
          case' inr.inr.inl => have w1 : IntKind.i64.wrap (x - la) = x - la := by apply IntWalk.i64_in <;> omega
          case' inr.inr.inr => have q1 : decide (x < -20) = false := decide_eq_false h1
          case' inr.inr.inr => have q2 : decide (20 < x) = false := decide_eq_false h2
          case' inr.inr.inr => have q3 : decide (most < x - la) = false := decide_eq_false h3
          case' inr.inr.inr => have q4 : decide (most < la - x) = true := decide_eq_true h4
          case' inr.inr.inr => have w1 : IntKind.i64.wrap (x - la) = x - la := by apply IntWalk.i64_in <;> omega
          case' inr.inr.inr => have w2 : IntKind.i64.wrap (la - x) = la - x := by apply IntWalk.i64_in <;> omega
          all_goals
            (try clear h1)
            (try clear h2)
            (try clear h3)
            (try clear h4)
            go_wp2_with fail
            go_ret
            exact ⟨ret_b (by rw [HGL.out, HNX.out]), XR.out⟩
      · obtain rfl : j = m := by omega
        have XR := Lib.hid (X9.out.trans hx)
        have HNX := Lib.hid (show chainB most la0 xs = true by
          rw [HC.out, List.drop_of_length_le (by rw [HFL.out]; exact Nat.le_refl _)]
          rfl)
        clear hx HC
        go_wp2_with fail
        go_ret
        exact ⟨ret_b (by rw [HGL.out, HNX.out]), XR.out⟩
end Go.Proofs.Ytgeapenglcohfaa
