/- The reference's CheckOrder. Condition: the work's cuts and the list read. -/
import Derived.Test.YtgeapenglcohfaaGRChkP
import Derived.Test.YtgeapenglcohfaaGRTab
namespace Go.Proofs.Ytgeapenglcohfaa
open Go.RowKit

theorem chkOE_is {k : WkT} (hb : workB k = true) (l : List Int) {b : Bool} (h : orderMB (ruleM k) k.cuts.length l = b) : chkOE k l = if b then 0 else 53 := by
  unfold chkOE
  rw [if_pos hb, h]
theorem orderMB_len {M : Nat → Nat → Bool} {n : Nat} {l : List Int} (h : l.length ≠ n) : orderMB M n l = false := by
  unfold orderMB
  rw [decide_eq_false h, Bool.false_and, Bool.false_and]
set_option maxRecDepth 100000 in
set_option maxHeartbeats 4000000 in
theorem refCheckOrder_any (k : WkT) (v : Value) (u : Value) (l : List Int) (w : World) (hI : CutsIs w v k.cuts) (hJ : IsI w u l) :
    Calls Try.prog 44 #[k.val v, u] w fun e w' => e = .returned (.int .i64 (chkOE k l)) ∧ Ext w w' := by
  have HW := Lib.hid fun (W : World) (x : Ext w W) => refWork_any k v W (hI.ext x)
  obtain ⟨A', m, c', rfl, -, hr, hmm⟩ := hJ.open_
  have HQ := Lib.hid hr
  have HLN := Lib.hid hr.len
  clear hJ hr
  cases hb : workB k
  · obtain ⟨A, c, rfl, -⟩ := cutsIs_at hI
    have HR := Lib.hid (show chkOE k l = 51 from if_neg (by rw [hb]; exact Bool.false_ne_true))
    rw [hb] at HW
    clear hb hI
    go_enter Try.func44, Try.ntmps44
    go_wp2_with fail
    refine (HW.out _ (by (repeat' (first | with_reducible exact Ext.refl _ | with_reducible apply Ext.alloc | with_reducible apply Ext.drew | with_reducible apply Ext.drewN | with_reducible refine Ext.setCell ?_ ?_ _ | with_reducible apply Ext.step | with_reducible assumption | with_reducible exact Nat.le_refl _ | (simp; done) | (simp; omega))))).mono ?_
    rintro e W1 ⟨rfl, x1⟩
    have HX1 := Lib.hid (show Ext w W1 from Ext.trans (by (repeat' (first | with_reducible exact Ext.refl _ | with_reducible apply Ext.alloc | with_reducible apply Ext.drew | with_reducible apply Ext.drewN | with_reducible refine Ext.setCell ?_ ?_ _ | with_reducible apply Ext.step | with_reducible assumption | with_reducible exact Nat.le_refl _ | (simp; done) | (simp; omega)))) x1)
    clear x1
    go_wp2_with fail
    go_ret
    exact ⟨by rw [HR.out]; rfl, HX1.out⟩
  have HNO := Lib.hid fun (h : orderMB (ruleM k) k.cuts.length l = false) => (show chkOE k l = 53 from chkOE_is hb l h)
  have HOK := Lib.hid fun (h : orderMB (ruleM k) k.cuts.length l = true) => (show chkOE k l = 0 from chkOE_is hb l h)
  have HFI := Lib.hid fun (i j : Nat) (W : World) (x : Ext w W) (hi : i < k.cuts.length) (hj : j < k.cuts.length) => refFirst_any k v i j W (hI.ext x) hb hi hj
  have HRN := Lib.hid (ruleN k)
  obtain ⟨_, _, h16, _⟩ := workB_iff.1 hb
  obtain ⟨A, c, rfl, -, ⟨hcl, hcm⟩, -⟩ := cutsIs_at hI
  unfold maxLen at hcm
  rw [hb] at HW
  obtain ⟨n, hn⟩ : ∃ n, n = k.cuts.length := ⟨_, rfl⟩
  obtain ⟨M, hM⟩ : ∃ M, M = ruleM k := ⟨_, rfl⟩
  rw [← hn] at HW HNO HOK HFI HRN h16 hcl ⊢
  rw [← hM] at HNO HOK HFI HRN
  clear hb hn hI hM hcl hcm
  by_cases hmn : m = n
  case neg =>
    have HF := Lib.hid (HNO.out (orderMB_len (by rw [HLN.out]; exact hmn)))
    have q1 : ((m : Int) != (n : Int)) = true := by simp; omega
    clear hmn
    go_enter Try.func44, Try.ntmps44
    go_wp2_with fail
    refine (HW.out _ (by (repeat' (first | with_reducible exact Ext.refl _ | with_reducible apply Ext.alloc | with_reducible apply Ext.drew | with_reducible apply Ext.drewN | with_reducible refine Ext.setCell ?_ ?_ _ | with_reducible apply Ext.step | with_reducible assumption | with_reducible exact Nat.le_refl _ | (simp; done) | (simp; omega))))).mono ?_
    rintro e W1 ⟨rfl, x1⟩
    have HX1 := Lib.hid (show Ext w W1 from Ext.trans (by (repeat' (first | with_reducible exact Ext.refl _ | with_reducible apply Ext.alloc | with_reducible apply Ext.drew | with_reducible apply Ext.drewN | with_reducible refine Ext.setCell ?_ ?_ _ | with_reducible apply Ext.step | with_reducible assumption | with_reducible exact Nat.le_refl _ | (simp; done) | (simp; omega)))) x1)
    obtain ⟨h0, -, -, -, -, -, -, -, -, -, -, -, h12⟩ := (WkAt.new k (.slice A n c) w).ext x1
    have lh := cell_lt h12
    clear x1 h0
    go_wp2_with fail
    go_ret
    exact ⟨by rw [HF.out]; rfl, HX1.out⟩
  subst hmn
  have q1 : ((m : Int) != (m : Int)) = false := by simp
  have hw1 : IntKind.i64.wrap ((m : Int) - 1) = (m : Int) - 1 := by apply IntWalk.i64_in <;> omega
  have HWI := Lib.hid fun (x : Int) (W : World) => within_any x 0 ((m : Int) - 1) W
  have hmk : ∀ w : World, (Instr.makeSlice 141 (.int .i64 (m : Int)) (.int .i64 (m : Int))).run Try.prog w = .ok (.slice (some ⟨w.heap.size, 0, none⟩) m m) (w.alloc (.cells (madeCells #[.bool false] m) 4)) := fun w =>
    run_make_row' (P := Try.prog) 141 4 (.bool false) 1 Try.underlying141 boolInfo rfl .i64 .i64 m (by omega) (by omega) w
  go_enter Try.func44, Try.ntmps44
  go_wp2_with fail
  refine (HW.out _ (by (repeat' (first | with_reducible exact Ext.refl _ | with_reducible apply Ext.alloc | with_reducible apply Ext.drew | with_reducible apply Ext.drewN | with_reducible refine Ext.setCell ?_ ?_ _ | with_reducible apply Ext.step | with_reducible assumption | with_reducible exact Nat.le_refl _ | (simp; done) | (simp; omega))))).mono ?_
  rintro e W0 ⟨rfl, x0⟩
  have HX0 := Lib.hid (show Ext w W0 from Ext.trans (by (repeat' (first | with_reducible exact Ext.refl _ | with_reducible apply Ext.alloc | with_reducible apply Ext.drew | with_reducible apply Ext.drewN | with_reducible refine Ext.setCell ?_ ?_ _ | with_reducible apply Ext.step | with_reducible assumption | with_reducible exact Nat.le_refl _ | (simp; done) | (simp; omega)))) x0)
  have HWK0 := Lib.hid ((WkAt.new k (.slice A m c) w).ext x0)
  obtain ⟨h0, -, -, -, -, -, -, -, -, -, -, -, h12⟩ := HWK0.out
  have lh := cell_lt h12
  clear x0 h0
  go_wp2_with fail
  refine lay_wp (fun W => SeenN W0.heap.size m (fun _ => false) W ∧ Ext W0 W ∧ W.heap.size = W0.heap.size + 1) ⟨SeenN.made W0 m, (Ext.refl _).alloc _, by simp⟩ ?_
  rintro W1 ⟨hse, hx1, hs1⟩
  have HSE := Lib.hid hse
  have HX1 := Lib.hid (HX0.out.trans hx1)
  have HWK := Lib.hid (HWK0.out.ext hx1)
  obtain ⟨g, hg⟩ : ∃ g, g = W0.heap.size := ⟨_, rfl⟩
  rw [← hg] at HSE hs1 ⊢
  have HG := Lib.hid (show w.heap.size ≤ g from by rw [hg]; exact HX0.out.bel.size)
  have HGW := Lib.hid (show w.heap.size < g by rw [hg]; exact HWK0.out.lt)
  clear hse hx1 hg h12 lh
  go_loopw [7] (fun iv wr => ∃ j : Nat, j ≤ m ∧ iv = .int .i64 (j : Int) ∧ Hid (diffTo l m j = true) ∧ Hid (∀ t, t < j → aheadB M m l t) ∧ SeenN g m (fun z => (l.take j).contains (z : Int)) wr ∧ But [g] W1 wr) (fun iv _ => m - (intOf iv).toNat)
  case atStart => exact ⟨0, by omega, rfl, Lib.hid rfl, Lib.hid (fun t ht => by omega), by simpa using HSE.out, But.refl _ _⟩
  case round =>
    obtain ⟨j, hj, rfl, HD, HA, hse, hbt⟩ := hrel
    obtain ⟨wo, rfl⟩ : ∃ wo, wo = wr := ⟨wr, rfl⟩
    have HS := Lib.hid hse
    have HB := Lib.hid hbt
    have XR := Lib.hid (show Ext w wo from hbt.below HX1.out (fun d hd => by rw [List.mem_singleton] at hd; rw [hd]; exact HG.out))
    by_cases hlt : j < m
    · obtain ⟨b, o, rfl, -, -⟩ := HQ.out.at_ j hlt
      have hc : wo.cell? ⟨b, o + j, none⟩ = some (.int .i64 (l[j]?.getD 0)) := by
        obtain ⟨b', o', he, _, h⟩ := HQ.out.at_ j hlt
        cases he
        exact XR.out.cell_some h
      have lb := cell_lt hc
      have hji : (j : Int) < (m : Int) := by omega
      have HTK := Lib.hid (show l.take (j + 1) = l.take j ++ [l[j]?.getD 0] from take_snoc (by rw [HLN.out]; exact hlt))
      have HDJ := Lib.hid (show diffTo l m (j + 1) = (decide (0 ≤ l[j]?.getD 0) && decide (l[j]?.getD 0 < (m : Int)) && !(l.take j).contains (l[j]?.getD 0)) by
        show (diffTo l m j && _) = _
        rw [HD.out, Bool.true_and])
      have HNJ := Lib.hid fun (h : diffTo l m (j + 1) = false) => HNO.out (orderMB_diff (HLN.out) (by omega) h)
      have HMN := Lib.hid fun (p : Nat) (h1 : (l.take j).contains (p : Int) = false) (h2 : M p (l[j]?.getD 0).toNat = true) => HNO.out (orderMB_no HRN.out h16 (by rw [HLN.out]; exact hlt) h1 h2)
      have HAJ := Lib.hid fun (h : ∀ p : Nat, p < m → (l.take j).contains (p : Int) = false → (p : Int) ≠ l[j]?.getD 0 → M p (l[j]?.getD 0).toNat = false) => (show ∀ t, t < j + 1 → aheadB M m l t from fun t ht => by
        rcases (by omega : t < j ∨ t = j) with h' | rfl
        · exact HA.out t h'
        · exact h)
      generalize l[j]?.getD 0 = x at *
      clear hse hbt
      cases hin : inB 0 ((m : Int) - 1) x
      · have HF := Lib.hid (HNJ.out (by
          rw [HDJ.out]
          rcases (by have := inB_false.1 hin; omega : x < 0 ∨ (m : Int) ≤ x) with h | h
          · rw [decide_eq_false (show ¬ 0 ≤ x by omega)]; rfl
          · rw [decide_eq_false (show ¬ x < (m : Int) by omega), Bool.and_false]; rfl))
        have HGX := Lib.hid fun W : World => (show Calls Try.prog 63 #[.int .i64 x, .int .i64 0, .int .i64 ((m : Int) - 1)] W fun e w' => e = .returned (.bool false) ∧ W = w' from hin ▸ HWI.out x W)
        clear hin
        go_wp2_with fail
        refine (HGX.out _).mono ?_
        rintro e _ ⟨rfl, rfl⟩
        go_wp2_with fail
        go_ret
        exact ⟨by rw [HF.out]; rfl, XR.out⟩
      have HGX := Lib.hid fun W : World => (show Calls Try.prog 63 #[.int .i64 x, .int .i64 0, .int .i64 ((m : Int) - 1)] W fun e w' => e = .returned (.bool true) ∧ W = w' from hin ▸ HWI.out x W)
      obtain ⟨q, rfl⟩ : ∃ q : Nat, x = (q : Int) := ⟨x.toNat, by have := (inB_iff.1 hin).1; omega⟩
      have hqm : q < m := by have := (inB_iff.1 hin).2; omega
      have hqi : (q : Int) < (m : Int) := by omega
      rw [Int.toNat_natCast] at HMN HAJ
      clear hin
      obtain ⟨s0, s1⟩ := HS.out q hqm
      simp only at s0
      have ls := cell_lt s0
      cases hcon : (l.take j).contains (q : Int) with
      | true =>
        have HF := Lib.hid (HNJ.out (by rw [HDJ.out, hcon, Bool.not_true, Bool.and_false]))
        rw [hcon] at s0
        clear hcon
        go_wp2_with fail
        refine (HGX.out _).mono ?_
        rintro e _ ⟨rfl, rfl⟩
        go_wp2_with fail
        go_ret
        exact ⟨by rw [HF.out]; rfl, XR.out⟩
      | false =>
        have HOD := Lib.hid (show diffTo l m (j + 1) = true by rw [HDJ.out, hcon, decide_eq_true (show (0 : Int) ≤ q by omega), decide_eq_true hqi]; rfl)
        rw [hcon] at s0
        clear hcon
        go_wp2_with fail
        refine (HGX.out _).mono ?_
        rintro e _ ⟨rfl, rfl⟩
        go_wp2_with fail
        go_loopw [8] (fun iv wr => ∃ p : Nat, p ≤ m ∧ iv = .int .i64 (p : Int) ∧ Hid (∀ z : Nat, z < p → (l.take j).contains (z : Int) = false → (z : Int) ≠ (q : Int) → M z q = false) ∧ Ext wo wr) (fun iv _ => m - (intOf iv).toNat)
        case atStart => exact ⟨0, by omega, rfl, Lib.hid (fun z hz => by omega), Ext.refl _⟩
        case round =>
          obtain ⟨p, hp, rfl, HN, hx⟩ := hrel
          have HXI := Lib.hid hx
          replace hc := hx.cell_some hc
          replace lb := cell_lt hc
          by_cases hlp : p < m
          · have hpi : (p : Int) < (m : Int) := by omega
            obtain ⟨t0, t1⟩ := HS.out.ext hx p hlp
            simp only at t0
            have lt := cell_lt t0
            obtain ⟨cc, hcc⟩ : ∃ cc, cc = (l.take j).contains (p : Int) := ⟨_, rfl⟩
            rw [← hcc] at t0
            have HCC := Lib.hid hcc
            have HNX := Lib.hid fun (h : (l.take j).contains (p : Int) = false → (p : Int) ≠ (q : Int) → M p q = false) => (show ∀ z : Nat, z < p + 1 → (l.take j).contains (z : Int) = false → (z : Int) ≠ (q : Int) → M z q = false from fun z hz => by
              rcases (by omega : z < p ∨ z = p) with h' | rfl
              · exact HN.out z h'
              · exact h)
            clear hcc hx s0 s1 ls
            cases cc
            · by_cases hpq : p = q
              · subst hpq
                have hb1 : ((p : Int) != (p : Int)) = false := by simp
                have HN2 := Lib.hid (HNX.out fun _ h => absurd rfl h)
                clear HNX
                go_wp2_with fail
                try go_frame
                refine wp_region_bext (by kernel_rfl) (by kernel_rfl) ?_
                repeat (any_goals (go_big_quiet_step (fail)))
                all_goals refine wpQuiet_nil ?_
                all_goals rintro _ ⟨δ, rfl⟩
                have HX6 := Lib.hid (HXI.out.trans (show Ext wr δ.wd from ⟨δ, rfl⟩))
                generalize δ.wd = W6 at *
                go_wp2_with fail
                go_roundw
                case rel => exact ⟨p + 1, by omega, by go_num, HN2, HX6.out⟩
                case measure => simp [intOf]; omega
              · have hb1 : ((p : Int) != (q : Int)) = true := by simp; omega
                obtain ⟨h0, h1, h2, h3, h4, h5, h6, h7, h8, h9, h10, h11, h12⟩ := (show WkAt k (.slice A m c) w.heap.size W1 from HWK.out) |> fun h => (show WkAt k (.slice A m c) w.heap.size wr from by
                  have hne : w.heap.size ∉ [g] := by rw [List.mem_singleton]; have := HGW.out; omega
                  obtain ⟨a0, a1, a2, a3, a4, a5, a6, a7, a8, a9, a10, a11, a12⟩ := h
                  exact (show WkAt k (.slice A m c) w.heap.size wo from ⟨HB.out.cell a0 hne, HB.out.cell a1 hne, HB.out.cell a2 hne, HB.out.cell a3 hne, HB.out.cell a4 hne, HB.out.cell a5 hne, HB.out.cell a6 hne, HB.out.cell a7 hne, HB.out.cell a8 hne, HB.out.cell a9 hne, HB.out.cell a10 hne, HB.out.cell a11 hne, HB.out.cell a12 hne⟩).ext HXI.out)
                have lh := cell_lt h12
                have HFQ := Lib.hid fun (W : World) (x : Ext wr W) => HFI.out p q W (XR.out.trans (HXI.out.trans x)) hlp hqm
                have HMN2 := Lib.hid fun (h : M p q = true) => HMN.out p HCC.out.symm h
                have HN2 := Lib.hid fun (h : M p q = false) => HNX.out fun _ _ => h
                clear HNX hpq HMN HN
                generalize M p q = bb at *
                cases bb
                · replace HN2 := Lib.hid (HN2.out rfl)
                  clear HMN2
                  go_wp2_with fail
                  try go_frame
                  refine wp_region_bext (by kernel_rfl) (by kernel_rfl) ?_
                  repeat (any_goals (go_big_quiet_step ((go_at_call 88; with_reducible exact bext_call (HFQ.out _ (ext_of _))))))
                  all_goals refine wpQuiet_nil ?_
                  all_goals rintro _ ⟨δ, rfl⟩
                  have HX6 := Lib.hid (HXI.out.trans (show Ext wr δ.wd from ⟨δ, rfl⟩))
                  generalize δ.wd = W6 at *
                  go_wp2_with fail
                  go_roundw
                  case rel => exact ⟨p + 1, by omega, by go_num, HN2, HX6.out⟩
                  case measure => simp [intOf]; omega
                · replace HMN2 := Lib.hid (HMN2.out rfl)
                  clear HN2
                  go_wp2_with fail
                  try go_frame
                  refine wp_region_bext (by kernel_rfl) (by kernel_rfl) ?_
                  repeat (any_goals (go_big_quiet_step ((go_at_call 88; with_reducible exact bext_call (HFQ.out _ (ext_of _))))))
                  all_goals refine wpQuiet_nil ?_
                  all_goals rintro _ ⟨δ, rfl⟩
                  have HX6 := Lib.hid (HXI.out.trans (show Ext wr δ.wd from ⟨δ, rfl⟩))
                  generalize δ.wd = W6 at *
                  go_wp2_with fail
                  go_ret
                  exact ⟨by rw [HMN2.out]; rfl, XR.out.trans HX6.out⟩
            · have HN2 := Lib.hid (HNX.out fun h => by rw [← HCC.out] at h; cases h)
              clear HNX
              go_wp2_with fail
              try go_frame
              refine wp_region_bext (by kernel_rfl) (by kernel_rfl) ?_
              repeat (any_goals (go_big_quiet_step (fail)))
              all_goals refine wpQuiet_nil ?_
              all_goals rintro _ ⟨δ, rfl⟩
              have HX6 := Lib.hid (HXI.out.trans (show Ext wr δ.wd from ⟨δ, rfl⟩))
              generalize δ.wd = W6 at *
              go_wp2_with fail
              go_roundw
              case rel => exact ⟨p + 1, by omega, by go_num, HN2, HX6.out⟩
              case measure => simp [intOf]; omega
          · obtain rfl : p = m := by omega
            have HAA := Lib.hid (HAJ.out HN.out)
            obtain ⟨t0, t1⟩ := HS.out.ext hx q hqm
            simp only at t0
            have lt := cell_lt t0
            clear hx s0 s1 ls
            go_wp2_with fail
            go_roundw
            case rel =>
              refine ⟨j + 1, by omega, by go_num, HOD, HAA, SeenN.put (HS.out.ext HXI.out) hqm fun z hz => ?_, (HB.out.ext HXI.out).setCell (by simp) _⟩
              rw [HTK.out]
              by_cases e : z = q
              · subst e
                rw [if_pos rfl]
                simp
              · rw [if_neg e, Bool.eq_iff_iff]
                simp only [List.contains_iff_mem, List.mem_append, List.mem_singleton]
                exact ⟨fun h => h.resolve_right fun h => e (by omega), .inl⟩
            case measure => simp [intOf]; omega
    · obtain rfl : j = m := by omega
      have HF := Lib.hid (HOK.out (orderMB_ok HRN.out h16 HLN.out HD.out HA.out))
      clear hse hbt
      go_wp2_with fail
      go_ret
      exact ⟨by rw [HF.out]; rfl, XR.out⟩
end Go.Proofs.Ytgeapenglcohfaa
