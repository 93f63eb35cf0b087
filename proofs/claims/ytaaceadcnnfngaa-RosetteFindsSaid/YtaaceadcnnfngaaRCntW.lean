/- barleycornref03.counted. Condition: slices read as lists, a rosette and a rubber. -/
import Derived.Test.YtaaceadcnnfngaaRCntP
import Derived.Test.YtaaceadcnnfngaaRMul
import Derived.Test.YtaaceadcnnfngaaRLawT
import Derived.Test.YtaaceadcnnfngaaRCntQ
import Derived.Test.YtaaceadcnnfngaaESlot
namespace Go.Proofs.Ytaaceadcnnfngaa
open Go.RowKit

theorem own_zerosI (W : World) (B K : Nat) (hB : B ≤ W.heap.size) (hK : K ≤ 1000) : intK.Own B (W.alloc (.cells (madeCells #[.int .i64 0] K) 3)) (.slice (some ⟨W.heap.size, 0, none⟩) K K) (List.replicate K 0) := by
  have := EK.Own.lit (K := intK) (B := B) W (madeCells #[.int .i64 0] K) (List.replicate K 0) (by rw [madeCells_one, List.toList_toArray, flat_ints, List.map_replicate]) hB (by simp [maxLen]; omega)
  rw [List.length_replicate] at this
  exact this
/-- What the bits before b add. -/
def partB (gs ls ys : List Int) (first f q s b : Nat) : Int := if b = 0 then 0 else if b = 1 then refA gs ls ys first q s 0 * refV gs ls ys first f (q + 1) (s / 2) else refV gs ls ys first (f + 1) q s
theorem partB_zero {gs ls ys : List Int} {first f q s : Nat} : partB gs ls ys first f q s 0 = 0 := rfl
theorem partB_two {gs ls ys : List Int} {first f q s : Nat} : partB gs ls ys first f q s 2 = refV gs ls ys first (f + 1) q s := rfl
theorem partB_step {gs ls ys : List Int} {first f q s b : Nat} (hb : b < 2) : partB gs ls ys first f q s (b + 1) = partB gs ls ys first f q s b + refA gs ls ys first q s b * refV gs ls ys first f (q + 1) ((s + b * 2 ^ (ys.length - 1)) / 2) := by
  rcases (by omega : b = 0 ∨ b = 1) with rfl | rfl
  · simp [partB]
  · simp [partB, refV]
theorem refA_out {gs ls ys : List Int} {first q s b : Nat} (h1 : ls.length ≤ q) (h2 : b ≠ first / 2 ^ (q - ls.length) % 2) : refA gs ls ys first q s b = 0 := by
  rw [refA, decide_eq_true h1, decide_eq_true h2]
  rfl
theorem refA_no {gs ls ys : List Int} {first q s b : Nat} (h : tchB gs ls ys q (s + b * 2 ^ (ys.length - 1)) = false) : refA gs ls ys first q s b = 0 := by
  rw [refA, h]
  simp
theorem refA_in {gs ls ys : List Int} {first q s b : Nat} (h : tchB gs ls ys q (s + b * 2 ^ (ys.length - 1)) = true) (h1 : q < ls.length) : refA gs ls ys first q s b = if b = 1 then 1 else gs[q]?.getD 0 := by
  rw [refA, h, decide_eq_false (by omega : ¬ ls.length ≤ q), if_pos h1]
  simp
theorem refA_on {gs ls ys : List Int} {first q s b : Nat} (h : tchB gs ls ys q (s + b * 2 ^ (ys.length - 1)) = true) (h1 : ls.length ≤ q) (h2 : b = first / 2 ^ (q - ls.length) % 2) : refA gs ls ys first q s b = 1 := by
  rw [refA, h, ← h2, if_neg (by omega : ¬ q < ls.length)]
  simp

set_option maxRecDepth 100000 in
set_option maxHeartbeats 4000000 in
theorem refCounted_any (u v x : Value) (ls ys gs : List Int) (first : Nat) (w : World) (hu : IsI w u ls) (hv : IsI w v ys) (hx : IsI w x gs) (hf : Fine ls ys) (hg : Fine gs ys) (hl : gs.length = ls.length) (h7 : ys.length ≤ 7) (hfi : first < 2 ^ (ys.length - 1)) :
    Calls Try.prog 83 #[u, v, x, .int .i64 first] w fun e w' => e = .returned (.int .i64 ((wtTo gs 0 first (ys.length - 1) * refV gs ls ys first ls.length (ys.length - 1) first) % 1000000007)) ∧ Ext w w' := by
  have HU := Lib.hid hu
  have HV := Lib.hid hv
  have HXX := Lib.hid hx
  obtain ⟨A, n, c, rfl, hc0, hr, hn⟩ := hu.open_
  obtain ⟨A', m1, c', rfl, hd0, hs, hm⟩ := hv.open_
  obtain ⟨A2, n2, c2, rfl, hd2, ht, hm2⟩ := hx.open_
  have HLX := Lib.hid hr.len
  have HLY := Lib.hid hs.len
  obtain rfl : n = n2 := by rw [← ht.len, hl, HLX.out]
  have f1 := hf.lo
  have f2 := hf.hi
  have f3 := hf.odd
  have f4 := hf.le
  rw [HLX.out] at f1 f2
  rw [HLX.out, HLY.out] at f4
  rw [HLY.out] at f3 h7 hfi
  obtain ⟨m, rfl⟩ : ∃ m, m1 = m + 1 := ⟨m1 - 1, by omega⟩
  rw [Nat.add_sub_cancel] at hfi
  have hK : 2 ^ m ≤ 2 ^ 6 := Nat.pow_le_pow_right (by decide) (by omega)
  have HT := Lib.hid ht
  obtain ⟨K, hKe⟩ : ∃ K, 2 ^ m = K := ⟨_, rfl⟩
  rw [hKe] at hfi hK
  have hsh : IntKind.i64.wrap ((2 : Int) ^ m) = (K : Int) := by
    rw [← hKe, IntWalk.i64_in _ (by
      have : ((2 : Int) ^ m) = ((2 ^ m : Nat) : Int) := by simp
      rw [this, hKe]; omega)]
    simp
  have hmw : IntKind.u64.wrap (m : Int) = (m : Int) := by rw [IntKind.wrap_u64]; omega
  have hmk : ∀ w : World, (Instr.makeSlice 22 (.int .i64 (K : Int)) (.int .i64 (K : Int))).run Try.prog w = .ok (.slice (some ⟨w.heap.size, 0, none⟩) K K) (w.alloc (.cells (madeCells #[.int .i64 0] K) 3)) := fun w =>
    run_make_row' (P := Try.prog) 22 3 (.int .i64 0) 8 Try.underlying22 intInfo rfl .i64 .i64 K (by omega) (by omega) w
  have hmc : ∀ (W : World), (W.alloc (.cells (madeCells #[.int .i64 0] K) 3)).cell? ⟨W.heap.size, first, none⟩ = some (.int .i64 0) := fun W => by
    rw [cell_of_row _ _ _ _ _ _ (heap_alloc_new W _), madeCells_one]
    simp [hfi]
  have hmf : ∀ (W : World), (W.alloc (.cells (madeCells #[.int .i64 0] K) 3)).frozen? ⟨W.heap.size, first, none⟩ = false := fun W => frozen_of_row _ _ _ _ _ (heap_alloc_new W _)
  obtain ⟨C, hC⟩ : ∃ C, wtTo gs 0 first (ys.length - 1) * refV gs ls ys first ls.length (ys.length - 1) first = C := ⟨_, rfl⟩
  rw [hC]
  rw [HLX.out, HLY.out, Nat.add_sub_cancel] at hC
  have HCE := Lib.hid hC
  have HF := Lib.hid hf
  have HG := Lib.hid hg
  have HL := Lib.hid hl
  have HKE := Lib.hid hKe
  have hK1 : 1 ≤ K := by omega
  clear hC hf hg hl hKe
  clear hu hv hx hr hs ht
  go_enter Try.func83, Try.ntmps83
  go_wp2_with fail
  refine lay_wp (fun W => intK.Own w.heap.size W (.slice (some ⟨w.heap.size, 0, none⟩) K K) ((List.replicate K 0).set first 1) ∧ Ext w W) ⟨?_, ?_⟩ ?_
  · have := EK.Own.lit (K := intK) (B := w.heap.size) w ((madeCells #[.int .i64 0] K).setIfInBounds first (.int .i64 1)) ((List.replicate K 0).set first 1) (by rw [Array.toList_setIfInBounds, madeCells_one, List.toList_toArray, flat_ints, List.map_set, List.map_replicate]) (Nat.le_refl _) (by simp [maxLen]; omega)
    rw [List.length_set, List.length_replicate] at this
    exact this
  · exact (Ext.refl w).alloc _
  rintro Wa ⟨ho, hx⟩
  have HO := Lib.hid ho
  have HXA := Lib.hid hx
  clear ho hx hmc hmf
  go_loopw [12] (fun qv W => ∃ (q : Nat) (y : Int), q ≤ m ∧ qv = .int .i64 (q : Int) ∧ Hid (WtIs gs first m 1000000007 q y) ∧ intK.Own w.heap.size W (.slice (some ⟨w.heap.size, 0, none⟩) K K) ((List.replicate K 0).set first y) ∧ Ext w W) (fun qv _ => m - (intOf qv).toNat)
  case atStart => exact ⟨0, 1, by omega, rfl, Lib.hid (WtIs.start (by omega)), HO.out, HXA.out⟩
  case round =>
    obtain ⟨q, y, hq, rfl, HWT, ho, hx⟩ := hrel
    have HOQ := Lib.hid ho
    have HX := Lib.hid hx
    by_cases hlq : q < m
    · have hqm : (q : Int) < (m : Int) := by omega
      have hqn : q < n := by omega
      obtain ⟨bq, oq, rfl, _, hcq⟩ := HT.out.at_ q hqn
      replace hcq := hx.cell_some hcq
      have lcq := cell_lt hcq
      obtain ⟨g', cg, hge, _, hgl, hgc, hgf⟩ := ho.slot (j := first) (by simp; exact hfi)
      simp only [Value.slice.injEq, Option.some.injEq, Addr.mk.injEq] at hge
      obtain ⟨⟨rfl, -⟩, -, -⟩ := hge
      have g0 := hgc 0 _ rfl
      simp only [intK, Nat.mul_one, Nat.add_zero, List.getElem_set_self] at g0
      have gf := hgf first
      have ⟨gb1, gb2⟩ := HG.out.hx q
      have ⟨y1, y2⟩ := HWT.out.bd
      have s5 : IntKind.u64.wrap (q : Int) = (q : Int) := by rw [IntKind.wrap_u64]; omega
      obtain ⟨fq, hfq⟩ : ∃ fq, first / 2 ^ q = fq := ⟨_, rfl⟩
      have hfl : fq < 64 := by rw [← hfq]; exact Nat.lt_of_le_of_lt (Nat.div_le_self _ _) (by omega)
      have s7 : (first : Int) / 2 ^ q = (fq : Int) := by rw [← hfq, Int.natCast_ediv]; simp
      obtain ⟨bb, hbb⟩ : ∃ bb, bb = ((fq : Int) % 2 == 1) := ⟨_, rfl⟩
      have hbe : (if first / 2 ^ q % 2 = 1 then 1 else gs[q]?.getD 0) = if bb = true then 1 else gs[q]?.getD 0 := by
        rw [hbb, hfq]
        by_cases h : fq % 2 = 1
        · rw [if_pos h, if_pos (by simp; omega)]
        · rw [if_neg h, if_neg (by simp; omega)]
      obtain ⟨gq, hgq⟩ : ∃ z, z = gs[q]?.getD 0 := ⟨_, rfl⟩
      rw [← hgq] at hcq gb1 gb2 hbe
      obtain ⟨wg, hwg⟩ : ∃ wg, wg = if bb = true then 1 else gq := ⟨_, rfl⟩
      have hw1 : 0 ≤ wg ∧ wg ≤ 10000 := by rw [hwg]; split <;> omega
      have HWG := Lib.hid fun W => (show Calls Try.prog 97 #[.int .i64 gq, .bool bb] W fun e w' => e = .returned (.int .i64 wg) ∧ W = w' from by
        have := weight_any gq bb W
        rwa [← hwg] at this)
      obtain ⟨pr1, pr2⟩ : 0 ≤ y * wg ∧ y * wg ≤ 1000000007 * 10000 := ⟨Int.mul_nonneg y1 hw1.1, Int.mul_le_mul (by omega) hw1.2 hw1.1 (by omega)⟩
      have s8 : IntKind.i64.wrap (y * wg) = y * wg := IntWalk.i64_in _ (by omega)
      obtain ⟨z, hz⟩ : ∃ z, z = (y * wg) % 1000000007 := ⟨_, rfl⟩
      have s9 : (y * wg).tmod 1000000007 = z := by rw [hz]; exact Int.tmod_eq_emod_of_nonneg pr1
      have s9' : (y * wg) % 1000000007 = z := hz.symm
      have HNX := Lib.hid (HWT.out.step (z := z) (by omega) hlq (by rw [hgq] at hbe hwg; rw [hbe, ← hwg, hz]))
      have hb1 : ((fq : Int) % 2 == 1) = bb := hbb.symm
      have hb2 : ((fq : Int).tmod 2 == 1) = bb := by rw [Int.tmod_eq_emod_of_nonneg (by omega)]; exact hb1
      have hzb : 0 ≤ z ∧ z < 1000000007 := HNX.out.bd
      obtain ⟨z1, z2⟩ := hzb
      have q1 := But.cells (D := []) hcq (by simp)
      have q2 := But.cells (D := []) g0 (by simp)
      have HGF := Lib.hid (And.intro g0 gf)
      clear hgc hgf ho hx hbb hbe hwg hw1 hz hfq g0 gf hgq
      go_wp2_with fail
      refine (wpIn_wide (n := 3)).1 ?_
      refine wpIn_region_steps [] 20 [(0, true), (1, true), (2, true), (3, true), (4, true), (5, true), (6, true), (7, true), (8, true), (9, true), (10, true), (11, true), (12, true), (13, true), (14, true), (15, true), (16, true), (17, true), (18, true), (19, true)] (by kernel_rfl) (by kernel_rfl) ?_
      iterate 16 (refine wpSD_q (by rfl) (fun _ _ _ => trivial) (fun K hK => ?_); go_simp; refine hK _ ?_; clear hK K)
      refine wpSD_q (by rfl) (fun _ _ _ => trivial) (fun K hK => ?_)
      go_simp
      refine ⟨.int .i64 wg, fun δ => callsIn_wide.2 ((HWG.out δ.wd).mono fun e w' h => ⟨h.1, (h.2 ▸ Ext.refl _ : Ext _ _)⟩), hK _ ?_⟩
      clear hK K
      iterate 3 (refine wpSD_q (by rfl) (fun _ _ _ => trivial) (fun K hK => ?_); go_simp; refine hK _ ?_; clear hK K)
      refine wpSD_nil ?_
      intro W6 x6
      have HX6 := Lib.hid x6
      have k0 := x6.cell_some HGF.out.1
      have kf := x6.frozen HGF.out.1 HGF.out.2
      have lk := cell_lt k0
      clear x6 q1 q2
      simp only [List.drop_succ_cons, List.drop_zero]
      gi_wp2
      go_wp2_with fail
      go_roundw
      case rel =>
        have h1 := (HOQ.out.ext HX6.out).put1N (by simp) hfi rfl z (.int .i64 z) rfl
        rw [List.set_set] at h1
        exact ⟨q + 1, z, by omega, by go_num, HNX, h1, (HX.out.trans HX6.out).setCell (p := ⟨w.heap.size, first, none⟩) (Nat.le_refl _) _⟩
      case measure => simp [intOf]; omega
    · obtain rfl : m = q := by omega
      clear ho hx
      go_wp2_with fail
      go_loopw [13, 11] (fun qv wv W => ∃ (q g : Nat) (xs : List Int), m ≤ q ∧ q ≤ n + m ∧ qv = .int .i64 (q : Int) ∧ wv = .slice (some ⟨g, 0, none⟩) K K ∧ Hid (DotW (fun s => refV gs ls ys first (n + m - q) q s) 1000000007 K xs C) ∧ intK.Own w.heap.size W (.slice (some ⟨g, 0, none⟩) K K) xs ∧ Ext w W) (fun qv _ _ => n + m - (intOf qv).toNat)
      case atStart =>
        refine ⟨m, w.heap.size, _, by omega, by omega, rfl, rfl, Lib.hid ?_, HOQ.out, HX.out⟩
        have := DotW.start (V := fun s => refV gs ls ys first (n + m - m) m s) (M := 1000000007) (K := K) (t := first) (by omega) hfi HWT.out.bd HWT.out.end
        rw [← HCE.out]
        rwa [Nat.add_sub_cancel] at this ⊢
      case round =>
        obtain ⟨wo, rfl⟩ : ∃ wo, wo = wr := ⟨_, rfl⟩
        obtain ⟨q, g, xs, hq1, hq2, rfl, rfl, HD, ho, hx⟩ := hrel
        have HOX := Lib.hid ho
        have HXO := Lib.hid hx
        have HLXS := Lib.hid HD.out.len
        by_cases hlt : q < n + m
        · have hlt' : (q : Int) < (n : Int) + (m : Int) := by omega
          obtain ⟨f, hfe⟩ : ∃ f, n + m - q = f + 1 := ⟨n + m - q - 1, by omega⟩
          rw [hfe] at HD
          have HFE := Lib.hid hfe
          clear ho hx hfe
          go_wp2_with fail
          refine lay_wp (fun W => intK.Own wo.heap.size W (.slice (some ⟨wo.heap.size, 0, none⟩) K K) (List.replicate K 0) ∧ Ext wo W) ⟨own_zerosI _ _ K (Nat.le_refl _) (by omega), (Ext.refl _).alloc _⟩ ?_
          rintro Wb ⟨hob, hxb⟩
          have HOB := Lib.hid hob
          have HXB := Lib.hid hxb
          have hwo : w.heap.size ≤ wo.heap.size := HXO.out.bel.size
          clear hob hxb
          go_loopw [15] (fun sv W => ∃ (s : Nat) (N : List Int), s ≤ K ∧ sv = .int .i64 (s : Int) ∧ Hid (DotN (fun s => refV gs ls ys first (f + 1) q s) (fun s => refV gs ls ys first f (q + 1) s) 1000000007 xs N s 0) ∧ intK.Own wo.heap.size W (.slice (some ⟨wo.heap.size, 0, none⟩) K K) N ∧ Ext wo W) (fun sv _ => K - (intOf sv).toNat)
          case atStart =>
            refine ⟨0, List.replicate K 0, by omega, rfl, Lib.hid ?_, HOB.out, HXB.out⟩
            have := DotN.start (V := fun s => refV gs ls ys first (f + 1) q s) (V' := fun s => refV gs ls ys first f (q + 1) s) (m := 1000000007) (W := xs) (by omega)
            rwa [HLXS.out] at this
          case round =>
            obtain ⟨s, N, hs, rfl, HN, hoN, hxN⟩ := hrel
            have HON := Lib.hid hoN
            have HXN := Lib.hid hxN
            by_cases hsl : s < K
            · have hsl' : (s : Int) < (K : Int) := by omega
              have hsx : s < xs.length := by rw [HLXS.out]; exact hsl
              clear hoN hxN
              go_wp2_with fail
              go_loopw [16] (fun bv W => ∃ (b : Nat) (N : List Int), b ≤ 2 ∧ bv = .int .i64 (b : Int) ∧ Hid (DotN (fun s => refV gs ls ys first (f + 1) q s) (fun s => refV gs ls ys first f (q + 1) s) 1000000007 xs N s (partB gs ls ys first f q s b)) ∧ intK.Own wo.heap.size W (.slice (some ⟨wo.heap.size, 0, none⟩) K K) N ∧ Ext wo W) (fun bv _ => 2 - (intOf bv).toNat)
              case atStart => exact ⟨0, N, by omega, rfl, HN, HON.out, HXN.out⟩
              case round =>
                obtain ⟨b, N, hb, rfl, HN, hoN, hxN⟩ := hrel
                have HON := Lib.hid hoN
                have HXN := Lib.hid hxN
                by_cases hb2 : b < 2
                · have hb2' : (b : Int) < 2 := by omega
                  obtain ⟨_, cg, hge, _, hgl, hgc, hgf⟩ := (HOX.out.ext hxN).slot hsx
                  simp only [Value.slice.injEq, Option.some.injEq, Addr.mk.injEq] at hge
                  obtain ⟨⟨rfl, -⟩, -, -⟩ := hge
                  have g0 := hgc 0 _ rfl
                  simp only [intK, Nat.mul_one, Nat.add_zero] at g0
                  obtain ⟨x0, hx0⟩ : ∃ x0, x0 = xs[s] := ⟨_, rfl⟩
                  have HX0 := Lib.hid hx0
                  have hxb := HD.out.bd _ (List.getElem_mem hsx)
                  rw [← hx0] at g0 hxb
                  obtain ⟨hxb1, hxb2⟩ := hxb
                  clear hgc hgf hx0 hoN hxN
                  by_cases hx1 : 0 < x0
                  · have hb1 : b ≤ 1 := by omega
                    obtain ⟨bk, hbk⟩ : ∃ bk, b * K = bk := ⟨_, rfl⟩
                    have hbkl : bk ≤ K := by
                      rw [← hbk]
                      have := Nat.mul_le_mul_right K hb1
                      omega
                    have s1 : IntKind.i64.wrap ((b : Int) * 2 ^ m) = (bk : Int) := by
                      rw [show (b : Int) * 2 ^ m = (bk : Int) by rw [← hbk, ← HKE.out]; simp]
                      exact IntWalk.i64_in _ (by omega)
                    obtain ⟨h, hh⟩ : ∃ h, (s + bk) / 2 = h := ⟨_, rfl⟩
                    have hhK : h < K := by omega
                    have s2 : ((s : Int) + (bk : Int)).tdiv 2 = (h : Int) := by
                      rw [show (s : Int) + (bk : Int) = ((s + bk : Nat) : Int) by simp, Int.tdiv_eq_ediv_of_nonneg (by omega)]
                      omega
                    have s3 : ((s : Int) + (bk : Int)) / 2 = (h : Int) := by omega
                    have s4 : IntKind.i64.wrap (h : Int) = (h : Int) := IntWalk.i64_in _ (by omega)
                    have hq96 : q ≤ 1000 := by omega
                    obtain ⟨tb, htb⟩ : ∃ tb, tb = tchB gs ls ys q (s + bk) := ⟨_, rfl⟩
                    have HTC := Lib.hid fun (W : World) (x : Ext w W) => (show Calls Try.prog 98 #[.slice A n c, .slice A' (m + 1) c', .slice A2 n c2, .int .i64 ((q : Int) - (m : Int) / 2), .int .i64 ((s : Int) + (bk : Int))] W fun e w' => e = .returned (.bool tb) ∧ Ext W w' from by
                      have := refTouched_any _ _ _ ls ys gs q (s + bk) W (HU.out.ext x) (HV.out.ext x) (HXX.out.ext x) HF.out HG.out HL.out hq96 (by omega)
                      rw [HLY.out, ← htb] at this
                      rw [show (((m + 1 : Nat) : Int) - 1) = (m : Int) by omega, show ((s + bk : Nat) : Int) = (s : Int) + (bk : Int) by simp] at this
                      exact this)
                    have HTB := Lib.hid (show tchB gs ls ys q (s + b * 2 ^ (ys.length - 1)) = tb by rw [HLY.out, Nat.add_sub_cancel, HKE.out, hbk, htb])
                    have HPB := Lib.hid (show partB gs ls ys first f q s (b + 1) = partB gs ls ys first f q s b + refA gs ls ys first q s b * refV gs ls ys first f (q + 1) h by
                      have := partB_step (gs := gs) (ls := ls) (ys := ys) (first := first) (f := f) (q := q) (s := s) hb2
                      rwa [HLY.out, Nat.add_sub_cancel, HKE.out, hbk, hh] at this)
                    have m2 : 0 ≤ (m : Int) / 2 := by omega
                    have m3 : (m : Int) / 2 ≤ 3 := by omega
                    clear htb hh hbk
                    by_cases hqn : q < n
                    · have hqn' : (q : Int) < (n : Int) := by omega
                      have hqn2 : ¬ (n : Int) ≤ (q : Int) := by omega
                      cases tb
                      · go_wp2_with fail
                        refine (HTC.out _ (HXO.out.trans HXN.out)).mono ?_
                        rintro e W4 ⟨rfl, x4⟩
                        have HX4 := Lib.hid x4
                        clear x4 g0
                        go_wp2_with fail
                        go_roundw
                        case rel => exact ⟨b + 1, N, by omega, by go_num, Lib.hid (HN.out.skip (by rw [HPB.out, refA_no HTB.out, Int.zero_mul, Int.add_zero])), HON.out.ext HX4.out, HXN.out.trans HX4.out⟩
                        case measure => simp [intOf]; omega
                      · obtain ⟨bq, oq, rfl, _, hcq⟩ := HT.out.at_ q hqn
                        obtain ⟨gb1, gb2⟩ := HG.out.hx q
                        obtain ⟨gq, hgq⟩ : ∃ z, z = gs[q]?.getD 0 := ⟨_, rfl⟩
                        rw [← hgq] at hcq gb1 gb2
                        obtain ⟨bb, hbb⟩ : ∃ bb, bb = ((b : Int) == 1) := ⟨_, rfl⟩
                        obtain ⟨wg, hwg⟩ : ∃ wg, wg = if bb = true then 1 else gq := ⟨_, rfl⟩
                        have hw1 : 0 ≤ wg ∧ wg ≤ 10000 := by rw [hwg]; split <;> omega
                        have HWG := Lib.hid fun W => (show Calls Try.prog 97 #[.int .i64 gq, .bool bb] W fun e w' => e = .returned (.int .i64 wg) ∧ W = w' from by
                          have := weight_any gq bb W
                          rwa [← hwg] at this)
                        have HWV := Lib.hid (show refA gs ls ys first q s b = wg by
                          rw [refA_in HTB.out (by rw [HLX.out]; exact hqn), hwg, hbb, hgq]
                          by_cases h : b = 1
                          · rw [if_pos h, if_pos (by simp; omega)]
                          · rw [if_neg h, if_neg (by simp; omega)])
                        have hbb' : ((b : Int) == 1) = bb := hbb.symm
                        obtain ⟨pr1, pr2⟩ : 0 ≤ x0 * wg ∧ x0 * wg ≤ 1000000007 * 10000 := ⟨Int.mul_nonneg hxb1 hw1.1, Int.mul_le_mul (by omega) hw1.2 hw1.1 (by omega)⟩
                        have s8 : IntKind.i64.wrap (x0 * wg) = x0 * wg := IntWalk.i64_in _ (by omega)
                        obtain ⟨z, hz⟩ : ∃ z, z = (x0 * wg) % 1000000007 := ⟨_, rfl⟩
                        have s9 : (x0 * wg).tmod 1000000007 = z := by rw [hz]; exact Int.tmod_eq_emod_of_nonneg pr1
                        have s9' : (x0 * wg) % 1000000007 = z := hz.symm
                        have HZ := Lib.hid (show z % 1000000007 = (xs[s] * wg) % 1000000007 by rw [hz, Int.emod_emod, HX0.out])
                        have hz1 : 0 ≤ z ∧ z < 1000000007 := by rw [hz]; exact ⟨Int.emod_nonneg _ (by omega), Int.emod_lt_of_pos _ (by omega)⟩
                        obtain ⟨hz1, hz2⟩ := hz1
                        clear hbb hwg hw1 hgq hz
                        go_wp2_with fail
                        refine (HTC.out _ (HXO.out.trans HXN.out)).mono ?_
                        rintro e W4 ⟨rfl, x4⟩
                        have hlN : N.length = K := by have := HN.out.len; rw [HLXS.out] at this; exact this
                        obtain ⟨_, cg, hge, _, hgl2, hgc, hgf⟩ := (HON.out.ext x4).slot (j := h) (by rw [hlN]; exact hhK)
                        simp only [Value.slice.injEq, Option.some.injEq, Addr.mk.injEq] at hge
                        obtain ⟨⟨rfl, -⟩, -, -⟩ := hge
                        have k0 := hgc 0 _ rfl
                        have kf := hgf h
                        simp only [intK, Nat.mul_one, Nat.add_zero] at k0
                        obtain ⟨y0, hy0⟩ : ∃ y0, y0 = N[h]'(by rw [hlN]; exact hhK) := ⟨_, rfl⟩
                        have HY0 := Lib.hid hy0
                        obtain ⟨hyb1, hyb2⟩ := HN.out.bd _ (List.getElem_mem (show h < N.length by rw [hlN]; exact hhK))
                        rw [← hy0] at k0 hyb1 hyb2
                        obtain ⟨y1, hy1⟩ : ∃ y1, y1 = (y0 + z) % 1000000007 := ⟨_, rfl⟩
                        have HY1 := Lib.hid hy1
                        have t9 : (y0 + z).tmod 1000000007 = y1 := by rw [hy1]; exact Int.tmod_eq_emod_of_nonneg (by omega)
                        have t9' : (y0 + z) % 1000000007 = y1 := hy1.symm
                        have HX4 := Lib.hid x4
                        replace g0 := x4.cell_some g0
                        replace hcq := ((HXO.out.trans HXN.out).trans x4).cell_some hcq
                        replace hgl := cell_lt g0
                        have lq := cell_lt hcq
                        clear x4 hgc hgf hy0 hy1
                        go_wp2_with fail
                        refine (HWG.out _).mono ?_
                        rintro e _ ⟨rfl, rfl⟩
                        go_wp2_with fail
                        go_roundw
                        case rel =>
                          have hhN : h < N.length := by rw [hlN]; exact hhK
                          have h1 := (HON.out.ext HX4.out).put1N hlN hhK rfl y1 (.int .i64 y1) rfl
                          have h2 := HN.out.put (z := y1) (a := wg) (by omega) hsx hhN HZ.out (by rw [HY1.out, HY0.out])
                          exact ⟨b + 1, N.set h y1, by omega, by go_num, Lib.hid (by rw [HPB.out, HWV.out]; exact h2), h1, (HXN.out.trans HX4.out).setCell (p := ⟨wo.heap.size, h, none⟩) (Nat.le_refl _) _⟩
                        case measure => simp [intOf]; omega
                    · have hqn' : ¬ (q : Int) < (n : Int) := by omega
                      have hqn2 : (n : Int) ≤ (q : Int) := by omega
                      obtain ⟨d, hd⟩ : ∃ d : Nat, q = n + d := ⟨q - n, by omega⟩
                      have e0 : (q : Int) - (n : Int) = (d : Int) := by omega
                      have e1 : IntKind.u64.wrap (d : Int) = (d : Int) := by rw [IntKind.wrap_u64]; omega
                      obtain ⟨fq, hfq⟩ : ∃ fq, first / 2 ^ d = fq := ⟨_, rfl⟩
                      have hfl : fq < 64 := by rw [← hfq]; exact Nat.lt_of_le_of_lt (Nat.div_le_self _ _) (by omega)
                      have s7 : (first : Int) / 2 ^ d = (fq : Int) := by rw [← hfq, Int.natCast_ediv]; simp
                      obtain ⟨p2, hp2⟩ : ∃ p2, fq % 2 = p2 := ⟨_, rfl⟩
                      have e2 : (fq : Int) % 2 = (p2 : Int) := by omega
                      have e3 : (fq : Int).tmod 2 = (p2 : Int) := by rw [Int.tmod_eq_emod_of_nonneg (by omega)]; exact e2
                      have HP2 := Lib.hid (show first / 2 ^ (q - ls.length) % 2 = p2 by rw [HLX.out, hd, Nat.add_sub_cancel_left, hfq, hp2])
                      have HQL := Lib.hid (show ls.length ≤ q by rw [HLX.out]; omega)
                      clear hfq hp2 hd
                      by_cases hbp : b = p2
                      · subst hbp
                        have HON1 := Lib.hid fun (h : tb = true) => refA_on (HTB.out.trans h) HQL.out HP2.out.symm
                        cases tb
                        · go_wp2_with fail
                          refine (HTC.out _ (HXO.out.trans HXN.out)).mono ?_
                          rintro e W4 ⟨rfl, x4⟩
                          have HX4 := Lib.hid x4
                          clear x4 g0
                          go_wp2_with fail
                          go_roundw
                          case rel => exact ⟨b + 1, N, by omega, by go_num, Lib.hid (HN.out.skip (by rw [HPB.out, refA_no HTB.out, Int.zero_mul, Int.add_zero])), HON.out.ext HX4.out, HXN.out.trans HX4.out⟩
                          case measure => simp [intOf]; omega
                        · go_wp2_with fail
                          refine (HTC.out _ (HXO.out.trans HXN.out)).mono ?_
                          rintro e W4 ⟨rfl, x4⟩
                          have hlN : N.length = K := by have := HN.out.len; rw [HLXS.out] at this; exact this
                          obtain ⟨_, cg, hge, _, hgl2, hgc, hgf⟩ := (HON.out.ext x4).slot (j := h) (by rw [hlN]; exact hhK)
                          simp only [Value.slice.injEq, Option.some.injEq, Addr.mk.injEq] at hge
                          obtain ⟨⟨rfl, -⟩, -, -⟩ := hge
                          have k0 := hgc 0 _ rfl
                          have kf := hgf h
                          simp only [intK, Nat.mul_one, Nat.add_zero] at k0
                          obtain ⟨y0, hy0⟩ : ∃ y0, y0 = N[h]'(by rw [hlN]; exact hhK) := ⟨_, rfl⟩
                          have HY0 := Lib.hid hy0
                          obtain ⟨hyb1, hyb2⟩ := HN.out.bd _ (List.getElem_mem (show h < N.length by rw [hlN]; exact hhK))
                          rw [← hy0] at k0 hyb1 hyb2
                          obtain ⟨y1, hy1⟩ : ∃ y1, y1 = (y0 + x0) % 1000000007 := ⟨_, rfl⟩
                          have HY1 := Lib.hid hy1
                          have t9 : (y0 + x0).tmod 1000000007 = y1 := by rw [hy1]; exact Int.tmod_eq_emod_of_nonneg (by omega)
                          have t9' : (y0 + x0) % 1000000007 = y1 := hy1.symm
                          have HX4 := Lib.hid x4
                          replace g0 := x4.cell_some g0
                          replace hgl := cell_lt g0
                          clear x4 hgc hgf hy0 hy1
                          go_wp2_with fail
                          go_roundw
                          case rel =>
                            have hhN : h < N.length := by rw [hlN]; exact hhK
                            have h1 := (HON.out.ext HX4.out).put1N hlN hhK rfl y1 (.int .i64 y1) rfl
                            have h2 := HN.out.put (z := y1) (a := 1) (c := x0) (by omega) hsx hhN (by rw [HX0.out, Int.mul_one]) (by rw [HY1.out, HY0.out])
                            exact ⟨b + 1, N.set h y1, by omega, by go_num, Lib.hid (by rw [HPB.out, HON1.out (by simp)]; exact h2), h1, (HXN.out.trans HX4.out).setCell (p := ⟨wo.heap.size, h, none⟩) (Nat.le_refl _) _⟩
                          case measure => simp [intOf]; omega
                      · have hbp2 : ¬ (b : Int) = (p2 : Int) := by omega
                        go_wp2_with fail
                        go_roundw
                        case rel => exact ⟨b + 1, N, by omega, by go_num, Lib.hid (HN.out.skip (by rw [HPB.out, refA_out HQL.out (by rw [HP2.out]; exact hbp), Int.zero_mul, Int.add_zero])), HON.out, HXN.out⟩
                        case measure => simp [intOf]; omega
                  · have hx2 : ¬ (0 < x0) := hx1
                    go_wp2_with fail
                    go_roundw
                    case rel => exact ⟨s + 1, N, by omega, by go_num, Lib.hid ((HN.out.none hsx (by have := HX0.out; omega) _).next hsx), HON.out, HXN.out⟩
                    case measure => simp [intOf]; omega
                · have hb3 : ¬ (b : Int) < 2 := by omega
                  clear hoN hxN
                  go_wp2_with fail
                  go_roundw
                  case rel =>
                    have hbe : b = 2 := by omega
                    subst hbe
                    exact ⟨s + 1, N, by omega, by go_num, Lib.hid (HN.out.next hsx), HON.out, HXN.out⟩
                  case measure => simp [intOf]; omega
            · obtain rfl : K = s := by omega
              clear hoN hxN
              go_wp2_with fail
              go_roundw
              case rel =>
                refine ⟨q + 1, wo.heap.size, N, by omega, by omega, by go_num, rfl, Lib.hid ?_, HON.out.mono hwo, HXO.out.trans HXN.out⟩
                rw [show n + m - (q + 1) = f by have := HFE.out; omega]
                exact HN.out.end HD.out
              case measure => simp [intOf]; omega
        · obtain rfl : q = n + m := by omega
          have hl1 : first < xs.length := by rw [HLXS.out]; exact hfi
          obtain ⟨_, cg, hge, _, hgl, hgc, hgf⟩ := ho.slot hl1
          simp only [Value.slice.injEq, Option.some.injEq, Addr.mk.injEq] at hge
          obtain ⟨⟨rfl, -⟩, -, -⟩ := hge
          have g0 := hgc 0 _ rfl
          simp only [intK, Nat.mul_one, Nat.add_zero] at g0
          have hp : xs[first]? = some (C % 1000000007) := by
            have := HD.out
            rw [Nat.sub_self] at this
            exact DotW.pick this hfi
          rw [List.getElem?_eq_getElem hl1] at hp
          rw [Option.some.inj hp] at g0
          clear hp hgc hgf ho hx
          go_wp2_with fail
          go_ret
          exact ⟨rfl, HXO.out⟩
end Go.Proofs.Ytaaceadcnnfngaa
