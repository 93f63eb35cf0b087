/- RosetteContact: the law's walk. Condition: slices read as lists. -/
import Derived.Test.YtaaceadcnnfngaaRConP
import Derived.Test.YtaaceadcnnfngaaRLawC
import Derived.Test.YtaaceadcnnfngaaRNee
namespace Go.Proofs.Ytaaceadcnnfngaa
section
/- RConQ: What RosetteContact asks: the plain laws. No program. -/

section
variable {xs ys : List Int} {p : Nat}
/-- How many of the rubber's first j drops touch. -/
def kTo (xs ys : List Int) (p j : Nat) : Nat := ((List.range j).filter (touB xs ys p ((liftL xs ys)[p]?.getD 0))).length
theorem kTo_succ (j : Nat) : kTo xs ys p (j + 1) = kTo xs ys p j + if touB xs ys p ((liftL xs ys)[p]?.getD 0) j then 1 else 0 := by
  unfold kTo
  rw [List.range_succ, List.filter_append, List.length_append]
  cases h : touB xs ys p ((liftL xs ys)[p]?.getD 0) j <;> simp [h]
theorem kTo_len (hf : Fine xs ys) : kTo xs ys p ys.length = (touchesL xs ys p).length := by
  have h := congrArg List.length (sort_touches (p := p) (L := (liftL xs ys)[p]?.getD 0) hf)
  rw [List.length_mergeSort, cTo_eq hf, List.length_map] at h
  exact h
theorem touches_pos (hf : Fine xs ys) (hp : p < xs.length) : 1 ≤ (touchesL xs ys p).length := by
  rw [← kTo_len hf, kTo]
  obtain ⟨j, hj, ht⟩ := lift_ask_ex hf hp
  exact List.length_pos_of_mem (List.mem_filter.2 ⟨List.mem_range.2 hj, ht⟩)
theorem touches_lt (hf : Fine xs ys) {i : Nat} (h0 : 1 ≤ i) (hi : i < (touchesL xs ys p).length) : (touchesL xs ys p)[i - 1]?.getD 0 < (touchesL xs ys p)[i]?.getD 0 := by
  have h := tQ_sorted (xs := xs) (ys := ys) (p := p) (L := (liftL xs ys)[p]?.getD 0) xs.length
  rw [← conTo_eq hf] at h
  unfold touchesL at hi ⊢
  have h2 := List.pairwise_iff_getElem.1 h (i - 1) i (by omega) hi (by omega)
  rw [List.getElem?_eq_getElem hi, List.getElem?_eq_getElem (by omega)]
  exact h2
/-- If just one step is touched, its place among the first j drops. -/
def oneB (xs ys : List Int) (p j q : Nat) : Bool := decide ((touchesL xs ys p).length = 1) && (List.range j).any fun i => touB xs ys p ((liftL xs ys)[p]?.getD 0) i && decide (at_ xs ys p i = q)
theorem oneB_succ (j q : Nat) : oneB xs ys p (j + 1) q = (oneB xs ys p j q || (decide ((touchesL xs ys p).length = 1) && (touB xs ys p ((liftL xs ys)[p]?.getD 0) j && decide (at_ xs ys p j = q)))) := by
  unfold oneB
  rw [List.range_succ, List.any_append]
  cases decide ((touchesL xs ys p).length = 1) <;> simp
theorem oneB_alone (hf : Fine xs ys) (q : Nat) : oneB xs ys p ys.length q = aloneB xs ys p q := by
  rw [Bool.eq_iff_iff, aloneB_iff, oneB, Bool.and_eq_true, decide_eq_true_eq, ← kTo_len hf, kTo]
  simp only [List.any_eq_true, List.mem_range, Bool.and_eq_true, decide_eq_true_eq]
  constructor
  · rintro ⟨h1, j, hj, ht, ha⟩
    refine ⟨j, hj, ha, ht, fun i hi hti => ?_⟩
    obtain ⟨a, he⟩ := List.length_eq_one_iff.1 h1
    have m1 : i ∈ (List.range ys.length).filter (touB xs ys p ((liftL xs ys)[p]?.getD 0)) := List.mem_filter.2 ⟨List.mem_range.2 hi, hti⟩
    have m2 : j ∈ (List.range ys.length).filter (touB xs ys p ((liftL xs ys)[p]?.getD 0)) := List.mem_filter.2 ⟨List.mem_range.2 hj, ht⟩
    rw [he] at m1 m2
    rw [List.mem_singleton.1 m1, List.mem_singleton.1 m2]
  · rintro ⟨j, hj, ha, ht, hu⟩
    refine ⟨?_, j, hj, ht, ha⟩
    have e : (List.range ys.length).filter (touB xs ys p ((liftL xs ys)[p]?.getD 0)) = (List.range ys.length).filter (fun i => decide (i = j)) := by
      refine List.filter_congr fun i hi => ?_
      rw [Bool.eq_iff_iff, decide_eq_true_eq]
      exact ⟨fun h => hu i (List.mem_range.1 hi) h, fun h => by rw [h]; exact ht⟩
    rw [e, filter_one (a := j) (fun i => by simp), if_pos hj]
    rfl
theorem aloneTo_succ (k q : Nat) : aloneTo xs ys (k + 1) q = (aloneTo xs ys k q || aloneB xs ys k q) := by
  unfold aloneTo
  rw [List.range_succ, List.any_append]
  simp
/-- The steps that are needed, one after the other. -/
theorem needTo_at : ∀ (n q : Nat), q < n → needB xs ys q = true → (needTo xs ys q).length < (needTo xs ys n).length ∧ (needTo xs ys n)[(needTo xs ys q).length]?.getD 0 = (q : Int)
  | 0, q, hq, _ => by omega
  | n + 1, q, hq, hb => by
    rw [needTo_succ]
    rcases Nat.eq_or_lt_of_le (Nat.le_of_lt_succ hq) with h | h
    · subst h
      rw [hb]
      simp
    · obtain ⟨h1, h2⟩ := needTo_at n q h hb
      refine ⟨by rw [List.length_append]; omega, ?_⟩
      rw [List.getElem?_append_left h1]
      exact h2
end
end
open Go.RowKit Go.Lib

theorem own_setCellAt {K B o : Nat} {w : World} {sv v : Value} {zs : List Int} (h : OwnI K w sv zs) (hB : B < K) : OwnI K (w.setCell ⟨B, o, none⟩ v) sv zs := by
  refine World.ownsRow.kept h (row := some B) ⟨rfl, rfl, rfl, by simp, fun i _ hi => heap_setCell_other w ⟨B, o, none⟩ i _ (fun e => hi (by simp [e]))⟩ ?_
  rcases hb : sv.ownBlock with _ | r
  · exact .inl rfl
  · refine .inr fun e => ?_
    have := (World.ownsRow.lt h r hb).1
    cases e
    omega

set_option maxRecDepth 100000 in
set_option maxHeartbeats 8000000 in
theorem lawContact_any (u : Value) (f : List Int) (x : Value) (b : List Int) (w : World) (hu : IsI w u f) (hx : IsI w x b) :
    Calls Try.prog 16 #[u, x] w fun e w' => e = .returned (.bool true) ∧ Ext w w' := by
  have S0 := Lib.hid (((Has.nil w).snoc hu).snoc hx)
  have X0 := Lib.hid (Ext.refl w)
  obtain ⟨Au, nu, cu, rfl, _⟩ := hu.open_
  clear hu
  obtain ⟨Ax, nx, cx, rfl, _⟩ := hx.open_
  clear hx
  go_enter Try.func16, Try.ntmps16
  go_wp2_with fail
  refine (alive_any w).mono ?_
  rintro e w1 ⟨rfl, x1⟩
  have S1 := Lib.hid (S0.out.ext x1)
  have X1 := Lib.hid (X0.out.trans x1)
  clear x1 S0 X0
  go_wp2_with fail
  refine lay_calls (fun W => Ext w1 W ∧ W.cell? ⟨w1.heap.size, 0, none⟩ = some (.slice Au nu cu) ∧ W.cell? ⟨w1.heap.size, 1, none⟩ = some (.slice Ax nx cx)) ⟨by (repeat' (first | with_reducible exact Ext.refl _ | with_reducible apply Ext.alloc | with_reducible apply Ext.drew | with_reducible apply Ext.drewN | with_reducible refine Ext.setCell ?_ ?_ _ | with_reducible apply Ext.step | with_reducible assumption | with_reducible exact Nat.le_refl _ | (simp; done) | (simp; omega))), by go_cell, by go_cell⟩ ?_
  rintro w2 ⟨x2, h2_0, h2_1⟩
  have S2 := Lib.hid (S1.out.ext x2)
  have X2 := Lib.hid (X1.out.trans x2)
  clear x2 S1 X1
  refine (great2_any _ _ _ _ f b w2 h2_0 h2_1 (S2.out.get 0 rfl) (S2.out.get 1 rfl)).mono ?_
  rintro e _ ⟨rfl, rfl⟩
  clear h2_0 h2_1
  cases hgr : greatB f b
  rotate_left
  · go_wp2_with fail
    go_ret
    exact ⟨rfl, X2.out⟩
  have hgl : f.length ≤ 120 ∧ b.length ≤ 120 := by simp [greatB] at hgr; omega
  have HGL := Lib.hid hgl
  clear hgl hgr
  go_wp2_with fail
  refine (valid_any _ _ f b w2 (S2.out.get 0 rfl) (S2.out.get 1 rfl)).mono ?_
  rintro e _ ⟨rfl, rfl⟩
  cases vf : validB f b
  · go_wp2_with fail
    go_ret
    exact ⟨rfl, X2.out⟩
  have Hvf := Lib.hid vf
  clear vf
  have Fvf := Lib.hid (fine_iff.1 (of_decide_eq_true Hvf.out))
  have HNu := Lib.hid (show nu = f.length by have := S2.out.get 0 rfl; obtain ⟨_, _, he, _, _, _⟩ := this; cases he; rfl)
  have HNx := Lib.hid (show nx = b.length by have := S2.out.get 1 rfl; obtain ⟨_, _, he, _, _, _⟩ := this; cases he; rfl)
  have HB := Lib.hid (of_decide_eq_true Hvf.out)
  have HNL := Lib.hid (show needL f b = needTo f b f.length by rw [needL, if_pos HB.out])
  go_wp2_with fail
  refine (Lift_val (zs := liftL f b) HB.out rfl (S2.out.get 0 rfl) (S2.out.get 1 rfl)).mono ?_
  rintro e w3 ⟨v3, rfl, o3, x3⟩
  have S3 := Lib.hid ((S2.out.ext x3).snoc o3.isI)
  have X3 := Lib.hid (X2.out.trans x3)
  clear x3 S2 X2 o3
  go_wp2_with fail
  have HA := Lib.hid (Needed_any _ _ f b w3 (S3.out.get 0 rfl) (S3.out.get 1 rfl))
  rw [HB.out, HNL.out] at HA
  refine HA.out.mono ?_
  rintro e w4 ⟨v4, rfl, o4, x4⟩
  have S4 := Lib.hid ((S3.out.ext x4).snoc o4.isI)
  have X4 := Lib.hid (X3.out.trans x4)
  clear x4 S3 X3 o4 HA
  obtain ⟨Al, nl, cl, hl, _, hrl, _⟩ := (S4.out.get 2 rfl).open_
  have hnl : nl = nu := by rw [← hrl.len, liftL_len, HNu.out]
  subst hl hnl
  obtain ⟨An, nn, cn, hn, _, hrn, _⟩ := (S4.out.get 3 rfl).open_
  subst hn
  have HRL := Lib.hid hrl
  have HRN := Lib.hid hrn
  have HNN := Lib.hid hrn.len
  clear hrl hrn
  obtain ⟨Af, nf, cf, hf1, _, hrf, _⟩ := (S4.out.get 0 rfl).open_
  cases hf1
  obtain ⟨Ab, nb, cb, hb1, _, hrb, _⟩ := (S4.out.get 1 rfl).open_
  cases hb1
  have HRF := Lib.hid hrf
  have HRB := Lib.hid hrb
  clear hrf hrb
  have f1 := Fvf.out.lo
  have f2 := Fvf.out.hi
  have f4 := Fvf.out.le31
  have f5 := Fvf.out.odd
  rw [← HNu.out] at f1 f2
  rw [← HNx.out] at f4 f5
  have HMD := Lib.hid (show (nx : Int) = 2 * ((nx : Int) / 2) + 1 by omega)
  have HSP := Lib.hid (show 0 ≤ (nx : Int) / 2 ∧ (nx : Int) / 2 ≤ 15 by omega)
  clear f5
  have hmk : ∀ w : World, (Instr.makeSlice 54 (.int .i64 (nl : Int)) (.int .i64 (nl : Int))).run Try.prog w = .ok (.slice (some ⟨w.heap.size, 0, none⟩) nl nl) (w.alloc (.cells (madeCells #[.bool false] nl) 4)) := fun w =>
    run_make_row' (P := Try.prog) 54 4 (.bool false) 1 Try.underlying54 boolInfo rfl .i64 .i64 nl (by omega) (by omega) w
  go_wp2_with fail
  refine lay_wp (fun W => Ext w4 W ∧ Bools W w4.heap.size nl (aloneTo f b 0)) ⟨by (repeat' (first | with_reducible exact Ext.refl _ | with_reducible apply Ext.alloc | with_reducible apply Ext.drew | with_reducible apply Ext.drewN | with_reducible refine Ext.setCell ?_ ?_ _ | with_reducible apply Ext.step | with_reducible assumption | with_reducible exact Nat.le_refl _ | (simp; done) | (simp; omega))), ⟨?_⟩⟩ ?_
  · rw [madeCells_one, heap_alloc_new]
    simp [List.map_const', aloneTo]
  rintro w5 ⟨x5, b5⟩
  generalize hW : (nx : Int) / 2 = W2 at *
  have HW := Lib.hid hW
  clear hW
  go_loopw [72, 13, 14, 15, 16, 17, 18, 19] (fun i _ _ _ _ _ _ _ wr => ∃ k : Nat, k ≤ nl ∧ i = .int .i64 k ∧ Bools wr w4.heap.size nl (aloneTo f b k) ∧ Ext w4 wr) (fun i _ _ _ _ _ _ _ _ => nl - (intOf i).toNat)
  case atStart => exact ⟨0, by omega, rfl, b5, x5⟩
  case round =>
    obtain ⟨k, hk, rfl, hbk, hxk⟩ := hrel
    clear b5 x5
    have HBK := Lib.hid hbk
    have HXK := Lib.hid hxk
    clear hbk hxk
    generalize wr = w6 at *
    by_cases hlt : k < nl
    · have hdk : decide ((k : Int) < nl) = true := by simp; omega
      have hkf : k < f.length := by rw [← HNu.out]; exact hlt
      have HE := show conEr f b k = 0 by rw [conEr, if_pos HB.out, if_pos (by omega)]
      have HLC := Lib.hid (show conL f b k = touchesL f b k by rw [conL, if_pos HE]; rfl)
      have S6 := Lib.hid (S4.out.ext HXK.out)
      have HA := Lib.hid (Contacts_any _ _ f b k w6 (S6.out.get 0 rfl) (S6.out.get 1 rfl))
      rw [HE, HLC.out] at HA
      clear HE
      go_wp2_with fail
      refine HA.out.mono ?_
      rintro e w7 ⟨v7, rfl, o7, x7⟩
      have HX7 := Lib.hid (HXK.out.trans x7)
      have HB7 := Lib.hid (show Bools w7 w4.heap.size nl (aloneTo f b k) from ⟨(x7.bel.block _ (Array.getElem?_eq_some_iff.1 HBK.out.blk).1).trans HBK.out.blk⟩)
      obtain ⟨At, nt, ct, hvt, _, hrt, _⟩ := o7.isI.open_
      subst hvt
      have HNT := Lib.hid hrt.len
      have HO7 := Lib.hid o7
      have hK6 := HXK.out.bel.size
      have hBlt := (Array.getElem?_eq_some_iff.1 HBK.out.blk).1
      have hnt := touches_pos (p := k) Fvf.out hkf
      rw [HNT.out] at hnt
      have hnt0 : ((nt : Int) == 0) = false := by simp; omega
      have HKL := Lib.hid (kTo_len (p := k) Fvf.out)
      rw [HNT.out, ← HNx.out] at HKL
      obtain ⟨bl, ol, hAl, _, hcl⟩ := HRL.out.at_ k hlt
      subst hAl
      obtain ⟨L, hL⟩ : ∃ L, (liftL f b)[k]?.getD 0 = L := ⟨_, rfl⟩
      rw [hL] at hcl
      have HLL := Lib.hid hL
      have HCL := Lib.hid hcl
      have hs1 := HSP.out.1
      have hs2 := HSP.out.2
      clear o7 hrt x7 hL hcl HA
      go_wp2_with fail
      go_loopw [16, 17, 18] (fun kk jj _ W => ∃ (j : Nat) (J : Int), j ≤ nx ∧ jj = .int .i64 J ∧ Hid (J = (j : Int) - W2) ∧ -W2 ≤ J ∧ J ≤ nx - W2 ∧ kk = .int .i64 (kTo f b k j : Nat) ∧ Bools W w4.heap.size nl (fun q => aloneTo f b k q || oneB f b k j q) ∧ Ext w4 W ∧ OwnI w6.heap.size W (.slice At nt ct) (touchesL f b k)) (fun _ jj _ _ => ((nx : Int) - W2 - intOf jj).toNat)
      case atStart => exact ⟨0, -W2, by omega, rfl, Lib.hid (by omega), by omega, by omega, rfl, HB7.out.congr (fun q _ => by simp [oneB]), HX7.out, HO7.out⟩
      case round =>
        obtain ⟨j, J, hj, rfl, HJ, hJ1, hJ2, rfl, hbj, hxj, hoj⟩ := hrel
        have HBJ := Lib.hid hbj
        have HXJ := Lib.hid hxj
        have HOJ := Lib.hid hoj
        clear hbj hxj hoj
        by_cases hjl : j < nx
        · have hJ3 : J ≤ W2 := by have := HJ.out; have := HMD.out; omega
          have hdj : decide (J ≤ W2) = true := by simpa using hJ3
          obtain ⟨i, hi, hin⟩ := emod_nat ((k : Int) + J) (n := nl) (by omega)
          obtain ⟨t1, t2, t3, t4⟩ := emod_of_tmod (x := (k : Int) + J) (n := (nl : Int)) (by omega)
          have hq : (((k : Int) + J).tmod nl + nl) % nl = (i : Int) := by
            rw [Int.add_emod_right, ← hi]
            rcases Int.lt_or_le (((k : Int) + J).tmod nl) 0 with h | h
            · rw [t4 h, ← Int.add_emod_right, Int.emod_eq_of_lt (by omega) (by omega)]
            · rw [t3 h, Int.emod_eq_of_lt h (by omega)]
          have hat : at_ f b k j = i := by
            unfold at_ plc
            rw [← HNu.out, ← HNx.out, HW.out, ← HJ.out, hi]
            rfl
          have HAT := Lib.hid hat
          have hwj : W2 + J = (j : Int) := by have := HJ.out; omega
          have hn0 : ¬ (nl : Int) = 0 := by omega
          clear t3 t4 hi hat
          obtain ⟨bf, of, hAf, _, hcf⟩ := HRF.out.at_ i hin
          obtain ⟨bb, ob, hAb, _, hcb⟩ := HRB.out.at_ j hjl
          subst hAf hAb
          have c1 := HXJ.out.cell_some hcf
          have c2 := HXJ.out.cell_some hcb
          have c3 := HXJ.out.cell_some ((X4.out |> fun _ => HCL.out))
          have hask : askOf f b b.length k j = f[i]?.getD 0 - b[j]?.getD 0 := by
            rw [askOf_plc f b (by rw [← HNx.out]; exact hjl)]
            have := HAT.out
            unfold at_ at this
            rw [this]
          have hle := lift_ask_le (p := k) Fvf.out hkf (j := j) (by rw [← HNx.out]; exact hjl)
          rw [hask, HLL.out] at hle
          have HTB := Lib.hid (show touB f b k ((liftL f b)[k]?.getD 0) j = decide (f[i]?.getD 0 - b[j]?.getD 0 = L) by rw [touB, hask, HLL.out])
          have HK1 := Lib.hid (kTo_succ (xs := f) (ys := b) (p := k) j)
          have HO1 := Lib.hid fun q => oneB_succ (xs := f) (ys := b) (p := k) j q
          rw [HTB.out] at HK1 HO1
          rw [HAT.out, HNT.out] at HO1
          have ⟨hx1, hx2⟩ := Fvf.out.hx i
          have ⟨hy1, hy2⟩ := Fvf.out.hy j
          clear hask hcf hcb
          generalize f[i]?.getD 0 = xi at *
          generalize b[j]?.getD 0 = yj at *
          have hgt : decide (L < xi - yj) = false := by simp; omega
          have hbc := HBJ.out.cell hin
          have hbf := HBJ.out.frozen i
          generalize hkt : kTo f b k j = kt at *
          have hktl : kt ≤ 1000 := by
            rw [← hkt, kTo]
            exact Nat.le_trans (List.length_filter_le _ _) (by simp; omega)
          clear hkt
          by_cases hd : xi - yj = L
          · have hde : (xi - yj == L) = true := by simpa using hd
            rw [decide_eq_true hd, if_pos rfl] at HK1
            rw [decide_eq_true hd] at HO1
            clear hd
            by_cases h1 : nt = 1
            · have hn1 : ((nt : Int) == 1) = true := by simp; omega
              rw [decide_eq_true h1] at HO1
              clear h1
              go_wp2_with fail
              rw [hq]
              clear hq t1 t2
              go_quiet (fail)
              go_wp2_with fail
              go_quiet (fail)
              go_wp2_with fail
              go_roundw
              case rel =>
                refine ⟨j + 1, J + 1, by omega, rfl, Lib.hid (by have := HJ.out; omega), by omega, by omega, by rw [HK1.out] <;> rfl, ?_, ?_, ?_⟩
                · exact Bools.set (f := fun q => aloneTo f b k q || oneB f b k j q) ⟨HBJ.out.blk⟩ fun q _ => by
                    rw [HO1.out q]
                    by_cases he : q = i
                    · subst he; simp
                    · have : ¬ i = q := fun e => he e.symm
                      simp [he, this]
                · exact (HXJ.out.drewN _).setCell (Nat.le_refl _) _
                · exact own_setCellAt (HOJ.out.ext ((Ext.refl _).drewN _)) (by omega)
              case measure => simp [intOf]; omega
            · have hn1 : ((nt : Int) == 1) = false := by simp; omega
              rw [decide_eq_false h1] at HO1
              clear h1
              go_wp2_with fail
              rw [hq]
              clear hq t1 t2
              go_quiet (fail)
              go_wp2_with fail
              go_quiet (fail)
              go_wp2_with fail
              go_roundw
              case rel =>
                refine ⟨j + 1, J + 1, by omega, rfl, Lib.hid (by have := HJ.out; omega), by omega, by omega, by rw [HK1.out] <;> rfl, ?_, HXJ.out.drewN _, HOJ.out.ext ((Ext.refl _).drewN _)⟩
                exact Bools.congr (f := fun q => aloneTo f b k q || oneB f b k j q) ⟨HBJ.out.blk⟩ fun q _ => by rw [HO1.out q]; simp
              case measure => simp [intOf]; omega
          · have hde : (xi - yj == L) = false := by simpa using hd
            rw [decide_eq_false hd] at HK1
            rw [decide_eq_false hd] at HO1
            clear hd
            go_wp2_with fail
            rw [hq]
            clear hq t1 t2
            go_quiet (fail)
            go_wp2_with fail
            go_quiet (fail)
            go_wp2_with fail
            go_roundw
            case rel =>
              refine ⟨j + 1, J + 1, by omega, rfl, Lib.hid (by have := HJ.out; omega), by omega, by omega, by rw [HK1.out] <;> rfl, ?_, HXJ.out.drewN _, HOJ.out.ext ((Ext.refl _).drewN _)⟩
              exact Bools.congr (f := fun q => aloneTo f b k q || oneB f b k j q) ⟨HBJ.out.blk⟩ fun q _ => by rw [HO1.out q]; simp
            case measure => simp [intOf]; omega
        · obtain rfl : j = nx := by omega
          have hJ3 : ¬ J ≤ W2 := by have := HJ.out; have := HMD.out; omega
          have hdj : decide (J ≤ W2) = false := by simpa using hJ3
          have HK2 := Lib.hid (show (((kTo f b k j : Nat) : Int) != (nt : Int)) = false by rw [HKL.out]; simp)
          have hk2 := HK2.out
          generalize kTo f b k j = kt at *
          have HB8 := Lib.hid (show Bools wr w4.heap.size nl (aloneTo f b (k + 1)) from HBJ.out.congr fun q _ => by rw [aloneTo_succ, HNx.out, oneB_alone Fvf.out])
          generalize wr = w8 at *
          clear hJ3 hJ1 hJ2
          go_wp2_with fail
          go_loopw [19] (fun ii W => ∃ i : Nat, 1 ≤ i ∧ i ≤ nt ∧ ii = .int .i64 i ∧ Ext w8 W) (fun ii _ => nt - (intOf ii).toNat)
          case atStart => exact ⟨1, by omega, hnt, rfl, Ext.refl _⟩
          case round =>
            obtain ⟨i, hi1, hi, rfl, hx9⟩ := hrel
            by_cases hil : i < nt
            · have hdi : decide ((i : Int) < nt) = true := by simp; omega
              obtain ⟨_, _, _, he, _, hrt, _⟩ := HOJ.out.isI.open_
              cases he
              obtain ⟨g, og, hAg, _, hg1⟩ := hrt.at_ i hil
              subst hAg
              obtain ⟨_, _, hAg, _, hg2⟩ := hrt.at_ (i - 1) (by omega)
              cases hAg
              have e1 := hx9.cell_some hg1
              have e2 := hx9.cell_some hg2
              have hlt2 := touches_lt (p := k) Fvf.out hi1 (by rw [HNT.out]; exact hil)
              have him : (i : Int) - 1 = ((i - 1 : Nat) : Int) := by omega
              have himl : i - 1 < nt := by omega
              generalize (touchesL f b k)[i - 1]?.getD 0 = ta at *
              generalize (touchesL f b k)[i]?.getD 0 = tb at *
              have hdt : decide (tb ≤ ta) = false := by simp; omega
              have HX9 := Lib.hid hx9
              generalize i - 1 = i1 at *
              clear hg1 hg2 hrt hx9 hlt2
              go_wp2_with fail
              go_quiet (fail)
              go_wp2_with fail
              go_roundw
              case rel => exact ⟨i + 1, by omega, by omega, by go_num, HX9.out.drewN _⟩
              case measure => simp [intOf]; omega
            · obtain rfl : i = nt := by omega
              have hdi : decide ((i : Int) < i) = false := by simp
              have HX9 := Lib.hid hx9
              clear hx9
              go_wp2_with fail
              go_roundw
              case rel =>
                exact ⟨k + 1, by omega, by go_num, ⟨(HX9.out.bel.block _ (Array.getElem?_eq_some_iff.1 HB8.out.blk).1).trans HB8.out.blk⟩, HXJ.out.trans HX9.out⟩
              case measure => simp [intOf]; omega
    · obtain rfl : k = nl := by omega
      have hdk : decide ((k : Int) < k) = false := by simp
      have HBF := Lib.hid HBK.out
      go_wp2_with fail
      have S6 := Lib.hid (S4.out.ext HXK.out)
      go_loopw [168, 20, 21] (fun i kk _ W => ∃ q : Nat, q ≤ k ∧ i = .int .i64 q ∧ kk = .int .i64 ((needTo f b q).length : Nat) ∧ Ext w6 W) (fun i _ _ _ => k - (intOf i).toNat)
      case atStart => exact ⟨0, by omega, rfl, rfl, Ext.refl _⟩
      case round =>
        obtain ⟨q, hq, rfl, rfl, hx9⟩ := hrel
        have HX9 := Lib.hid hx9
        by_cases hql : q < k
        · have hdq : decide ((q : Int) < k) = true := by simp; omega
          have hbc := hx9.cell_some (HBF.out.cell hql)
          obtain ⟨bf, of, hAf, _, hcf⟩ := HRF.out.at_ q hql
          subst hAf
          have c1 := (HXK.out.trans hx9).cell_some hcf
          have HNB := Lib.hid (needB_alone Fvf.out q)
          rw [← HNu.out] at HNB
          have HNS := Lib.hid (needTo_succ f b q)
          have hnl := needTo_len f b q
          have HAT := Lib.hid fun h => needTo_at (xs := f) (ys := b) f.length q (by rw [← HNu.out]; exact hql) h
          rw [HNN.out] at HAT
          clear hcf hx9
          cases ha : aloneTo f b k q
          · rw [ha] at hbc HNB
            clear ha
            rw [HNB.out, Bool.false_and, if_neg (by decide), List.append_nil] at HNS
            have HLN := Lib.hid (show (needTo f b (q + 1)).length = (needTo f b q).length by rw [HNS.out])
            generalize (needTo f b q).length = ln at *
            go_wp2_with fail
            go_roundw
            case rel => exact ⟨q + 1, by omega, by go_num, by rw [HLN.out], HX9.out⟩
            case measure => simp [intOf]; omega
          · rw [ha] at hbc HNB
            clear ha
            by_cases hz : 0 < f[q]?.getD 0
            · have hzd : decide (0 < f[q]?.getD 0) = true := by simpa using hz
              rw [hzd, Bool.and_self] at HNB
              have hat := HAT.out HNB.out
              have hl1 := hat.1
              have hl2 := hat.2
              obtain ⟨bn, on, hAn, _, hcn⟩ := HRN.out.at_ (needTo f b q).length hl1
              subst hAn
              have c2 := (HXK.out.trans HX9.out).cell_some hcn
              rw [hl2] at c2
              have HLN := Lib.hid (show (needTo f b (q + 1)).length = (needTo f b q).length + 1 by rw [HNS.out, HNB.out, if_pos rfl, List.length_append]; rfl)
              clear hat hl2 hcn
              generalize (needTo f b q).length = ln at *
              have hdl : decide ((nn : Int) ≤ ln) = false := by simp; omega
              go_wp2_with fail
              go_roundw
              case rel => exact ⟨q + 1, by omega, by go_num, by rw [HLN.out] <;> rfl, HX9.out⟩
              case measure => simp [intOf]; omega
            · have hzd : decide (0 < f[q]?.getD 0) = false := by simpa using hz
              rw [hzd, Bool.and_false] at HNB
              rw [HNB.out, if_neg (by decide), List.append_nil] at HNS
              have HLN := Lib.hid (show (needTo f b (q + 1)).length = (needTo f b q).length by rw [HNS.out])
              generalize (needTo f b q).length = ln at *
              go_wp2_with fail
              go_roundw
              case rel => exact ⟨q + 1, by omega, by go_num, by rw [HLN.out], HX9.out⟩
              case measure => simp [intOf]; omega
        · obtain rfl : q = k := by omega
          have hdq : decide ((q : Int) < q) = false := by simp
          have hfin : (((needTo f b q).length : Nat) : Int) = (nn : Int) := by rw [← HNN.out, HNu.out]
          rw [hfin]
          go_wp2_with fail
          go_ret
          exact ⟨rfl, X4.out.trans (HXK.out.trans HX9.out)⟩
theorem lawContact_row (u : Value) (f : List Int) (x : Value) (b : List Int) (w : World) (hu : IsI w u f) (hx : IsI w x b) :
    Calls Try.prog 16 #[u, x] w fun e w' => e = .returned (.bool true) ∧ Ext w w' := lawContact_any u f x b w hu hx
end Go.Proofs.Ytaaceadcnnfngaa
