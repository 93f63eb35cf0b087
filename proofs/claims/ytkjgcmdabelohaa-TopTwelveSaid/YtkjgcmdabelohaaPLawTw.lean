/- TopTwelve: what the law's function returns. Condition: the program's slices read as lists; j lies in its type. -/
import Derived.Test.YtkjgcmdabelohaaPOff
import Derived.Test.YtkjgcmdabelohaaPSrch
namespace Go.Proofs.Ytkjgcmdabelohaa
section
/- PTw2: TopTwelve in plain words: the simplest program and the one that was read have the same cuts. No program. Condition: a valid program of up to 6 shifts. -/
section
/- PKind: pattern.Kind of a valid program. Condition: the program's slices read as lists. -/
open Go.RowKit

/-- How many shifts of the motif stand still; the kind. -/
def stillN (sh : List Int) (t k : Nat) : Nat := ((List.range k).filter fun i => decide ((sh[i]?.getD 0) % (t : Int) = 0)).length
theorem stillN_succ (sh : List Int) (t k : Nat) : stillN sh t (k + 1) = stillN sh t k + if (sh[k]?.getD 0) % (t : Int) = 0 then 1 else 0 := by
  unfold stillN
  rw [List.range_succ, List.filter_append, List.length_append]
  by_cases h : (sh[k]?.getD 0) % (t : Int) = 0 <;> simp [h]
theorem stillN_le (sh : List Int) (t k : Nat) : stillN sh t k ≤ k := by
  unfold stillN
  have := List.length_filter_le (fun i => decide ((sh[i]?.getD 0) % (t : Int) = 0)) (List.range k)
  rwa [List.length_range] at this
def kindOf (t M T S : Nat) : Int := if t = 1 then 1 else if M = 1 then (if T = 0 then 2 else if 2 * T = t then 3 else 4) else if 2 * T = t ∧ S + 1 = M then 5 else 6
def kindN (p : PrT) (t : Nat) : Int := kindOf t (motN p.sh t) (turnN p t) (stillN p.sh t (motN p.sh t))

set_option maxRecDepth 100000 in
set_option maxHeartbeats 16000000 in
theorem Kind_good (p : PrT) (v : PrV) (t : Nat) (w : World) (h : PrIs w v p) (hg : Good p) (ht : LeastT (liftL p.ros p.rub) t) :
    Calls Try.prog 25 #[p.val v] w fun e w' => e = .returned (.tuple #[.int .u8 (kindN p t), .int .i64 0]) ∧ Ext w w' := by
  have HM := Lib.hid fun (W : World) (x : Ext w W) => mounted_good p v W (h.ext x) hg
  have HC := Lib.hid fun (b : Nat) (lv : Value) (W : World) (hb : BenchAt b W p v lv) => motif_any b p v lv t W hb hg ht
  have HPV := Lib.hid (ht.perV hg)
  obtain ⟨m1, m2, -, -⟩ := motN_is (t := t) hg.nums.c1
  have hc2 := hg.nums.c2
  have HNS := Lib.hid hg.nums.sh
  have hn2 := hg.nums.n2
  have ht1 := ht.pos
  have ht2 : t ≤ 96 := by
    have := ht.le (by rw [liftL_len]; have := hg.nums.n1; omega)
    rw [liftL_len] at this
    omega
  have htn : turnN p t < t := Nat.mod_lt _ (by omega)
  have HK := Lib.hid (show kindN p t = kindOf t (motN p.sh t) (turnN p t) (stillN p.sh t (motN p.sh t)) from rfl)
  have hSM := stillN_le p.sh t (motN p.sh t)
  obtain ⟨K, hK⟩ : ∃ K, K = kindN p t := ⟨_, rfl⟩
  rw [← hK] at HK ⊢
  obtain ⟨M, hM⟩ : ∃ M, M = motN p.sh t := ⟨_, rfl⟩
  obtain ⟨T, hT⟩ : ∃ T, T = turnN p t := ⟨_, rfl⟩
  obtain ⟨S, hS⟩ : ∃ S, S = stillN p.sh t M := ⟨_, rfl⟩
  rw [← hM, ← hT] at HC HK
  rw [← hM] at m1 m2 hSM
  rw [← hS] at HK hSM
  rw [← hT] at htn
  have HS := Lib.hid hS
  obtain ⟨rv, bv, sv⟩ := v
  obtain ⟨A, m, ca, hsv, -, hr, -⟩ := h.sh.open_
  obtain ⟨cap1, cap2⟩ := (show IsI w (.slice A m ca) p.sh from hsv ▸ h.sh).caps
  simp only at hsv
  subst hsv
  have hlm := hr.len
  rw [hlm] at m2 hc2
  obtain ⟨bs, os, rfl, _, _⟩ := hr.at_ 0 (by omega)
  have HR := Lib.hid hr
  have HB0 := Lib.hid (BoxAt.new w (p.cells ⟨rv, bv, .slice (some ⟨bs, os, none⟩) m ca⟩) 24)
  clear h hg ht hK hM hT hS hr hlm
  unfold PrT.val PrT.cells at *
  go_enter Try.func25, Try.ntmps25
  go_wp2_with fail
  refine (HM.out _ ((Ext.refl _).alloc _)).mono ?_
  rintro e w1 ⟨b, lv, rfl, hb, hbe, x1⟩
  have HX1 := Lib.hid (((Ext.refl w).alloc _).trans x1)
  have HB1 := Lib.hid (HB0.out.ext x1)
  have HBE := Lib.hid hbe
  clear x1 hbe hb
  go_wp2_with fail
  refine (HC.out _ _ _ HBE.out).mono ?_
  rintro e w2 ⟨rfl, x2⟩
  have HX2 := Lib.hid (HX1.out.trans x2)
  have hbb := HBE.out.box.ext x2
  rw [HPV.out] at hbb
  have HBB := Lib.hid hbb
  have c5 := (HB1.out.ext x2).cell (i := 5) rfl
  have lc := cell_lt c5
  have hMc : (M : Int) ≤ (ca : Int) := by omega
  clear x2 hbb
  go_wp2_with fail
  clear c5 lc
  go_loopw [29, 8] (fun iv sv W => ∃ i : Nat, i ≤ M ∧ iv = .int .i64 (i : Int) ∧ sv = .int .i64 ((stillN p.sh t i : Nat) : Int) ∧ Ext w2 W) (fun iv _ _ => M - (intOf iv).toNat)
  case atStart => exact ⟨0, by omega, rfl, rfl, Ext.refl _⟩
  case round =>
    obtain ⟨i, hi, rfl, rfl, hx⟩ := hrel
    have HX := Lib.hid hx
    have k9 := (HBB.out.ext hx).cell (i := 9) rfl
    have lk := cell_lt k9
    obtain ⟨s0, hs0⟩ : ∃ z, z = stillN p.sh t i := ⟨_, rfl⟩
    rw [← hs0]
    have HS0 := Lib.hid hs0
    have hsi : s0 ≤ i := by rw [hs0]; exact stillN_le _ _ _
    clear hs0
    by_cases hlt : i < M
    · have hii : (i : Int) < (M : Int) := by omega
      obtain ⟨b1, o1, e1, _, m0⟩ := HR.out.at_ i (by omega)
      simp only [Option.some.injEq, Addr.mk.injEq, and_true] at e1
      obtain ⟨rfl, rfl⟩ := e1
      replace m0 := (HX2.out.trans hx).cell_some m0
      have lm := cell_lt m0
      have HSS := Lib.hid (stillN_succ p.sh t i)
      obtain ⟨x, hx0⟩ : ∃ x, x = p.sh[i]?.getD 0 := ⟨_, rfl⟩
      rw [← hx0] at m0 HSS
      rw [← HS0.out] at HSS
      obtain ⟨z, hz⟩ : ∃ z, x.tmod (t : Int) = z := ⟨_, rfl⟩
      have HZ := Lib.hid (show z = 0 ↔ x % (t : Int) = 0 by rw [← hz]; exact ⟨fun h => Int.emod_eq_zero_of_dvd (Int.dvd_of_tmod_eq_zero h), fun h => Int.tmod_eq_zero_of_dvd (Int.dvd_of_emod_eq_zero h)⟩)
      have ht0 : ¬ t = 0 := by omega
      clear hx hx0
      by_cases hz0 : z = 0
      · subst hz0
        rw [if_pos (HZ.out.1 rfl)] at HSS
        go_wp2_with fail
        go_roundw
        case rel => exact ⟨i + 1, by omega, by go_num, by rw [HSS.out]; simp, HX.out⟩
        case measure => simp [intOf]; omega
      · rw [if_neg (fun h => hz0 (HZ.out.2 h)), Nat.add_zero] at HSS
        have hz1 : (z == 0) = false := by simpa using hz0
        go_wp2_with fail
        go_roundw
        case rel => exact ⟨i + 1, by omega, by go_num, by rw [HSS.out]; simp, HX.out⟩
        case measure => simp [intOf]; omega
    · obtain rfl : M = i := by omega
      have HSE := Lib.hid (show s0 = S by rw [HS0.out, HS.out])
      have HXX := Lib.hid (HX2.out.trans HX.out)
      clear hx
      have hS0 : s0 ≤ 12 := by omega
      have ki : ∀ k : Int, K = k → (.tuple #[.int .u8 k, .int .i64 0] : Value) = .tuple #[.int .u8 K, .int .i64 0] := fun k e => by rw [e]
      have KI := Lib.hid ki
      clear ki
      rw [← HSE.out] at HK
      by_cases h1 : t = 1
      · have h1' : (t : Int) = 1 := by omega
        have h1b : ((t : Int) == 1) = true := by simpa using h1'
        have HKK := Lib.hid (show K = 1 by rw [HK.out, kindOf, if_pos h1])
        clear h1'
        go_wp2_with fail
        go_ret2
        exact ⟨by rw [HKK.out] <;> rfl, HXX.out⟩
      · have h1b : ((t : Int) == 1) = false := by simp; omega
        have w2 : IntKind.i64.wrap (2 * (T : Int)) = 2 * (T : Int) := IntWalk.i64_in _ (by omega)
        by_cases h2 : M = 1
        · subst h2
          by_cases h3 : T = 0
          · have HKK := Lib.hid (show K = 2 by rw [HK.out, kindOf, if_neg h1, if_pos rfl, if_pos h3])
            subst h3
            go_wp2_with fail
            go_ret2
            exact ⟨by rw [HKK.out] <;> rfl, HXX.out⟩
          · have h3b : ((T : Int) == 0) = false := by simp; omega
            by_cases h4 : 2 * T = t
            · have h4b : (2 * (T : Int) == (t : Int)) = true := by simp; omega
              have HKK := Lib.hid (show K = 3 by rw [HK.out, kindOf, if_neg h1, if_pos rfl, if_neg h3, if_pos h4])
              clear h4
              go_wp2_with fail
              go_ret2
              exact ⟨by rw [HKK.out] <;> rfl, HXX.out⟩
            · have h4b : (2 * (T : Int) == (t : Int)) = false := by simp; omega
              have HKK := Lib.hid (show K = 4 by rw [HK.out, kindOf, if_neg h1, if_pos rfl, if_neg h3, if_neg h4])
              clear h4
              go_wp2_with fail
              go_ret2
              exact ⟨by rw [HKK.out] <;> rfl, HXX.out⟩
        · have h2b : ((M : Int) == 1) = false := by simp; omega
          have wM : IntKind.i64.wrap ((M : Int) - 1) = (M : Int) - 1 := IntWalk.i64_in _ (by omega)
          by_cases h4 : 2 * T = t
          · have h4b : (2 * (T : Int) == (t : Int)) = true := by simp; omega
            by_cases h5 : s0 + 1 = M
            · have h5b : ((s0 : Int) == (M : Int) - 1) = true := by simp; omega
              have HKK := Lib.hid (show K = 5 by rw [HK.out, kindOf, if_neg h1, if_neg h2, if_pos ⟨h4, h5⟩])
              clear h4 h5
              go_wp2_with fail
              go_ret2
              exact ⟨by rw [HKK.out] <;> rfl, HXX.out⟩
            · have h5b : ((s0 : Int) == (M : Int) - 1) = false := by simp; omega
              have HKK := Lib.hid (show K = 6 by rw [HK.out, kindOf, if_neg h1, if_neg h2, if_neg (fun h => h5 h.2)])
              clear h4 h5
              go_wp2_with fail
              go_ret2
              exact ⟨by rw [HKK.out] <;> rfl, HXX.out⟩
          · have h4b : (2 * (T : Int) == (t : Int)) = false := by simp; omega
            have HKK := Lib.hid (show K = 6 by rw [HK.out, kindOf, if_neg h1, if_neg h2, if_neg (fun h => h4 h.1)])
            clear h4
            go_wp2_with fail
            go_ret2
            exact ⟨by rw [HKK.out] <;> rfl, HXX.out⟩
end
section
/- PSame: pattern.Same of two programs whose cuts have the same shapes: the move that leaves all where it is. Condition: the programs' slices read as lists. -/
open Go.RowKit

/-- A slice of more than one element does not lie in a box of one cell. -/
theorem isI_setBox {W : World} {v x y : Value} {zs : List Int} {e : Nat} {T : TypeId} (h : IsI W v zs) (hb : BoxAt e #[x] T W) (hz : 2 ≤ zs.length) : IsI (W.setCell ⟨e, 0, none⟩ y) v zs := by
  obtain ⟨A, c, hv, h0, hc, hr⟩ := h
  refine ⟨A, c, hv, h0, hc, ⟨hr.len, hr.max, fun j hj => ?_⟩⟩
  obtain ⟨b, o, hA, hlt, hcell⟩ := hr.at_ j hj
  refine ⟨b, o, hA, by simpa using hlt, ?_⟩
  have hne : b ≠ e := fun he => by
    obtain ⟨b', o', hA', _, hc1⟩ := hr.at_ 1 (by omega)
    rw [hA] at hA'
    simp only [Option.some.injEq, Addr.mk.injEq, and_true] at hA'
    obtain ⟨rfl, rfl⟩ := hA'
    subst he
    have hx : W.heap[b]? = some (.cells #[x] T) := hb
    unfold World.cell? at hc1
    simp only [hx] at hc1
    simp at hc1
  rw [cell_set_other (.inl hne)]
  exact hcell
theorem BenchAt.setBox {b : Nat} {W : World} {p : PrT} {v : PrV} {lv x : Value} {e : Nat} {T : TypeId} (h : BenchAt b W p v lv) (hp : ∀ y, PrIs (W.setCell ⟨e, 0, none⟩ y) v p) (hb : BoxAt e #[x] T W) (hne : b ≠ e) (hz : 2 ≤ (liftL p.ros p.rub).length) (y : Value) : BenchAt b (W.setCell ⟨e, 0, none⟩ y) p v lv :=
  ⟨h.box.setOther (p := ⟨e, 0, none⟩) hne y, hp y, isI_setBox h.lift hb hz⟩

def SameG (w : World) (f e : Nat) (W : World) : Prop := BoxAt (w.heap.size + 1 + 1) #[.int .i64 0, .int .i64 0, .bool false, .bool false] 71 W ∧ BoxAt f #[.int .i64 0, .int .i64 0, .bool false, .bool false] 71 W ∧ BoxAt e #[.int .i64 0] 28 W ∧ Ext w W
theorem sameG_ext {w W W' : World} {f e : Nat} (h : SameG w f e W) (x : Ext W W') : SameG w f e W' := ⟨h.1.ext x, h.2.1.ext x, h.2.2.1.ext x, h.2.2.2.trans x⟩
theorem SameG.set {w W : World} {f e : Nat} (h : SameG w f e W) (hn : w.heap.size + 1 + 1 < f ∧ w.heap.size + 1 + 1 < e) : SameG w f e (W.setRow (w.heap.size + 1 + 1) #[.int .i64 0, .int .i64 0, .bool false, .bool false]) :=
  ⟨h.1.setRow _, h.2.1.but (setRow_but _ _ _) (by rw [List.mem_singleton]; omega), h.2.2.1.but (setRow_but _ _ _) (by rw [List.mem_singleton]; omega), (setRow_but _ _ _).below h.2.2.2 (fun d hd => by rw [List.mem_singleton] at hd; omega)⟩

set_option maxRecDepth 100000 in
set_option maxHeartbeats 8000000 in
theorem Same_alike (p q : PrT) (v u : PrV) (t : Nat) (w : World) (h1 : PrIs w v p) (h2 : PrIs w u q) (hA : AlikeP p q t) :
    Calls Try.prog 21 #[p.val v, q.val u, .int .u8 0] w fun e w' => e = .returned (.tuple #[.agg #[.int .i64 0, .int .i64 0, .bool false, .bool false], .int .i64 0]) ∧ Ext w w' := by
  have HM1 := Lib.hid fun (W : World) (x : Ext w W) => mounted_good p v W (h1.ext x) hA.gp
  have HM2 := Lib.hid fun (W : World) (x : Ext w W) => mounted_good q u W (h2.ext x) hA.gq
  have HSR := Lib.hid fun (b1 b2 fb eb : Nat) (lv lu : Value) (W : World) (x1 : BenchAt b1 W p v lv) (x2 : BenchAt b2 W q u lu) (x3 : BoxAt fb #[.int .i64 0, .int .i64 0, .bool false, .bool false] 71 W) (x4 : BoxAt eb #[.int .i64 6] 28 W) (hn : fb ≠ eb) => search_alike b1 b2 fb eb p q v u lv lu t W x1 x2 hA x3 x4 hn
  have HN2 := Lib.hid (show 2 ≤ (liftL q.ros q.rub).length by rw [liftL_len]; have := hA.gq.nums.n1; omega)
  have HL1 := Lib.hid h1
  have HL2 := Lib.hid h2
  clear h1 h2 hA
  obtain ⟨rv, bv, sv⟩ := v
  obtain ⟨rv2, bv2, sv2⟩ := u
  unfold PrT.val at *
  go_enter Try.func21, Try.ntmps21
  go_wp2_with fail
  refine lay_calls (fun W => BoxAt (w.heap.size + 1) #[rv2, bv2, .int .i64 q.start, .int .i64 q.throw, .int .i64 q.adv, sv2] 24 W ∧ BoxAt (w.heap.size + 1 + 1) #[.int .i64 0, .int .i64 0, .bool false, .bool false] 71 W ∧ Ext w W) ⟨?_, ?_, by (repeat' (first | with_reducible exact Ext.refl _ | with_reducible apply Ext.alloc | with_reducible apply Ext.drew | with_reducible apply Ext.drewN | with_reducible refine Ext.setCell ?_ ?_ _ | with_reducible apply Ext.step | with_reducible assumption | with_reducible exact Nat.le_refl _ | (simp; done) | (simp; omega)))⟩ ?_
  · have := (BoxAt.new (w.alloc (.cells #[rv, bv, .int .i64 p.start, .int .i64 p.throw, .int .i64 p.adv, sv] 24)) #[rv2, bv2, .int .i64 q.start, .int .i64 q.throw, .int .i64 q.adv, sv2] 24).ext ((Ext.refl _).alloc (.cells #[.int .i64 0, .int .i64 0, .bool false, .bool false] 71))
    simp only [World.size_alloc] at this
    exact this
  · have := BoxAt.new ((w.alloc (.cells #[rv, bv, .int .i64 p.start, .int .i64 p.throw, .int .i64 p.adv, sv] 24)).alloc (.cells #[rv2, bv2, .int .i64 q.start, .int .i64 q.throw, .int .i64 q.adv, sv2] 24)) #[.int .i64 0, .int .i64 0, .bool false, .bool false] 71
    simp only [World.size_alloc] at this
    exact this
  rintro W0 ⟨bq, b6, x0⟩
  refine (HM1.out _ x0).mono ?_
  rintro e W1 ⟨b1, lv, rfl, hb1, hbe1, x1⟩
  have HX1 := Lib.hid (x0.trans x1)
  have HQ1 := Lib.hid (bq.ext x1)
  have H61 := Lib.hid (b6.ext x1)
  have HBE1 := Lib.hid hbe1
  have q0 := HQ1.out.cell (i := 0) rfl
  have q1 := HQ1.out.cell (i := 1) rfl
  have q2 := HQ1.out.cell (i := 2) rfl
  have q3 := HQ1.out.cell (i := 3) rfl
  have q4 := HQ1.out.cell (i := 4) rfl
  have q5 := HQ1.out.cell (i := 5) rfl
  have lq := cell_lt q0
  clear x0 x1 bq b6 hbe1 hb1
  go_wp2_with fail
  refine lay_calls (fun W => BoxAt W1.heap.size #[.int .i64 0] 28 W ∧ Ext W1 W) ⟨BoxAt.new W1 _ _, (Ext.refl _).alloc _⟩ ?_
  rintro W2 ⟨b9, x2⟩
  refine (HM2.out _ (HX1.out.trans x2)).mono ?_
  rintro e W3 ⟨b2, lu, rfl, hb2, hbe2, x3⟩
  have HX3 := Lib.hid (x2.trans x3)
  have H93 := Lib.hid (b9.ext x3)
  have HBE2 := Lib.hid hbe2
  have hb2w : b2 ≠ W1.heap.size := by have := (b9.lt); omega
  have c9 := H93.out.cell (i := 0) rfl
  have f9 := frozen_of_row _ _ 0 _ _ H93.out
  have l9 := cell_lt c9
  clear x2 x3 b9 hbe2 hb2 q0 q1 q2 q3 q4 q5 lq
  go_wp2_with fail
  have hX1 : Ext W1 ((W3.setCell ⟨W1.heap.size, 0, none⟩ (.int .i64 0)).setCell ⟨W1.heap.size, 0, none⟩ (.int .i64 6)) := (HX3.out.setCell (p := ⟨W1.heap.size, 0, none⟩) (Nat.le_refl _) _).setCell (p := ⟨W1.heap.size, 0, none⟩) (Nat.le_refl _) _
  have HBA := Lib.hid (HBE1.out.ext (hX1.alloc (.cells #[.int .i64 0, .int .i64 0, .bool false, .bool false] 71)))
  have HEB := Lib.hid ((((H93.out.setCell 0 (.int .i64 0)).setCell 0 (.int .i64 6)).ext ((Ext.refl _).alloc (.cells #[.int .i64 0, .int .i64 0, .bool false, .bool false] 71))))
  have HBB := Lib.hid ((((HBE2.out.setBox (fun y => HL2.out.ext (HX1.out.trans (HX3.out.setCell (p := ⟨W1.heap.size, 0, none⟩) (Nat.le_refl _) y))) H93.out hb2w HN2.out (.int .i64 0)).setBox (fun y => HL2.out.ext (HX1.out.trans ((HX3.out.setCell (p := ⟨W1.heap.size, 0, none⟩) (Nat.le_refl _) _).setCell (p := ⟨W1.heap.size, 0, none⟩) (Nat.le_refl _) y))) (H93.out.setCell 0 (.int .i64 0)) hb2w HN2.out (.int .i64 6)).ext ((Ext.refl _).alloc (.cells #[.int .i64 0, .int .i64 0, .bool false, .bool false] 71))))
  have HFB := Lib.hid (show BoxAt W3.heap.size #[.int .i64 0, .int .i64 0, .bool false, .bool false] 71 (((W3.setCell ⟨W1.heap.size, 0, none⟩ (.int .i64 0)).setCell ⟨W1.heap.size, 0, none⟩ (.int .i64 6)).alloc (.cells #[.int .i64 0, .int .i64 0, .bool false, .bool false] 71)) from by
    have := BoxAt.new ((W3.setCell ⟨W1.heap.size, 0, none⟩ (.int .i64 0)).setCell ⟨W1.heap.size, 0, none⟩ (.int .i64 6)) #[.int .i64 0, .int .i64 0, .bool false, .bool false] 71
    simpa using this)
  have HXS := Lib.hid (hX1.alloc (.cells #[.int .i64 0, .int .i64 0, .bool false, .bool false] 71))
  clear hX1 c9 f9 l9
  refine (HSR.out b1 b2 W3.heap.size W1.heap.size lv lu _ HBA.out HBB.out HFB.out HEB.out (Nat.ne_of_gt H93.out.lt)).mono ?_
  rintro e W5 ⟨⟨vv, rfl⟩, of, oe, bb⟩
  have h6 : w.heap.size + 1 + 1 < W1.heap.size := H61.out.lt
  have HX5 := Lib.hid (show Ext W1 W5 from bb.below HXS.out (fun d hd => by
    simp only [List.mem_cons, List.not_mem_nil, or_false] at hd
    rcases hd with rfl | rfl
    · exact HX3.out.bel.size
    · exact Nat.le_refl _))
  have HG := Lib.hid (show SameG w W3.heap.size W1.heap.size W5 from ⟨H61.out.ext HX5.out, of, oe, HX1.out.trans HX5.out⟩)
  have HNE := Lib.hid (show w.heap.size + 1 + 1 < W3.heap.size ∧ w.heap.size + 1 + 1 < W1.heap.size from ⟨Nat.lt_of_lt_of_le h6 HX3.out.bel.size, h6⟩)
  obtain ⟨f1, hf1⟩ : ∃ f, f = W3.heap.size := ⟨_, rfl⟩
  obtain ⟨e1, he1⟩ : ∃ f, f = W1.heap.size := ⟨_, rfl⟩
  rw [← hf1, ← he1] at HG HNE
  have HFE := Lib.hid (And.intro hf1 he1)
  clear of oe bb
  go_wp2_with fail
  rw [← hf1, ← he1]
  clear hf1 he1
  have sameG_set : ∀ {W : World}, SameG w f1 e1 W → SameG w f1 e1 (W.setRow (w.heap.size + 1 + 1) #[.int .i64 0, .int .i64 0, .bool false, .bool false]) := fun h => SameG.set h HNE.out
  refine (wpIn_wide (n := 3)).1 ?_
  refine wpIn_region_tree (B := w.heap.size + 1 + 1) 3 [] (Nat.le_of_lt HG.out.1.lt) (by kernel_rfl) (by decide +kernel) ?_
  refine wpQ_nil ?_
  -- TREE
  change wpAnyT _ _ _ _ _ _ _ _ _ (2 + 1) _ _ _
  refine wpAnyT_step [0, 1] (by decide +kernel) (by decide) (by decide) ?_
  intro i hi
  simp only [List.mem_cons, List.not_mem_nil, or_false] at hi
  rcases hi with rfl | rfl
  · refine ⟨_, by rfl, midT_step (by rfl) (fun _ _ _ => trivial) (fun δ K' hK' => ?_)⟩
    have hg := sameG_ext HG.out (show Ext _ δ.wd from ⟨δ, rfl⟩)
    replace HG := Lib.hid hg
    have a0 := hg.2.1.cell (i := 0) rfl
    have a1 := hg.2.1.cell (i := 1) rfl
    have a2 := hg.2.1.cell (i := 2) rfl
    have a3 := hg.2.1.cell (i := 3) rfl
    have la := cell_lt a0
    go_simp
    refine ⟨Below.refl _ _, hK' _ _ ?_⟩
    clear hK' K' hg a0 a1 a2 a3 la
    change wpAnyT _ _ _ _ _ _ _ _ _ (1 + 1) _ _ _
    refine wpAnyT_step [1, 2] (by decide +kernel) (by decide) (by decide) ?_
    intro i hi
    simp only [List.mem_cons, List.not_mem_nil, or_false] at hi
    rcases hi with rfl | rfl
    · refine ⟨_, by rfl, midT_step (by rfl) (fun _ _ _ => trivial) (fun δ K' hK' => ?_)⟩
      have hg := sameG_ext HG.out (show Ext _ δ.wd from ⟨δ, rfl⟩)
      replace HG := Lib.hid hg
      have a0 := hg.2.2.1.cell (i := 0) rfl
      have la := cell_lt a0
      go_simp
      refine ⟨Below.refl _ _, hK' _ _ ?_⟩
      clear hK' K' hg a0 la
      change wpAnyT _ _ _ _ _ _ _ _ _ (0 + 1) _ _ _
      refine wpAnyT_step [2] (by decide +kernel) (by decide) (by decide) ?_
      intro i hi
      simp only [List.mem_cons, List.not_mem_nil, or_false] at hi
      subst hi
      refine ⟨_, by rfl, midT_step (by rfl) (fun _ _ _ => trivial) (fun δ K' hK' => ?_)⟩
      have hg := sameG_ext HG.out (show Ext _ δ.wd from ⟨δ, rfl⟩)
      replace HG := Lib.hid hg
      refine doneO_store (g := w.heap.size + 1 + 1) (t := 71) (x := .tmp 40) (d := .tmp 6) (v := .agg #[.int .i64 0, .int .i64 0, .bool false, .bool false]) hg.1 (by kernel_rfl) rfl (by simp [Value.oneCell', Value.cells]) rfl (by rfl) (by rfl) (Nat.le_refl _) (fun u => hK' _ _ ?_)
      replace HG := Lib.hid (sameG_set hg)
      clear hK' K' hg
      refine ⟨by decide +kernel, fun W9 x9 => ?_⟩
      have HG9 := Lib.hid (HG.out.1.ext x9)
      have HXX := Lib.hid (HG.out.2.2.2.trans x9)
      have z0 := HG9.out.cell (i := 0) rfl
      have z1 := HG9.out.cell (i := 1) rfl
      have z2 := HG9.out.cell (i := 2) rfl
      have z3 := HG9.out.cell (i := 3) rfl
      have lz := cell_lt z0
      clear x9 HG
      simp only [List.drop_succ_cons, List.drop_zero]
      gi_wp2
      go_wp2_with fail
      refine bodyPost_ret (v := .tuple #[.agg #[.int .i64 0, .int .i64 0, .bool false, .bool false], .int .i64 0]) (by simp [results, Try.results21, go_sem, z0, z1, z2, z3]) rfl ?_
      exact ⟨rfl, HXX.out⟩
    · refine ⟨_, by rfl, midT_step (by rfl) (fun _ _ _ => trivial) (fun δ K' hK' => ?_)⟩
      have hg := sameG_ext HG.out (show Ext _ δ.wd from ⟨δ, rfl⟩)
      replace HG := Lib.hid hg
      refine doneO_store (g := w.heap.size + 1 + 1) (t := 71) (x := .tmp 40) (d := .tmp 6) (v := .agg #[.int .i64 0, .int .i64 0, .bool false, .bool false]) hg.1 (by kernel_rfl) rfl (by simp [Value.oneCell', Value.cells]) rfl (by rfl) (by rfl) (Nat.le_refl _) (fun u => hK' _ _ ?_)
      replace HG := Lib.hid (sameG_set hg)
      clear hK' K' hg
      change wpAnyT _ _ _ _ _ _ _ _ _ (0 + 1) _ _ _
      refine wpAnyT_step [1] (by decide +kernel) (by decide) (by decide) ?_
      intro i hi
      simp only [List.mem_cons, List.not_mem_nil, or_false] at hi
      subst hi
      refine ⟨_, by rfl, midT_step (by rfl) (fun _ _ _ => trivial) (fun δ K' hK' => ?_)⟩
      have hg := sameG_ext HG.out (show Ext _ δ.wd from ⟨δ, rfl⟩)
      replace HG := Lib.hid hg
      have a0 := hg.2.2.1.cell (i := 0) rfl
      have la := cell_lt a0
      go_simp
      refine ⟨Below.refl _ _, hK' _ _ ?_⟩
      clear hK' K' hg a0 la
      refine ⟨by decide +kernel, fun W9 x9 => ?_⟩
      have HG9 := Lib.hid (HG.out.1.ext x9)
      have HXX := Lib.hid (HG.out.2.2.2.trans x9)
      have z0 := HG9.out.cell (i := 0) rfl
      have z1 := HG9.out.cell (i := 1) rfl
      have z2 := HG9.out.cell (i := 2) rfl
      have z3 := HG9.out.cell (i := 3) rfl
      have lz := cell_lt z0
      clear x9 HG
      simp only [List.drop_succ_cons, List.drop_zero]
      gi_wp2
      go_wp2_with fail
      refine bodyPost_ret (v := .tuple #[.agg #[.int .i64 0, .int .i64 0, .bool false, .bool false], .int .i64 0]) (by simp [results, Try.results21, go_sem, z0, z1, z2, z3]) rfl ?_
      exact ⟨rfl, HXX.out⟩
  · refine ⟨_, by rfl, midT_step (by rfl) (fun _ _ _ => trivial) (fun δ K' hK' => ?_)⟩
    have hg := sameG_ext HG.out (show Ext _ δ.wd from ⟨δ, rfl⟩)
    replace HG := Lib.hid hg
    have a0 := hg.2.2.1.cell (i := 0) rfl
    have la := cell_lt a0
    go_simp
    refine ⟨Below.refl _ _, hK' _ _ ?_⟩
    clear hK' K' hg a0 la
    change wpAnyT _ _ _ _ _ _ _ _ _ (1 + 1) _ _ _
    refine wpAnyT_step [0] (by decide +kernel) (by decide) (by decide) ?_
    intro i hi
    simp only [List.mem_cons, List.not_mem_nil, or_false] at hi
    subst hi
    refine ⟨_, by rfl, midT_step (by rfl) (fun _ _ _ => trivial) (fun δ K' hK' => ?_)⟩
    have hg := sameG_ext HG.out (show Ext _ δ.wd from ⟨δ, rfl⟩)
    replace HG := Lib.hid hg
    have a0 := hg.2.1.cell (i := 0) rfl
    have a1 := hg.2.1.cell (i := 1) rfl
    have a2 := hg.2.1.cell (i := 2) rfl
    have a3 := hg.2.1.cell (i := 3) rfl
    have la := cell_lt a0
    go_simp
    refine ⟨Below.refl _ _, hK' _ _ ?_⟩
    clear hK' K' hg a0 a1 a2 a3 la
    change wpAnyT _ _ _ _ _ _ _ _ _ (0 + 1) _ _ _
    refine wpAnyT_step [2] (by decide +kernel) (by decide) (by decide) ?_
    intro i hi
    simp only [List.mem_cons, List.not_mem_nil, or_false] at hi
    subst hi
    refine ⟨_, by rfl, midT_step (by rfl) (fun _ _ _ => trivial) (fun δ K' hK' => ?_)⟩
    have hg := sameG_ext HG.out (show Ext _ δ.wd from ⟨δ, rfl⟩)
    replace HG := Lib.hid hg
    refine doneO_store (g := w.heap.size + 1 + 1) (t := 71) (x := .tmp 40) (d := .tmp 6) (v := .agg #[.int .i64 0, .int .i64 0, .bool false, .bool false]) hg.1 (by kernel_rfl) rfl (by simp [Value.oneCell', Value.cells]) rfl (by rfl) (by rfl) (Nat.le_refl _) (fun u => hK' _ _ ?_)
    replace HG := Lib.hid (sameG_set hg)
    clear hK' K' hg
    refine ⟨by decide +kernel, fun W9 x9 => ?_⟩
    have HG9 := Lib.hid (HG.out.1.ext x9)
    have HXX := Lib.hid (HG.out.2.2.2.trans x9)
    have z0 := HG9.out.cell (i := 0) rfl
    have z1 := HG9.out.cell (i := 1) rfl
    have z2 := HG9.out.cell (i := 2) rfl
    have z3 := HG9.out.cell (i := 3) rfl
    have lz := cell_lt z0
    clear x9 HG
    simp only [List.drop_succ_cons, List.drop_zero]
    gi_wp2
    go_wp2_with fail
    refine bodyPost_ret (v := .tuple #[.agg #[.int .i64 0, .int .i64 0, .bool false, .bool false], .int .i64 0]) (by simp [results, Try.results21, go_sem, z0, z1, z2, z3]) rfl ?_
    exact ⟨rfl, HXX.out⟩
  -- ENDTREE
end

section
variable {zs : List Int}
theorem mvL_htsT (h : Hts zs) (a : Int) : Hts (mvL zs a) := by
  intro i
  rcases Nat.lt_or_ge i zs.length with hi | hi
  · rw [mvL_at hi]; exact h _
  · rw [List.getElem?_eq_none (by rw [mvL_len]; exact hi)]; simp
theorem mvL_checkT (h : checkB zs = true) (a : Int) : checkB (mvL zs a) = true := by
  obtain ⟨h1, h2, h3⟩ := checkB_iff.1 h
  exact checkB_iff.2 ⟨by rw [mvL_len]; exact h1, by rw [mvL_len]; exact h2, hts_of_all.2 (mvL_htsT (hts_of_all.1 h3) a)⟩

end
theorem toNat_mod {a b : Int} {t : Nat} (ha : 0 ≤ a) (hb : 0 ≤ b) (h : a % (t : Int) = b % (t : Int)) : a.toNat % t = b.toNat % t := by
  have e : ((a.toNat % t : Nat) : Int) = ((b.toNat % t : Nat) : Int) := by
    rw [Int.natCast_emod, Int.natCast_emod, Int.toNat_of_nonneg ha, Int.toNat_of_nonneg hb, h]
  omega
/-- The simplest program. -/
def simP (p : PrT) (first : Nat) (best : List Int) : PrT := ⟨mvL p.ros first, p.rub, p.start, p.throw, p.adv, best⟩
section
variable {p : PrT} {t st first : Nat} {best : List Int}
theorem simP_len : (simP p first best).ros.length = p.ros.length := mvL_len _ _
theorem sim_alike (hg : Good p) (ht : LeastT (liftL p.ros p.rub) t) (h6 : p.sh.length ≤ 6) (h : SimIs (shapeB p 12) p.ros.length st first best) (hst : st ≤ p.sh.length) :
    AlikeP p (simP p first best) t ∧ liftL (simP p first best).ros (simP p first best).rub = liftL p.ros p.rub ∧ ∀ j, cycV best t j = cycV p.sh t j := by
  obtain ⟨hl, hr, hf, _⟩ := sim_twelve hg ht h
  obtain ⟨hw, hph⟩ := sim_all hg ht h6 h hst
  have hN := hg.nums
  have hn := hN.n1
  have hc := hN.c1
  have hs1 := h.s1
  have hs2 := h.s2
  have hll := liftL_len p.ros p.rub
  have hlift : liftL (mvL p.ros first) p.rub = liftL p.ros p.rub := by
    rw [lift_turn p.ros p.rub hg.fine.b1, (ht.int (by omega) _).2 hf]
  have hgq : Good (simP p first best) := by
    refine ⟨mvL_checkT hg.ros _, ?_, ?_⟩
    · show rubberB p.rub (mvL p.ros first).length = true
      rw [mvL_len]
      exact hg.rub
    · have h1 := hg.fld
      unfold fldB at h1 ⊢
      simp only [Bool.and_eq_true] at h1 ⊢
      obtain ⟨⟨⟨⟨h2, h3⟩, h4⟩, h5⟩, h7⟩ := h1
      refine ⟨⟨⟨⟨h2, h3⟩, h4⟩, ?_⟩, ?_⟩
      · show inB 1 12 (best.length : Int) = true
        rw [inB_iff]
        omega
      · show allB 0 (((mvL p.ros first).length : Int) - 1) best = true
        rw [mvL_len]
        unfold allB
        rw [List.all_eq_true]
        intro x hx
        exact inB_iff.2 (hr x hx)
  have htq : LeastT (liftL (simP p first best).ros (simP p first best).rub) t := by
    show LeastT (liftL (mvL p.ros first) p.rub) t
    rw [hlift]
    exact ht
  have hph' : ∀ j : Int, (PH p.sh j - PH (simP p first best).sh j) % (t : Int) = 0 := fun j => by
    have := hph j
    rw [emod_sub_zero] at this ⊢
    exact this.symm
  have hmot : motN p.sh t = motN best t := by
    have h1 := motN_least (sh := p.sh) (t := t) hc
    have h2 := motN_least (sh := best) (t := t) (by omega)
    have e : cycV best t = cycV p.sh t := funext hw
    rw [e] at h2
    exact least_eq h1 h2
  have hd : (t : Int) ∣ (p.ros.length : Int) := by
    have := ht.dvd
    rw [hll] at this
    exact Int.ofNat_dvd.2 (Nat.dvd_of_mod_eq_zero this)
  have hturn : turnN p t = turnN (simP p first best) t := by
    unfold turnN
    have e1 : (simP p first best).sh = best := rfl
    rw [e1, ← hmot]
    obtain ⟨a1, a2⟩ := phaseZ_bd hN ((motN p.sh t : Nat) : Int)
    obtain ⟨b1, b2⟩ := phaseZ_bd hgq.nums ((motN p.sh t : Nat) : Int)
    have e2 : (phaseZ p ((motN p.sh t : Nat) : Int)) % (t : Int) = (phaseZ (simP p first best) ((motN p.sh t : Nat) : Int)) % (t : Int) := by
      rw [phaseZ_PH, phaseZ_PH, simP_len, mod_mod_of hd, mod_mod_of hd]
      exact emod_sub_zero.1 (hph' _)
    exact toNat_mod a1 b1 e2
  have hoff : offO p (simP p first best) false = some 0 := by
    have es : shF (simP p first best) false = shF p false := by
      show (liftL (mvL p.ros first) p.rub).map _ = (liftL p.ros p.rub).map _
      rw [hlift]
      rfl
    unfold offO
    rw [es, List.find?_eq_some_iff_getElem]
    refine ⟨?_, 0, by simpa using (show 0 < p.ros.length by omega), by simp, fun j hj => by omega⟩
    rw [decide_eq_true_iff]
    exact mvL_zero _
  exact ⟨⟨hg, hgq, ht, htq, simP_len.symm, by unfold closN; rw [hturn]; show motN p.sh t * _ = motN best t * _; rw [hmot], hoff, hph'⟩, hlift, hw⟩
theorem alike_cut {q : PrT} (hA : AlikeP p q t) (hl : liftL q.ros q.rub = liftL p.ros p.rub) (h1 : q.start = p.start) (h2 : q.throw = p.throw) (h3 : q.adv = p.adv) (j : Int) : cutL q j = cutL p j := by
  unfold cutL
  have hn := hA.gp.nums.n1
  have hd : (t : Int) ∣ (p.ros.length : Int) := by
    have := hA.tp.dvd
    rw [liftL_len] at this
    exact Int.ofNat_dvd.2 (Nat.dvd_of_mod_eq_zero this)
  have e : mvL (liftL p.ros p.rub) (phaseZ q j) = mvL (liftL p.ros p.rub) (phaseZ p j) := by
    rw [hA.tp.eq_iff (by rw [liftL_len]; omega), emod_sub_zero, phaseZ_PH, phaseZ_PH, ← hA.len, mod_mod_of hd, mod_mod_of hd]
    exact (emod_sub_zero.1 (hA.ph j)).symm
  rw [hl, e, h1, h2, h3]
theorem alike_mot {q : PrT} (hA : AlikeP p q t) (hw : ∀ j, cycV q.sh t j = cycV p.sh t j) : motN q.sh t = motN p.sh t ∧ turnN q t = turnN p t ∧ kindN q t = kindN p t := by
  have hcp := hA.gp.nums.c1
  have hcq := hA.gq.nums.c1
  have hd : (t : Int) ∣ (p.ros.length : Int) := by
    have := hA.tp.dvd
    rw [liftL_len] at this
    exact Int.ofNat_dvd.2 (Nat.dvd_of_mod_eq_zero this)
  have hmot : motN q.sh t = motN p.sh t := by
    have h1 := motN_least (sh := p.sh) (t := t) hcp
    have h2 := motN_least (sh := q.sh) (t := t) hcq
    have e : cycV q.sh t = cycV p.sh t := funext hw
    rw [e] at h2
    exact least_eq h2 h1
  have hturn : turnN q t = turnN p t := by
    unfold turnN
    rw [hmot]
    obtain ⟨a1, a2⟩ := phaseZ_bd hA.gp.nums ((motN p.sh t : Nat) : Int)
    obtain ⟨b1, b2⟩ := phaseZ_bd hA.gq.nums ((motN p.sh t : Nat) : Int)
    have e2 : (phaseZ q ((motN p.sh t : Nat) : Int)) % (t : Int) = (phaseZ p ((motN p.sh t : Nat) : Int)) % (t : Int) := by
      rw [phaseZ_PH, phaseZ_PH, ← hA.len, mod_mod_of hd, mod_mod_of hd]
      exact (emod_sub_zero.1 (hA.ph _)).symm
    exact toNat_mod b1 a1 e2
  have hstill : stillN q.sh t (motN p.sh t) = stillN p.sh t (motN p.sh t) := by
    unfold stillN
    have hm1 := (motN_is (t := t) hcp).2.1
    have hm2 : motN p.sh t ≤ q.sh.length := by rw [← hmot]; exact (motN_is (t := t) hcq).2.1
    congr 1
    refine List.filter_congr fun i hi => ?_
    have hi' := List.mem_range.1 hi
    have e := hw (i : Int)
    rw [cyc_at (by omega), cyc_at (by omega)] at e
    rw [e]
  refine ⟨hmot, hturn, ?_⟩
  unfold kindN
  rw [hmot, hturn, hstill]
end
end
open Go.RowKit

theorem see_ok {p : PrT} (hg : Good p) (ha : 0 ≤ p.adv) (h5 : p.ros.length ≤ 5) : OneOk ⟨p.ros, p.rub, p.throw, p.adv, seeL p 0 12⟩ := by
  have hN := hg.nums
  refine ⟨hg.fine, hN.t, hN.a, ?_, fun r hr => ?_⟩
  · show 1 ≤ (seeL p 0 12).length ∧ (seeL p 0 12).length ≤ 60
    rw [seeL_len]
    have := hN.n1
    omega
  · obtain ⟨j, i, hj, hi, rfl⟩ := mem_see.1 hr
    have hh := hg.fine.lift.hx (((i : Int) - phaseZ p (j : Int)) % (p.ros.length : Int)).toNat
    rw [cutL_at hi]
    generalize (liftL p.ros p.rub)[(((i : Int) - phaseZ p (j : Int)) % (p.ros.length : Int)).toNat]?.getD 0 = hv at *
    obtain ⟨t1, t2⟩ := hN.t
    obtain ⟨s1, s2⟩ := hN.s
    obtain ⟨a1, a2⟩ := hN.a
    have m1 : 0 ≤ p.throw * hv := Int.mul_nonneg (by omega) hh.1
    have m2 : p.throw * hv ≤ 160000 := by
      have h1 := Int.mul_le_mul t2 hh.2 hh.1 (show (0 : Int) ≤ 16 by omega)
      omega
    have m3 : 0 ≤ (j : Int) * p.adv := Int.mul_nonneg (by omega) ha
    have m4 : (j : Int) * p.adv ≤ 11000 := by
      have h1 := Int.mul_le_mul (show (j : Int) ≤ 11 by omega) a2 ha (show (0 : Int) ≤ 11 by omega)
      omega
    refine ⟨⟨?_, ?_⟩, ⟨?_, ?_⟩, ?_, ?_, ?_⟩ <;> simp only <;> omega

set_option maxRecDepth 100000 in
set_option maxHeartbeats 16000000 in
theorem lawTwelve_any (p : PrT) (v : PrV) (j : Int) (w : World) (h : PrIs w v p) (hj : -32768 ≤ j ∧ j ≤ 32767) :
    Calls Try.prog 5 #[p.val v, .int .i16 j] w fun e w' => e = .returned (.bool true) ∧ Ext w w' := by
  have HAL := Lib.hid fun (W : World) => alive09d_any W
  have HCH := Lib.hid fun (W : World) (x : Ext w W) => patCheck_any p v W (h.ext x)
  have HPI := Lib.hid h
  obtain ⟨ur, ub, us⟩ := v
  obtain ⟨A1, n, c1, rfl, -, hr1, -⟩ := h.ros.open_
  obtain ⟨A2, n2, c2, rfl, -, -, -⟩ := h.rub.open_
  obtain ⟨A3, n3, c3, rfl, -, hr3, -⟩ := h.sh.open_
  have hl1 := hr1.len
  have hl3 := hr3.len
  obtain ⟨j1, j2⟩ := hj
  have HB0 := Lib.hid (BoxAt.new w (p.cells ⟨.slice A1 n c1, .slice A2 n2 c2, .slice A3 n3 c3⟩) 24)
  clear h hr1 hr3
  have HAD := Lib.hid (show p.adv = p.adv from rfl)
  unfold PrT.val PrT.cells at *
  go_enter Try.func5, Try.ntmps5
  go_wp2_with fail
  refine (HAL.out _).mono ?_
  rintro e W1 ⟨rfl, x1⟩
  have HX1 := Lib.hid (((Ext.refl w).alloc _).trans x1)
  have HB1 := Lib.hid (HB0.out.ext x1)
  have c0 := HB1.out.cell (i := 0) rfl
  have d1 := HB1.out.cell (i := 1) rfl
  have d2 := HB1.out.cell (i := 2) rfl
  have d3 := HB1.out.cell (i := 3) rfl
  have d4 := HB1.out.cell (i := 4) rfl
  have d5 := HB1.out.cell (i := 5) rfl
  have lc := cell_lt c0
  clear x1
  by_cases h5 : (5 : Int) < (n : Int)
  · go_wp2_with fail
    go_ret
    exact ⟨rfl, HX1.out⟩
  by_cases h6 : (6 : Int) < (n3 : Int)
  · go_wp2_with fail
    go_ret
    exact ⟨rfl, HX1.out⟩
  by_cases had : p.adv < 0
  · go_wp2_with fail
    go_ret
    exact ⟨rfl, HX1.out⟩
  have h5a : n ≤ 5 := by omega
  have h6a : n3 ≤ 6 := by omega
  have h5b : (n : Int) ≤ 5 := by omega
  have h6b : (n3 : Int) ≤ 6 := by omega
  have hda : 0 ≤ p.adv := by omega
  go_wp2_with fail
  refine (HCH.out _ HX1.out).mono ?_
  rintro e W2 ⟨rfl, x2⟩
  have HX2 := Lib.hid (HX1.out.trans x2)
  have HB2 := Lib.hid (HB1.out.ext x2)
  clear x2 c0 d1 d2 d3 d4 d5 lc
  obtain ⟨er, her⟩ : ∃ z, z = progE p := ⟨_, rfl⟩
  have HER := Lib.hid her
  rw [← her]
  clear her
  by_cases he0 : er = 0
  case neg =>
    have he1 : (er != 0) = true := by simpa using he0
    go_wp2_with fail
    go_ret
    exact ⟨rfl, HX2.out⟩
  subst he0
  by_cases hj1 : 4000 < j
  · go_wp2_with fail
    go_ret
    exact ⟨rfl, HX2.out⟩
  by_cases hj2 : j < -4000
  · go_wp2_with fail
    go_ret
    exact ⟨rfl, HX2.out⟩
  have HG := Lib.hid (progE_zero.1 HER.out.symm)
  have hn1 := HG.out.nums.n1
  obtain ⟨s1, s2⟩ := HG.out.nums.s
  obtain ⟨t, ht, -⟩ := exists_least (zs := liftL p.ros p.rub) (by rw [liftL_len]; omega)
  have HT := Lib.hid ht
  obtain ⟨st, first, best, hsim, hst⟩ := sim_exists HG.out ht
  have hal := sim_alike HG.out ht (by omega) hsim hst
  have HA := Lib.hid hal.1
  have HLF := Lib.hid hal.2.1
  have HCW := Lib.hid hal.2.2
  have HBL := Lib.hid (show best.length ≤ p.sh.length from by have := (sim_twelve HG.out ht hsim).1; omega)
  have HSE := Lib.hid (see_any p ⟨.slice A1 n c1, .slice A2 n2 c2, .slice A3 n3 c3⟩ 12 0 W2 (HPI.out.ext HX2.out) HG.out (by omega) (by omega) (by omega))
  have HSI := Lib.hid fun (hb hc : Nat) (rv : Value) (W : World) (hat : OneAt W hb 0 (.slice A1 n c1) (.slice A2 n2 c2) rv ⟨p.ros, p.rub, p.throw, p.adv, seeL p 0 12⟩) => (show Calls Try.prog 20 #[oneV hb 0 hc rv p.throw p.adv, .agg #[.int .i64 0, .int .i64 p.throw, .int .i64 p.adv, .int .i64 p.start, .int .i64 p.start], .int .i64 p.start] W (SimRet (simP p first best) W) from
    sim_one hb 0 hc _ _ rv ⟨p.ros, p.rub, p.throw, p.adv, seeL p 0 12⟩ p.start 11 W hat (see_ok HG.out (by omega) (by omega)) ⟨s1, s2⟩ _ rfl ((see_ne HG.out (C := 12) _).2 ⟨11, rfl, by decide⟩) (fun d hd => by
      obtain ⟨c, rfl, hc⟩ := (see_ne HG.out (C := 12) _).1 hd
      omega) (by decide) (fun c hc => fit_some HG.out (C := 12) (by decide) (by omega)) st first best (by
        have e : fitsB (basesF (liftL p.ros p.rub) p.throw (seeL p 0 12)) p.ros.length p.start p.adv (11 + 1) = shapeB p 12 := fits_shape HG.out (C := 12) (by decide)
        show SimIs (fitsB (basesF (liftL p.ros p.rub) p.throw (seeL p 0 12)) p.ros.length p.start p.adv (11 + 1)) p.ros.length st first best
        rw [e]
        exact hsim))
  have wj : IntKind.i64.wrap j = j := IntWalk.i64_in _ (by omega)
  have c0 := HB2.out.cell (i := 0) rfl
  have d1 := HB2.out.cell (i := 1) rfl
  have d2 := HB2.out.cell (i := 2) rfl
  have d3 := HB2.out.cell (i := 3) rfl
  have d4 := HB2.out.cell (i := 4) rfl
  have d5 := HB2.out.cell (i := 5) rfl
  have lc := cell_lt c0
  clear ht hsim hst hal
  go_wp2_with fail
  refine HSE.out.mono ?_
  rintro e W3 ⟨rv, rfl, own3, x3⟩
  obtain ⟨A5, n5, c5, rfl⟩ := own3.shape
  have HX3 := Lib.hid (HX2.out.trans x3)
  have HB3 := Lib.hid (HB2.out.ext x3)
  have HO3 := Lib.hid own3
  clear x3 own3 c0 d1 d2 d3 d4 d5 lc
  have c0 := HB3.out.cell (i := 0) rfl
  have d1 := HB3.out.cell (i := 1) rfl
  have d2 := HB3.out.cell (i := 2) rfl
  have d3 := HB3.out.cell (i := 3) rfl
  have d4 := HB3.out.cell (i := 4) rfl
  have d5 := HB3.out.cell (i := 5) rfl
  have lc := cell_lt c0
  go_wp2_with fail
  refine lay_calls (fun W => BoxAt W3.heap.size #[.slice A1 n c1, .slice A2 n2 c2] 62 W ∧ Ext W3 W) ⟨(BoxAt.new W3 _ _).ext ((Ext.refl _).alloc _), by (repeat' (first | with_reducible exact Ext.refl _ | with_reducible apply Ext.alloc | with_reducible apply Ext.drew | with_reducible apply Ext.drewN | with_reducible refine Ext.setCell ?_ ?_ _ | with_reducible apply Ext.step | with_reducible assumption | with_reducible exact Nat.le_refl _ | (simp; done) | (simp; omega)))⟩ ?_
  rintro W4 ⟨bh, x4⟩
  refine (HSI.out W3.heap.size 1 _ W4 ⟨bh.cell (i := 0) rfl, bh.cell (i := 1) rfl, HPI.out.ros.ext (HX3.out.trans x4), HPI.out.rub.ext (HX3.out.trans x4), HO3.out.is.ext x4⟩).mono ?_
  rintro e W5 ⟨v5, rfl, pr5, x5⟩
  obtain ⟨qr, qb, qs⟩ := v5
  obtain ⟨B1, m1, e1, rfl, -⟩ := pr5.ros.open_
  obtain ⟨B2, m2, e2, rfl, -⟩ := pr5.rub.open_
  obtain ⟨B3, m3, e3, rfl, -, hr6, -⟩ := pr5.sh.open_
  have HX5 := Lib.hid (HX3.out.trans (x4.trans x5))
  have HB5 := Lib.hid (HB3.out.ext (x4.trans x5))
  have HQ5 := Lib.hid pr5
  have hm3 : ¬ (n3 : Int) < (m3 : Int) := by
    have h1 : best.length = m3 := hr6.len
    have := HBL.out
    omega
  clear x4 x5 bh pr5 hr6 c0 d1 d2 d3 d4 d5 lc
  have c0 := HB5.out.cell (i := 0) rfl
  have d1 := HB5.out.cell (i := 1) rfl
  have d2 := HB5.out.cell (i := 2) rfl
  have d3 := HB5.out.cell (i := 3) rfl
  have d4 := HB5.out.cell (i := 4) rfl
  have d5 := HB5.out.cell (i := 5) rfl
  have lc := cell_lt c0
  have HXQ := Lib.hid fun (W : World) (x : Ext W5 W) => HQ5.out.ext x
  have HXP := Lib.hid fun (W : World) (x : Ext W5 W) => HPI.out.ext (HX5.out.trans x)
  have HCP := Lib.hid fun (W : World) (x : Ext W5 W) => patCut_good p ⟨.slice A1 n c1, .slice A2 n2 c2, .slice A3 n3 c3⟩ j W (HXP.out W x) HG.out (by rw [inB_iff]; omega)
  have HCQ := Lib.hid fun (W : World) (x : Ext W5 W) => (show Calls Try.prog 11 #[(simP p first best).val ⟨.slice B1 m1 e1, .slice B2 m2 e2, .slice B3 m3 e3⟩, .int .i64 j] W (RetEE intK W (cutL p j) 0) from by
    have := patCut_good (simP p first best) ⟨.slice B1 m1 e1, .slice B2 m2 e2, .slice B3 m3 e3⟩ j W (HXQ.out W x) HA.out.gq (by rw [inB_iff]; omega)
    rwa [alike_cut HA.out HLF.out rfl rfl rfl j] at this)
  have HSM := Lib.hid fun (W : World) (x : Ext W5 W) => Same_alike p (simP p first best) ⟨.slice A1 n c1, .slice A2 n2 c2, .slice A3 n3 c3⟩ ⟨.slice B1 m1 e1, .slice B2 m2 e2, .slice B3 m3 e3⟩ t W (HXP.out W x) (HXQ.out W x) HA.out
  have HLP := Lib.hid fun (W : World) (x : Ext W5 W) => Closes_good p ⟨.slice A1 n c1, .slice A2 n2 c2, .slice A3 n3 c3⟩ t W (HXP.out W x) HG.out HT.out
  have HLQ := Lib.hid fun (W : World) (x : Ext W5 W) => (show Calls Try.prog 22 #[(simP p first best).val ⟨.slice B1 m1 e1, .slice B2 m2 e2, .slice B3 m3 e3⟩] W fun e w' => e = .returned (.tuple #[.int .i64 ((closN p t : Nat) : Int), .int .i64 0]) ∧ Ext W w' from HA.out.clo ▸ Closes_good (simP p first best) ⟨.slice B1 m1 e1, .slice B2 m2 e2, .slice B3 m3 e3⟩ t W (HXQ.out W x) HA.out.gq HA.out.tq)
  have HMP := Lib.hid fun (W : World) (x : Ext W5 W) => Motif_good p ⟨.slice A1 n c1, .slice A2 n2 c2, .slice A3 n3 c3⟩ t W (HXP.out W x) HG.out HT.out
  have HMK := Lib.hid (alike_mot HA.out HCW.out)
  have HMQ := Lib.hid fun (W : World) (x : Ext W5 W) => (show Calls Try.prog 24 #[(simP p first best).val ⟨.slice B1 m1 e1, .slice B2 m2 e2, .slice B3 m3 e3⟩] W fun e w' => e = .returned (.tuple #[.int .i64 ((motN p.sh t : Nat) : Int), .int .i64 ((turnN p t : Nat) : Int), .int .i64 0]) ∧ Ext W w' from by
    have := Motif_good (simP p first best) ⟨.slice B1 m1 e1, .slice B2 m2 e2, .slice B3 m3 e3⟩ t W (HXQ.out W x) HA.out.gq HA.out.tq
    rwa [HMK.out.1, HMK.out.2.1] at this)
  have HKP := Lib.hid fun (W : World) (x : Ext W5 W) => Kind_good p ⟨.slice A1 n c1, .slice A2 n2 c2, .slice A3 n3 c3⟩ t W (HXP.out W x) HG.out HT.out
  have HKQ := Lib.hid fun (W : World) (x : Ext W5 W) => (show Calls Try.prog 25 #[(simP p first best).val ⟨.slice B1 m1 e1, .slice B2 m2 e2, .slice B3 m3 e3⟩] W fun e w' => e = .returned (.tuple #[.int .u8 (kindN p t), .int .i64 0]) ∧ Ext W w' from by
    have := Kind_good (simP p first best) ⟨.slice B1 m1 e1, .slice B2 m2 e2, .slice B3 m3 e3⟩ t W (HXQ.out W x) HA.out.gq HA.out.tq
    rwa [HMK.out.2.2] at this)
  simp only [simP, PrT.val] at HCQ HSM HLQ HMQ HKQ
  obtain ⟨CN, hCN⟩ : ∃ z, z = closN p t := ⟨_, rfl⟩
  obtain ⟨MN, hMN⟩ : ∃ z, z = motN p.sh t := ⟨_, rfl⟩
  obtain ⟨TN, hTN⟩ : ∃ z, z = turnN p t := ⟨_, rfl⟩
  obtain ⟨KN, hKN⟩ : ∃ z, z = kindN p t := ⟨_, rfl⟩
  rw [← hCN] at HLP HLQ
  rw [← hMN, ← hTN] at HMP HMQ
  rw [← hKN] at HKP HKQ
  clear hCN hMN hTN hKN
  simp only [simP]
  go_wp2_with fail
  refine lay_calls (fun W => BoxAt W5.heap.size #[.slice B1 m1 e1, .slice B2 m2 e2, .int .i64 p.start, .int .i64 p.throw, .int .i64 p.adv, .slice B3 m3 e3] 24 W ∧ Ext W5 W) ⟨BoxAt.new W5 _ _, (Ext.refl _).alloc _⟩ ?_
  rintro W6 ⟨bq, x6⟩
  have HY6 := Lib.hid x6
  have HBk := Lib.hid (HB5.out.ext x6)
  have HQk := Lib.hid bq
  clear c0 d1 d2 d3 d4 d5 lc bq x6
  refine (HCP.out _ HY6.out).mono ?_
  rintro e W7 ⟨av, rfl, own7, x7⟩
  obtain ⟨A7, n7, c7, rfl⟩ := own7.shape
  have HO7 := Lib.hid own7
  have HY7 := Lib.hid (HY6.out.trans x7)
  have HBk := Lib.hid (HBk.out.ext x7)
  have HQk := Lib.hid (HQk.out.ext x7)
  clear x7 own7
  have q0 := HQk.out.cell (i := 0) rfl
  have q1 := HQk.out.cell (i := 1) rfl
  have q2 := HQk.out.cell (i := 2) rfl
  have q3 := HQk.out.cell (i := 3) rfl
  have q4 := HQk.out.cell (i := 4) rfl
  have q5 := HQk.out.cell (i := 5) rfl
  have lq := cell_lt q0
  go_wp2_with fail
  refine (HCQ.out _ HY7.out).mono ?_
  rintro e W8 ⟨bv, rfl, own8, x8⟩
  obtain ⟨A8, n8, c8, rfl⟩ := own8.shape
  have HO8 := Lib.hid own8
  have HO78 := Lib.hid (HO7.out.ext x8)
  have HY8 := Lib.hid (HY7.out.trans x8)
  have HBk := Lib.hid (HBk.out.ext x8)
  have HQk := Lib.hid (HQk.out.ext x8)
  clear x8 own8
  clear q0 q1 q2 q3 q4 q5 lq
  have c0 := HBk.out.cell (i := 0) rfl
  have d1 := HBk.out.cell (i := 1) rfl
  have d2 := HBk.out.cell (i := 2) rfl
  have d3 := HBk.out.cell (i := 3) rfl
  have d4 := HBk.out.cell (i := 4) rfl
  have d5 := HBk.out.cell (i := 5) rfl
  have lc := cell_lt c0
  have q0 := HQk.out.cell (i := 0) rfl
  have q1 := HQk.out.cell (i := 1) rfl
  have q2 := HQk.out.cell (i := 2) rfl
  have q3 := HQk.out.cell (i := 3) rfl
  have q4 := HQk.out.cell (i := 4) rfl
  have q5 := HQk.out.cell (i := 5) rfl
  have lq := cell_lt q0
  go_wp2_with fail
  refine (HSM.out _ HY8.out).mono ?_
  rintro e W9 ⟨rfl, x9⟩
  have HO79 := Lib.hid (HO78.out.ext x9)
  have HO89 := Lib.hid (HO8.out.ext x9)
  have HY9 := Lib.hid (HY8.out.trans x9)
  have HBk := Lib.hid (HBk.out.ext x9)
  have HQk := Lib.hid (HQk.out.ext x9)
  clear x9
  clear c0 d1 d2 d3 d4 d5 lc
  clear q0 q1 q2 q3 q4 q5 lq
  have c0 := HBk.out.cell (i := 0) rfl
  have d1 := HBk.out.cell (i := 1) rfl
  have d2 := HBk.out.cell (i := 2) rfl
  have d3 := HBk.out.cell (i := 3) rfl
  have d4 := HBk.out.cell (i := 4) rfl
  have d5 := HBk.out.cell (i := 5) rfl
  have lc := cell_lt c0
  go_wp2_with fail
  refine lay_calls (fun W => BoxAt W9.heap.size #[.int .i64 0, .int .i64 0, .bool false, .bool false] 71 W ∧ Ext W9 W) ⟨BoxAt.new W9 _ _, (Ext.refl _).alloc _⟩ ?_
  rintro WA ⟨bm, xA⟩
  have HMk := Lib.hid bm
  have HO7A := Lib.hid (HO79.out.ext xA)
  have HO8A := Lib.hid (HO89.out.ext xA)
  have HYA := Lib.hid (HY9.out.trans xA)
  have HBk := Lib.hid (HBk.out.ext xA)
  have HQk := Lib.hid (HQk.out.ext xA)
  clear xA bm
  clear c0 d1 d2 d3 d4 d5 lc
  refine (HLP.out _ HYA.out).mono ?_
  rintro e WB ⟨rfl, xB⟩
  have HMk := Lib.hid (HMk.out.ext xB)
  have HO7B := Lib.hid (HO7A.out.ext xB)
  have HO8B := Lib.hid (HO8A.out.ext xB)
  have HYB := Lib.hid (HYA.out.trans xB)
  have HBk := Lib.hid (HBk.out.ext xB)
  have HQk := Lib.hid (HQk.out.ext xB)
  clear xB
  have q0 := HQk.out.cell (i := 0) rfl
  have q1 := HQk.out.cell (i := 1) rfl
  have q2 := HQk.out.cell (i := 2) rfl
  have q3 := HQk.out.cell (i := 3) rfl
  have q4 := HQk.out.cell (i := 4) rfl
  have q5 := HQk.out.cell (i := 5) rfl
  have lq := cell_lt q0
  go_wp2_with fail
  refine (HLQ.out _ HYB.out).mono ?_
  rintro e WC ⟨rfl, xC⟩
  have HMk := Lib.hid (HMk.out.ext xC)
  have HSS := Lib.hid (show Calls Try.prog 23 #[.slice A7 n7 c7, .slice A8 n8 c8] WC fun e w' => e = .returned (.bool true) ∧ Ext WC w' from by
    have := same_any _ _ (cutL p j) (cutL p j) WC ((intK_own.1 (HO7B.out.ext xC)).isI) ((intK_own.1 (HO8B.out.ext xC)).isI)
    rwa [show (cutL p j == cutL p j) = true from beq_self_eq_true _] at this)
  have HYC := Lib.hid (HYB.out.trans xC)
  have HBk := Lib.hid (HBk.out.ext xC)
  have HQk := Lib.hid (HQk.out.ext xC)
  clear xC
  clear q0 q1 q2 q3 q4 q5 lq
  go_wp2_with fail
  refine HSS.out.mono ?_
  rintro e WD ⟨rfl, xD⟩
  have HMk := Lib.hid (HMk.out.ext xD)
  have mm2 := HMk.out.cell (i := 2) rfl
  have mm3 := HMk.out.cell (i := 3) rfl
  have lmm := cell_lt mm2
  have HYD := Lib.hid (HYC.out.trans xD)
  have HBk := Lib.hid (HBk.out.ext xD)
  have HQk := Lib.hid (HQk.out.ext xD)
  clear xD
  have c0 := HBk.out.cell (i := 0) rfl
  have d1 := HBk.out.cell (i := 1) rfl
  have d2 := HBk.out.cell (i := 2) rfl
  have d3 := HBk.out.cell (i := 3) rfl
  have d4 := HBk.out.cell (i := 4) rfl
  have d5 := HBk.out.cell (i := 5) rfl
  have lc := cell_lt c0
  go_wp2_with fail
  refine (HMP.out _ HYD.out).mono ?_
  rintro e WE ⟨rfl, xE⟩
  have HYE := Lib.hid (HYD.out.trans xE)
  have HBk := Lib.hid (HBk.out.ext xE)
  have HQk := Lib.hid (HQk.out.ext xE)
  clear xE mm2 mm3 lmm
  clear c0 d1 d2 d3 d4 d5 lc
  have q0 := HQk.out.cell (i := 0) rfl
  have q1 := HQk.out.cell (i := 1) rfl
  have q2 := HQk.out.cell (i := 2) rfl
  have q3 := HQk.out.cell (i := 3) rfl
  have q4 := HQk.out.cell (i := 4) rfl
  have q5 := HQk.out.cell (i := 5) rfl
  have lq := cell_lt q0
  go_wp2_with fail
  refine (HMQ.out _ HYE.out).mono ?_
  rintro e WF ⟨rfl, xF⟩
  have HYF := Lib.hid (HYE.out.trans xF)
  have HBk := Lib.hid (HBk.out.ext xF)
  have HQk := Lib.hid (HQk.out.ext xF)
  clear xF
  clear q0 q1 q2 q3 q4 q5 lq
  have c0 := HBk.out.cell (i := 0) rfl
  have d1 := HBk.out.cell (i := 1) rfl
  have d2 := HBk.out.cell (i := 2) rfl
  have d3 := HBk.out.cell (i := 3) rfl
  have d4 := HBk.out.cell (i := 4) rfl
  have d5 := HBk.out.cell (i := 5) rfl
  have lc := cell_lt c0
  go_wp2_with fail
  refine (HKP.out _ HYF.out).mono ?_
  rintro e WG ⟨rfl, xG⟩
  have HYG := Lib.hid (HYF.out.trans xG)
  have HBk := Lib.hid (HBk.out.ext xG)
  have HQk := Lib.hid (HQk.out.ext xG)
  clear xG
  clear c0 d1 d2 d3 d4 d5 lc
  have q0 := HQk.out.cell (i := 0) rfl
  have q1 := HQk.out.cell (i := 1) rfl
  have q2 := HQk.out.cell (i := 2) rfl
  have q3 := HQk.out.cell (i := 3) rfl
  have q4 := HQk.out.cell (i := 4) rfl
  have q5 := HQk.out.cell (i := 5) rfl
  have lq := cell_lt q0
  go_wp2_with fail
  refine (HKQ.out _ HYG.out).mono ?_
  rintro e WH ⟨rfl, xH⟩
  have HYH := Lib.hid (HYG.out.trans xH)
  have HBk := Lib.hid (HBk.out.ext xH)
  have HQk := Lib.hid (HQk.out.ext xH)
  clear xH
  clear q0 q1 q2 q3 q4 q5 lq
  go_wp2_with fail
  go_ret
  exact ⟨rfl, HX5.out.trans HYH.out⟩
end Go.Proofs.Ytkjgcmdabelohaa
