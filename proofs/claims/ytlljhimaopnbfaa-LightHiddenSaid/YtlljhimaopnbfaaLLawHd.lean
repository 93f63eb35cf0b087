/- LightHidden: the law's walk. Conditions: the slices read as lists. -/
import Derived.Test.YtlljhimaopnbfaaLLat
import Derived.Test.YtlljhimaopnbfaaLHidP
import Derived.Test.YtlljhimaopnbfaaLRead
import Derived.Test.YtlljhimaopnbfaaLAliv
import Derived.Test.YtlljhimaopnbfaaGMap
namespace Go.Proofs.Ytlljhimaopnbfaa
open Go.RowKit Go.ChangeMaps

def mapIBL : MK Int Bool := ⟨102, 3, 4, Value.int .i64, Value.bool, false, by kernel_rfl, fun w a es => find_intM _ (by kernel_rfl) _ w a es, fun w e a => check_intM _ (by kernel_rfl) w e a, fun a => by simp [Instr.sameBits], fun w => by kernel_rfl⟩
def memL (l : List Int) (p : Int) : Bool := l.any fun q => decide (q = p)
theorem memL_iff {l : List Int} {p : Int} : memL l p = true ↔ p ∈ l := by
  unfold memL
  rw [List.any_eq_true]
  constructor
  · rintro ⟨q, hq, he⟩
    rw [← of_decide_eq_true he]
    exact hq
  · intro h
    exact ⟨p, h, decide_eq_true rfl⟩
theorem memL_set (l : List Int) {j : Nat} (h : j < l.length) (p : Int) : updM' (fun p => memL (l.take j) p) l[j] true p = memL (l.take (j + 1)) p := by
  rw [List.take_succ_eq_append_getElem h]
  unfold updM' memL
  rw [List.any_append]
  by_cases e : p = l[j]
  · rw [if_pos e]
    simp [e]
  · rw [if_neg e, List.any_cons, List.any_nil, decide_eq_false (fun h : l[j] = p => e h.symm)]
    simp
theorem ext_setBlockH {w W : World} {b : Nat} (x : Ext w W) (o : Obj) (h : w.heap.size ≤ b) : Ext w (setBlock W b o) := (setBlock_but W b o).below x (by simpa using h)
theorem tiltK_atH {w : World} {A : Option Addr} {xs : List (Int × Int)} (h : tiltK.Row w A xs) {j : Nat} (hj : j < xs.length) : ∃ b o, A = some ⟨b, o, none⟩ ∧ b < w.heap.size ∧ w.cell? ⟨b, o + j * 2, none⟩ = some (.int .i64 xs[j].1) ∧ w.cell? ⟨b, o + j * 2 + 1, none⟩ = some (.int .i64 xs[j].2) := by
  obtain ⟨b, o, rfl, hb, hc⟩ := h j hj
  exact ⟨b, o, rfl, hb, hc 0 _ rfl, hc 1 _ rfl⟩
theorem latE_zero {ms : List Bool} {ya yb na nb : Int} (h : latE ms ya yb na nb = 0) : ms.length ≤ 576 ∧ tiltB ya yb = true ∧ tiltB na nb = true := by
  unfold latE at h
  split at h
  · cases h
  · split at h
    · rename_i h1 h2
      rw [Bool.and_eq_true] at h2
      exact ⟨by omega, h2.1, h2.2⟩
    · cases h
theorem showsE_zero {ya yb na nb p : Int} {ls : List (Int × Int × Int)} (h : showsE ya yb na nb p ls = 0) : 1 ≤ ls.length ∧ ls.length ≤ 8 ∧ ∀ i, i < ls.length → shE ya yb na nb p (ls[i]?.getD (0, 0, 0)) = 0 := by
  unfold showsE at h
  split at h
  · rename_i h1
    obtain ⟨a, b⟩ := inB_iff.1 h1
    exact ⟨by omega, by omega, shErr_each h⟩
  · cases h
/-- What the light at i shows, where it is valid. -/
structure LitAt (ya yb na nb p lx ly lz : Int) : Prop where
  e1 : brightE ya yb p lx ly lz = 0
  e2 : brightE na nb p lx ly lz = 0
  a : FracIs (brightN ya yb p lx ly lz) (brightD ya yb p lx ly lz)
  c : FracIs (brightN na nb p lx ly lz) (brightD na nb p lx ly lz)
theorem bright_frac {tx ty p lx ly lz : Int} (h : brightE tx ty p lx ly lz = 0) : FracIs (brightN tx ty p lx ly lz) (brightD tx ty p lx ly lz) := by
  unfold brightE at h
  split at h
  · rename_i h1
    split at h
    · rename_i h2
      unfold brightN brightD
      rw [h1, h2]
      rw [Bool.and_eq_true] at h1
      exact shade_frac h1.1 h1.2 h2
    · cases h
  · cases h
theorem litAt_of {ya yb na nb p : Int} {l : Int × Int × Int} (h : shE ya yb na nb p l = 0) : LitAt ya yb na nb p l.1 l.2.1 l.2.2 := by
  unfold shE at h
  split at h
  · rename_i h1
    exact absurd h h1
  · rename_i h1
    have h1 := Decidable.not_not.1 h1
    exact ⟨h1, h, bright_frac h1, bright_frac h⟩

set_option maxRecDepth 100000 in
set_option maxHeartbeats 16000000 in
theorem lawHidden_any (mv : Value) (ms : List Bool) (ya yb na nb p : Int) (lv : Value) (ls : List (Int × Int × Int)) (w : World) (hM : boolK.Is w mv ms) (hL : lightK.Is w lv ls) :
    Calls Try.prog 17 #[mv, tiltV ya yb, tiltV na nb, .int .i64 p, lv] w fun e w' => e = .returned (.bool true) ∧ Ext w w' := by
  have HAL := Lib.hid fun W : World => light_alive W
  have H1 := Lib.hid fun (W : World) (x : Ext w W) => Latent_any mv ms ya yb na nb W (hM.ext x)
  have H2 := Lib.hid fun (W : World) (x : Ext w W) => Shows_any ya yb na nb p lv ls W (hL.ext x)
  obtain ⟨A1, n1, c1, rfl, hn1, -, hr1, -⟩ := hM.open_
  obtain ⟨A2, n2, c2, rfl, hn2, -, hr2, -⟩ := hL.open_
  have HN1 := Lib.hid hn1
  have HN2 := Lib.hid hn2
  have HR1 := Lib.hid hr1
  have HR2 := Lib.hid hr2
  have X0 := Lib.hid (show Ext w ((w.alloc (.cells #[.int .i64 ya, .int .i64 yb] 23)).alloc (.cells #[.int .i64 na, .int .i64 nb] 23)) from by (repeat' (first | with_reducible exact Ext.refl _ | with_reducible apply Ext.alloc | with_reducible apply Ext.drew | with_reducible apply Ext.drewN | with_reducible refine Ext.setCell ?_ ?_ _ | with_reducible apply Ext.step | with_reducible assumption | with_reducible exact Nat.le_refl _ | (simp; done) | (simp; omega))))
  clear hM hL hn1 hn2 hr1 hr2
  go_enter Try.func17, Try.ntmps17
  go_wp2_with fail
  refine (HAL.out _).mono ?_
  rintro e w1 ⟨rfl, x1⟩
  have HX1 := Lib.hid (X0.out.trans x1)
  have a0 : w1.cell? ⟨w.heap.size, 0, none⟩ = some (.int .i64 ya) := x1.cell_some (by go_cell)
  have a1 : w1.cell? ⟨w.heap.size, 1, none⟩ = some (.int .i64 yb) := x1.cell_some (by go_cell)
  have b0 : w1.cell? ⟨w.heap.size + 1, 0, none⟩ = some (.int .i64 na) := x1.cell_some (by go_cell)
  have b1 : w1.cell? ⟨w.heap.size + 1, 1, none⟩ = some (.int .i64 nb) := x1.cell_some (by go_cell)
  have la := cell_lt a0
  have lb := cell_lt b0
  clear x1
  by_cases g1 : 700 < n1
  · have g : decide ((700 : Int) < (n1 : Int)) = true := decide_eq_true (by omega)
    clear g1
    go_wp2_with fail
    go_ret
    exact ⟨rfl, HX1.out⟩
  replace g1 : decide ((700 : Int) < (n1 : Int)) = false := decide_eq_false (by omega)
  by_cases g3 : 12 < n2
  · have g : decide ((12 : Int) < (n2 : Int)) = true := decide_eq_true (by omega)
    clear g3
    go_wp2_with fail
    go_ret
    exact ⟨rfl, HX1.out⟩
  replace g3 : decide ((12 : Int) < (n2 : Int)) = false := decide_eq_false (by omega)
  have HLD1 := Lib.hid (show latL ms ya yb na nb = if latE ms ya yb na nb = 0 then ms.map (latX ya yb na nb) else [] from rfl)
  have HLD2 := Lib.hid (show showsL ya yb na nb p ls = if showsE ya yb na nb p ls = 0 then shTo ya yb na nb p ls ls.length else [] from rfl)
  have HZ1 := Lib.hid (latE_zero (ms := ms) (ya := ya) (yb := yb) (na := na) (nb := nb))
  have HZ2 := Lib.hid (showsE_zero (ya := ya) (yb := yb) (na := na) (nb := nb) (p := p) (ls := ls))
  obtain ⟨t1, ht1⟩ : ∃ z, z = latL ms ya yb na nb := ⟨_, rfl⟩
  obtain ⟨t2, ht2⟩ : ∃ z, z = showsL ya yb na nb p ls := ⟨_, rfl⟩
  rw [← ht1] at HLD1 H1
  rw [← ht2] at HLD2 H2
  generalize latE ms ya yb na nb = e1 at *
  generalize showsE ya yb na nb p ls = e2 at *
  clear ht1 ht2
  go_wp2_with fail
  refine (H1.out _ HX1.out).mono ?_
  rintro e w2 ⟨v2, rfl, o2, x2⟩
  have HX2 := Lib.hid (HX1.out.trans x2)
  replace a0 := x2.cell_some a0
  replace a1 := x2.cell_some a1
  replace b0 := x2.cell_some b0
  replace b1 := x2.cell_some b1
  replace la := cell_lt a0
  replace lb := cell_lt b0
  obtain ⟨B1, k1, d1, rfl, hk1, -⟩ := o2.is.open_
  have HO1 := Lib.hid o2.is
  have HK1 := Lib.hid hk1
  clear x2 o2 hk1
  go_wp2_with fail
  refine (H2.out _ HX2.out).mono ?_
  rintro e w3 ⟨v3, rfl, o3, x3⟩
  have HX3 := Lib.hid (HX2.out.trans x3)
  replace HO1 := Lib.hid (HO1.out.ext x3)
  obtain ⟨B2, k2, d2, rfl, hk2, -⟩ := o3.is.open_
  have HO2 := Lib.hid o3.is
  have HK2 := Lib.hid hk2
  clear x3 o3 a0 a1 b0 b1 la lb hk2 H1 H2
  by_cases h1 : e1 = 0
  case neg =>
    have f1 : (e1 != 0) = true := by simpa using h1
    have f1' : (e1 == 0) = false := by simpa using h1
    obtain rfl : k1 = 0 := by rw [← HK1.out, HLD1.out, if_neg h1]; rfl
    by_cases h2 : e2 = 0
    · subst h2
      clear h1
      go_wp2_with fail
      go_ret
      exact ⟨rfl, HX3.out⟩
    · have f2 : (e2 != 0) = true := by simpa using h2
      have f2' : (e2 == 0) = false := by simpa using h2
      obtain rfl : k2 = 0 := by rw [← HK2.out, HLD2.out, if_neg h2]; rfl
      clear h1 h2
      go_wp2_with fail
      go_ret
      exact ⟨rfl, HX3.out⟩
  subst h1
  by_cases h2 : e2 = 0
  case neg =>
    have f2 : (e2 != 0) = true := by simpa using h2
    have f2' : (e2 == 0) = false := by simpa using h2
    obtain rfl : k2 = 0 := by rw [← HK2.out, HLD2.out, if_neg h2]; rfl
    clear h2
    go_wp2_with fail
    go_ret
    exact ⟨rfl, HX3.out⟩
  subst h2
  obtain ⟨hm5, hty, htn⟩ := HZ1.out rfl
  obtain ⟨hl1, hl8, hsh⟩ := HZ2.out rfl
  rw [HN1.out] at hm5
  rw [HN2.out] at hl1 hl8 hsh
  have HSH := Lib.hid fun (i : Nat) (h : i < n2) => litAt_of (hsh i h)
  have hT1 : t1 = ms.map (latX ya yb na nb) := HLD1.out
  have hT2 : t2 = shTo ya yb na nb p ls ls.length := HLD2.out
  obtain rfl : k1 = n1 := by rw [← HK1.out, hT1, List.length_map, HN1.out]
  have hk28 : k2 ≤ 8 := by rw [← HK2.out, hT2]; have := shTo_len ya yb na nb p ls ls.length; rw [HN2.out] at *; omega
  rw [hT1] at HO1
  have HMS := Lib.hid fun (i : Nat) (h : i < n2) => (show memL t2 (i : Int) = shB ya yb na nb p (ls[i]?.getD (0, 0, 0)) by
    rw [Bool.eq_iff_iff, memL_iff, hT2, shTo_mem (Nat.le_refl _), HN2.out]
    exact ⟨fun h => h.2, fun h' => ⟨h, h'⟩⟩)
  clear hty htn hsh hT1 hT2 HLD1 HLD2 HZ1 HZ2
  obtain ⟨_, _, he, _, _, hr⟩ := HO1.out
  simp only [Value.slice.injEq] at he
  obtain ⟨rfl, -, -⟩ := he
  have HW1 := Lib.hid hr
  clear hr
  obtain ⟨_, _, he, _, _, hr⟩ := HO2.out
  simp only [Value.slice.injEq] at he
  obtain ⟨rfl, -, -⟩ := he
  have HW2 := Lib.hid hr
  clear hr
  have HB0 := Lib.hid (say_both (ms := ms))
  rw [HN1.out] at HB0
  go_wp2_with fail
  go_loopw [89, 16] (fun iv cv wr => ∃ j : Nat, j ≤ k1 ∧ iv = .int .i64 (j : Int) ∧ cv = .int .i64 (sayN ms j : Int) ∧ Ext w3 wr) (fun iv _ _ => k1 - (intOf iv).toNat)
  case atStart => exact ⟨0, by omega, rfl, rfl, Ext.refl _⟩
  case round =>
    obtain ⟨j, hj, rfl, rfl, hx⟩ := hrel
    have HX := Lib.hid hx
    by_cases hlt : j < k1
    · have hjl : j < ms.length := by rw [HN1.out]; exact hlt
      have hji : (j : Int) < (k1 : Int) := by omega
      obtain ⟨b, o, rfl, _, d0⟩ := bools_at HR1.out j hjl
      replace d0 := (HX3.out.trans hx).cell_some d0
      have ld := cell_lt d0
      have HST := Lib.hid (sayN_step hjl)
      have hsl := sayN_le ms j
      generalize sayN ms j = sn at *
      clear hx
      cases hb : ms[j]
      · rw [hb] at d0 HST
        clear hb
        go_wp2_with fail
        go_roundw
        case rel => exact ⟨j + 1, by omega, by go_num, by rw [HST.out]; rfl, HX.out⟩
        case measure => simp [intOf]; omega
      · rw [hb] at d0 HST
        have hw : IntKind.i64.wrap ((sn : Int) + 1) = ((sn + 1 : Nat) : Int) := (IntWalk.i64_in _ (by omega)).trans (by omega)
        clear hb
        go_wp2_with fail
        go_roundw
        case rel => exact ⟨j + 1, by omega, by go_num, by rw [HST.out]; first | rfl | simp, HX.out⟩
        case measure => simp [intOf]; omega
    · obtain rfl : j = k1 := by omega
      obtain ⟨wc, rfl⟩ : ∃ wc, wc = wr := ⟨wr, rfl⟩
      obtain ⟨sn, hsn⟩ : ∃ z, z = sayN ms j := ⟨_, rfl⟩
      rw [← hsn] at HB0 ⊢
      have hsl : sn ≤ j := by rw [hsn]; exact sayN_le ms j
      clear hsn hx
      by_cases hc : 0 < sn
      case neg =>
        have hc1 : decide ((0 : Int) < (sn : Int)) = false := decide_eq_false (by omega)
        have HBF := Lib.hid (show decide (true ∈ ms ∧ false ∈ ms) = false by rw [← HB0.out, decide_eq_false hc]; rfl)
        have HBW := Lib.hid HX.out
        have hmm := @run_makeMap Try.prog
        go_wp2_with fail
        clear hmm
        refine lay_wp (fun W => mapIBL.At wc.heap.size (fun _ => false) W ∧ Ext wc W) ⟨MK.At.new (G := mapIBL) wc, (Ext.refl _).alloc _⟩ ?_
        rintro W4 ⟨hi4, x4⟩
        obtain ⟨mb, hmb⟩ : ∃ z, z = wc.heap.size := ⟨_, rfl⟩
        rw [← hmb] at hi4 ⊢
        have HI4 := Lib.hid hi4
        have HX4 := Lib.hid x4
        have HMB := Lib.hid hmb
        clear hmb hi4 x4
        go_wp2_with fail
        go_loopw [108] (fun iv W => ∃ q : Nat, q ≤ k2 ∧ iv = .int .i64 (q : Int) ∧ mapIBL.At mb (fun p => memL (t2.take q) p) W ∧ Ext wc W) (fun iv _ => k2 - (intOf iv).toNat)
        case atStart => exact ⟨0, by omega, rfl, HI4.out.congr (fun p => by rw [List.take_zero]; rfl), HX4.out⟩
        case round =>
          obtain ⟨q, hq, rfl, hmi, hx⟩ := hrel
          have HMI := Lib.hid hmi
          have HXQ := Lib.hid hx
          clear hmi
          by_cases hlq : q < k2
          · have hql : q < t2.length := by rw [HK2.out]; exact hlq
            have hqi : (q : Int) < (k2 : Int) := by omega
            obtain ⟨b1, o1, rfl, _, c0⟩ := ints_at HW2.out q hql
            have HTS := Lib.hid fun p => memL_set t2 hql p
            replace c0 := (HBW.out.trans hx).cell_some c0
            have lc0 := cell_lt c0
            obtain ⟨y, hy⟩ : ∃ z, z = t2[q] := ⟨_, rfl⟩
            rw [← hy] at c0 HTS
            obtain ⟨ob, hup0, hat⟩ := HMI.out.put y true
            have hup : (Instr.mapUpdate 102 (.map (some mb)) (.int .i64 y) (.bool true)).run Try.prog wr = .ok () (setBlock wr mb ob) := hup0
            have HAT := Lib.hid hat
            clear hy hx hup0 hat
            go_wp2_with fail
            go_roundw
            case rel => exact ⟨q + 1, by omega, by go_num, HAT.out.congr HTS.out, ext_setBlockH HXQ.out _ (by rw [HMB.out]; exact Nat.le_refl _)⟩
            case measure => simp [intOf]; omega
          · obtain rfl : q = k2 := by omega
            have HM2 := Lib.hid (show mapIBL.At mb (fun p => memL t2 p) wr by have := HMI.out; rwa [List.take_of_length_le (by rw [HK2.out]; exact Nat.le_refl _)] at this)
            obtain ⟨wm, rfl⟩ : ∃ wm, wm = wr := ⟨_, rfl⟩
            have HXM := Lib.hid (HBW.out.trans hx)
            clear hx HMI
            go_wp2_with fail
            go_loopw [117] (fun iv W => ∃ i : Nat, i ≤ n2 ∧ iv = .int .i64 (i : Int) ∧ Ext wm W) (fun iv _ => n2 - (intOf iv).toNat)
            case atStart => exact ⟨0, by omega, rfl, Ext.refl _⟩
            case round =>
              obtain ⟨i, hi, rfl, hx⟩ := hrel
              have HXI := Lib.hid hx
              by_cases hli : i < n2
              · have hil : i < ls.length := by rw [HN2.out]; exact hli
                have hii : (i : Int) < (n2 : Int) := by omega
                obtain ⟨b, o, rfl, _, l0, l1, l2⟩ := lightK_at HR2.out i hil
                have x0 := HX3.out.trans (HXM.out.trans hx)
                replace l0 := x0.cell_some l0
                replace l1 := x0.cell_some l1
                replace l2 := x0.cell_some l2
                have ll := cell_lt l0
                have hlt := HSH.out i hli
                have hmm := HMS.out i hli
                rw [List.getElem?_eq_getElem hil] at hlt hmm
                simp only [Option.getD_some] at hlt hmm
                have HB1 := Lib.hid fun W : World => Bright_any ya yb p ls[i].1 ls[i].2.1 ls[i].2.2 W
                have HB2 := Lib.hid fun W : World => Bright_any na nb p ls[i].1 ls[i].2.1 ls[i].2.2 W
                simp only [brightV] at HB1 HB2
                rw [hlt.e1] at HB1
                rw [hlt.e2] at HB2
                have hmx := mix_read (ms := ms) (a := (brightN ya yb p ls[i].1 ls[i].2.1 ls[i].2.2, brightD ya yb p ls[i].1 ls[i].2.1 ls[i].2.2)) (c := (brightN na nb p ls[i].1 ls[i].2.1 ls[i].2.2, brightD na nb p ls[i].1 ls[i].2.1 ls[i].2.2)) hlt.a hlt.c (by rw [HN1.out]; exact hm5)
                unfold shB at hmm
                generalize ls[i].1 = lx at *
                generalize ls[i].2.1 = ly at *
                generalize ls[i].2.2 = lz at *
                generalize brightN ya yb p lx ly lz = p1 at *
                generalize brightD ya yb p lx ly lz = p2 at *
                generalize brightN na nb p lx ly lz = q1 at *
                generalize brightD na nb p lx ly lz = q2 at *
                have HMX := Lib.hid hmx
                have HMM := Lib.hid hmm
                clear hx x0 hlt hmm hmx
                go_wp2_with fail
                refine lay_wp (fun W => Ext wr W ∧ W.cell? ⟨wr.heap.size, 0, none⟩ = some (.int .i64 lx) ∧ W.cell? ⟨wr.heap.size, 1, none⟩ = some (.int .i64 ly) ∧ W.cell? ⟨wr.heap.size, 2, none⟩ = some (.int .i64 lz)) ⟨by (repeat' (first | with_reducible exact Ext.refl _ | with_reducible apply Ext.alloc | with_reducible apply Ext.drew | with_reducible apply Ext.drewN | with_reducible refine Ext.setCell ?_ ?_ _ | with_reducible apply Ext.step | with_reducible assumption | with_reducible exact Nat.le_refl _ | (simp; done) | (simp; omega))), by go_cell, by go_cell, by go_cell⟩ ?_
                rintro W6 ⟨x6, m0, m1, m2⟩
                have HX6 := Lib.hid (HXI.out.trans x6)
                have HM := Lib.hid (And.intro m0 (And.intro m1 m2))
                clear x6 m0 m1 m2 l0 l1 l2 ll
                obtain ⟨wo, rfl⟩ : ∃ wo, wo = wr := ⟨_, rfl⟩
                go_loopw [124, 25] (fun iv ov W => ∃ k : Nat, k ≤ j ∧ iv = .int .i64 (k : Int) ∧ shadeK.Own W6.heap.size W ov ((mixL ms (p1, p2) (q1, q2)).take k) ∧ Ext W6 W) (fun iv _ _ => j - (intOf iv).toNat)
                case atStart => exact ⟨0, by omega, rfl, EK.Own.nil _ _, Ext.refl _⟩
                case round =>
                  obtain ⟨k, hk, rfl, ho, hx⟩ := hrel
                  obtain ⟨Ao, ko, co, rfl⟩ := ho.shape
                  have HO := Lib.hid ho
                  have HXK := Lib.hid hx
                  by_cases hlk : k < j
                  · have hkl : k < ms.length := by rw [HN1.out]; exact hlk
                    have hki : (k : Int) < (j : Int) := by omega
                    obtain ⟨bt, ot, rfl, _, s0, s1⟩ := tiltK_atH HW1.out (j := k) (by rw [List.length_map]; exact hkl)
                    rw [List.getElem_map] at s0 s1
                    have x0 := HXM.out.trans (HX6.out.trans hx)
                    replace s0 := x0.cell_some s0
                    replace s1 := x0.cell_some s1
                    have lss := cell_lt s0
                    have m0 := hx.cell_some HM.out.1
                    have m1 := hx.cell_some HM.out.2.1
                    have m2 := hx.cell_some HM.out.2.2
                    have lm := cell_lt m0
                    have HST := Lib.hid (show (mixL ms (p1, p2) (q1, q2)).take (k + 1) = (mixL ms (p1, p2) (q1, q2)).take k ++ [if ms[k] then (p1, p2) else (q1, q2)] by
                      rw [List.take_add_one, List.getElem?_eq_getElem (by rw [mix_len]; exact hkl)]
                      simp [mixL])
                    have HLN := Lib.hid (show ((mixL ms (p1, p2) (q1, q2)).take k).length ≤ 1000000000 by rw [List.length_take]; omega)
                    have HBK := Lib.hid (show ∀ W : World, Calls Try.prog 21 #[tiltV (latX ya yb na nb ms[k]).1 (latX ya yb na nb ms[k]).2, .int .i64 p, lightV lx ly lz] W fun e w' => e = .returned (.tuple #[shadeV (if ms[k] then (p1, p2) else (q1, q2)).1 (if ms[k] then (p1, p2) else (q1, q2)).2, .int .i64 0]) ∧ Ext W w' from fun W => by
                      cases ms[k]
                      · exact HB2.out W
                      · exact HB1.out W)
                    generalize (latX ya yb na nb ms[k]).1 = tx at *
                    generalize (latX ya yb na nb ms[k]).2 = ty at *
                    generalize (if ms[k] then (p1, p2) else (q1, q2)) = sh at *
                    obtain ⟨u1, u2⟩ := sh
                    simp only at HBK
                    clear hx ho x0
                    go_wp2_with fail
                    refine (HBK.out _).mono ?_
                    rintro e w7 ⟨rfl, x7'⟩
                    have x7 : Ext wr w7 := Ext.trans (by (repeat' (first | with_reducible exact Ext.refl _ | with_reducible apply Ext.alloc | with_reducible apply Ext.drew | with_reducible apply Ext.drewN | with_reducible refine Ext.setCell ?_ ?_ _ | with_reducible apply Ext.step | with_reducible assumption | with_reducible exact Nat.le_refl _ | (simp; done) | (simp; omega)))) x7'
                    have HX7 := Lib.hid (HXK.out.trans x7)
                    have HO7 := Lib.hid (HO.out.ext x7)
                    clear x7 x7' s0 s1 lss m0 m1 m2 lm
                    go_wp2_with (at_builtin; refine EK.app (K := shadeK) (B := W6.heap.size) (xs := (mixL ms (p1, p2) (q1, q2)).take k) rfl (.tmp 137) (.tmp 139) rfl (w7.heap.size + 1) 1 (u1, u2) rfl rfl (fun i u hu => cell_new1 hu) (HO7.out.ext (((Ext.refl _).alloc _).alloc _)) (by have := HX7.out.bel.size; simp; omega) HLN.out ?_; intro v' w8 o8 b8 _; obtain ⟨Av, kv, cv, rfl⟩ := o8.shape; have HO8 := Lib.hid o8; have HB8 := Lib.hid b8; clear o8 b8)
                    go_roundw
                    case rel => exact ⟨k + 1, by omega, by go_num, by rw [HST.out]; exact HO8.out, ((HX7.out.alloc _).alloc _).below HB8.out (Nat.le_refl _)⟩
                    case measure => simp [intOf]; omega
                  · obtain rfl : k = j := by omega
                    have HFU := Lib.hid (show (mixL ms (p1, p2) (q1, q2)).take k = mixL ms (p1, p2) (q1, q2) from List.take_of_length_le (by rw [mix_len, HN1.out]; exact Nat.le_refl _))
                    have HRD := Lib.hid (show Calls Try.prog 53 #[.slice Ao ko co] wr (RetEE boolK wr (readL (mixL ms (p1, p2) (q1, q2))) (readE (mixL ms (p1, p2) (q1, q2)))) from Read_any _ _ wr (by have := HO.out.is; rwa [HFU.out] at this))
                    have hkn := HMX.out
                    obtain ⟨re, hre⟩ : ∃ z, z = readE (mixL ms (p1, p2) (q1, q2)) := ⟨_, rfl⟩
                    obtain ⟨rl, hrl⟩ : ∃ z, z = readL (mixL ms (p1, p2) (q1, q2)) := ⟨_, rfl⟩
                    have HRZ := Lib.hid (show re ≠ 0 → rl = [] from fun h => by rw [hrl]; unfold readL; rw [if_neg (by rw [← hre]; exact h)])
                    rw [← hre, ← hrl] at HRD hkn
                    have HKN := Lib.hid hkn
                    clear ho hx hre hrl hkn
                    go_wp2_with fail
                    refine HRD.out.mono ?_
                    rintro e w9 ⟨v9, rfl, o9, x9⟩
                    have HX9 := Lib.hid (HX6.out.trans (HXK.out.trans x9))
                    have HO9 := Lib.hid o9.is
                    obtain ⟨A9, k9, d9, rfl, hk9, -⟩ := o9.is.open_
                    clear o9 x9
                    by_cases hre : re = 0
                    · exact absurd (HKN.out.1.1 hre).1 (of_decide_eq_false HBF.out)
                    have HK0 := Lib.hid (show k9 = 0 by rw [← hk9, HRZ.out hre]; rfl)
                    have f1 : (re == 0) = false := by simpa using hre
                    clear hre hk9
                    go_wp2_with fail
                    obtain ⟨_, _, he, _, _, hr⟩ := HO9.out
                    simp only [Value.slice.injEq] at he
                    obtain ⟨rfl, -, -⟩ := he
                    have HW9 := Lib.hid hr
                    have HX39 := Lib.hid (HX3.out.trans (HXM.out.trans HX9.out))
                    clear hr
                    obtain ⟨wl, rfl⟩ : ∃ wl, wl = w9 := ⟨_, rfl⟩
                    go_loopw [158] (fun iv W => ∃ z : Nat, z ≤ k9 ∧ iv = .int .i64 (z : Int) ∧ Ext wl W) (fun iv _ => k9 - (intOf iv).toNat)
                    case atStart => exact ⟨0, by omega, rfl, Ext.refl _⟩
                    case round =>
                      obtain ⟨z, hz, rfl, hx⟩ := hrel
                      have HXZ := Lib.hid hx
                      by_cases hlz : z < k9
                      · exact absurd hlz (by have := HK0.out; omega)
                      · obtain rfl : z = k9 := by omega
                        clear hx
                        go_wp2_with fail
                        go_roundw
                        case rel => exact ⟨i + 1, by omega, by go_num, HX9.out.trans HXZ.out⟩
                        case measure => simp [intOf]; omega
              · obtain rfl : i = n2 := by omega
                clear hx
                go_wp2_with fail
                go_ret
                exact ⟨rfl, HX3.out.trans (HXM.out.trans HXI.out)⟩
      have hc1 : decide ((0 : Int) < (sn : Int)) = true := decide_eq_true (by omega)
      by_cases hc2 : sn < j
      · have hc3 : decide ((sn : Int) < (j : Int)) = true := decide_eq_true (by omega)
        have HBF := Lib.hid (show decide (true ∈ ms ∧ false ∈ ms) = true by rw [← HB0.out, decide_eq_true hc, decide_eq_true hc2]; rfl)
        have hcI : (0 : Int) < (sn : Int) := by omega
        have HBW := Lib.hid HX.out
        have hmm := @run_makeMap Try.prog
        go_wp2_with fail
        clear hmm
        refine lay_wp (fun W => mapIBL.At wc.heap.size (fun _ => false) W ∧ Ext wc W) ⟨MK.At.new (G := mapIBL) wc, (Ext.refl _).alloc _⟩ ?_
        rintro W4 ⟨hi4, x4⟩
        obtain ⟨mb, hmb⟩ : ∃ z, z = wc.heap.size := ⟨_, rfl⟩
        rw [← hmb] at hi4 ⊢
        have HI4 := Lib.hid hi4
        have HX4 := Lib.hid x4
        have HMB := Lib.hid hmb
        clear hmb hi4 x4
        go_wp2_with fail
        go_loopw [108] (fun iv W => ∃ q : Nat, q ≤ k2 ∧ iv = .int .i64 (q : Int) ∧ mapIBL.At mb (fun p => memL (t2.take q) p) W ∧ Ext wc W) (fun iv _ => k2 - (intOf iv).toNat)
        case atStart => exact ⟨0, by omega, rfl, HI4.out.congr (fun p => by rw [List.take_zero]; rfl), HX4.out⟩
        case round =>
          obtain ⟨q, hq, rfl, hmi, hx⟩ := hrel
          have HMI := Lib.hid hmi
          have HXQ := Lib.hid hx
          clear hmi
          by_cases hlq : q < k2
          · have hql : q < t2.length := by rw [HK2.out]; exact hlq
            have hqi : (q : Int) < (k2 : Int) := by omega
            obtain ⟨b1, o1, rfl, _, c0⟩ := ints_at HW2.out q hql
            have HTS := Lib.hid fun p => memL_set t2 hql p
            replace c0 := (HBW.out.trans hx).cell_some c0
            have lc0 := cell_lt c0
            obtain ⟨y, hy⟩ : ∃ z, z = t2[q] := ⟨_, rfl⟩
            rw [← hy] at c0 HTS
            obtain ⟨ob, hup0, hat⟩ := HMI.out.put y true
            have hup : (Instr.mapUpdate 102 (.map (some mb)) (.int .i64 y) (.bool true)).run Try.prog wr = .ok () (setBlock wr mb ob) := hup0
            have HAT := Lib.hid hat
            clear hy hx hup0 hat
            go_wp2_with fail
            go_roundw
            case rel => exact ⟨q + 1, by omega, by go_num, HAT.out.congr HTS.out, ext_setBlockH HXQ.out _ (by rw [HMB.out]; exact Nat.le_refl _)⟩
            case measure => simp [intOf]; omega
          · obtain rfl : q = k2 := by omega
            have HM2 := Lib.hid (show mapIBL.At mb (fun p => memL t2 p) wr by have := HMI.out; rwa [List.take_of_length_le (by rw [HK2.out]; exact Nat.le_refl _)] at this)
            obtain ⟨wm, rfl⟩ : ∃ wm, wm = wr := ⟨_, rfl⟩
            have HXM := Lib.hid (HBW.out.trans hx)
            clear hx HMI
            go_wp2_with fail
            go_loopw [117] (fun iv W => ∃ i : Nat, i ≤ n2 ∧ iv = .int .i64 (i : Int) ∧ Ext wm W) (fun iv _ => n2 - (intOf iv).toNat)
            case atStart => exact ⟨0, by omega, rfl, Ext.refl _⟩
            case round =>
              obtain ⟨i, hi, rfl, hx⟩ := hrel
              have HXI := Lib.hid hx
              by_cases hli : i < n2
              · have hil : i < ls.length := by rw [HN2.out]; exact hli
                have hii : (i : Int) < (n2 : Int) := by omega
                obtain ⟨b, o, rfl, _, l0, l1, l2⟩ := lightK_at HR2.out i hil
                have x0 := HX3.out.trans (HXM.out.trans hx)
                replace l0 := x0.cell_some l0
                replace l1 := x0.cell_some l1
                replace l2 := x0.cell_some l2
                have ll := cell_lt l0
                have hlt := HSH.out i hli
                have hmm := HMS.out i hli
                rw [List.getElem?_eq_getElem hil] at hlt hmm
                simp only [Option.getD_some] at hlt hmm
                have HB1 := Lib.hid fun W : World => Bright_any ya yb p ls[i].1 ls[i].2.1 ls[i].2.2 W
                have HB2 := Lib.hid fun W : World => Bright_any na nb p ls[i].1 ls[i].2.1 ls[i].2.2 W
                simp only [brightV] at HB1 HB2
                rw [hlt.e1] at HB1
                rw [hlt.e2] at HB2
                have hmx := mix_read (ms := ms) (a := (brightN ya yb p ls[i].1 ls[i].2.1 ls[i].2.2, brightD ya yb p ls[i].1 ls[i].2.1 ls[i].2.2)) (c := (brightN na nb p ls[i].1 ls[i].2.1 ls[i].2.2, brightD na nb p ls[i].1 ls[i].2.1 ls[i].2.2)) hlt.a hlt.c (by rw [HN1.out]; exact hm5)
                unfold shB at hmm
                generalize ls[i].1 = lx at *
                generalize ls[i].2.1 = ly at *
                generalize ls[i].2.2 = lz at *
                generalize brightN ya yb p lx ly lz = p1 at *
                generalize brightD ya yb p lx ly lz = p2 at *
                generalize brightN na nb p lx ly lz = q1 at *
                generalize brightD na nb p lx ly lz = q2 at *
                have HMX := Lib.hid hmx
                have HMM := Lib.hid hmm
                clear hx x0 hlt hmm hmx
                go_wp2_with fail
                refine lay_wp (fun W => Ext wr W ∧ W.cell? ⟨wr.heap.size, 0, none⟩ = some (.int .i64 lx) ∧ W.cell? ⟨wr.heap.size, 1, none⟩ = some (.int .i64 ly) ∧ W.cell? ⟨wr.heap.size, 2, none⟩ = some (.int .i64 lz)) ⟨by (repeat' (first | with_reducible exact Ext.refl _ | with_reducible apply Ext.alloc | with_reducible apply Ext.drew | with_reducible apply Ext.drewN | with_reducible refine Ext.setCell ?_ ?_ _ | with_reducible apply Ext.step | with_reducible assumption | with_reducible exact Nat.le_refl _ | (simp; done) | (simp; omega))), by go_cell, by go_cell, by go_cell⟩ ?_
                rintro W6 ⟨x6, m0, m1, m2⟩
                have HX6 := Lib.hid (HXI.out.trans x6)
                have HM := Lib.hid (And.intro m0 (And.intro m1 m2))
                clear x6 m0 m1 m2 l0 l1 l2 ll
                obtain ⟨wo, rfl⟩ : ∃ wo, wo = wr := ⟨_, rfl⟩
                go_loopw [124, 25] (fun iv ov W => ∃ k : Nat, k ≤ j ∧ iv = .int .i64 (k : Int) ∧ shadeK.Own W6.heap.size W ov ((mixL ms (p1, p2) (q1, q2)).take k) ∧ Ext W6 W) (fun iv _ _ => j - (intOf iv).toNat)
                case atStart => exact ⟨0, by omega, rfl, EK.Own.nil _ _, Ext.refl _⟩
                case round =>
                  obtain ⟨k, hk, rfl, ho, hx⟩ := hrel
                  obtain ⟨Ao, ko, co, rfl⟩ := ho.shape
                  have HO := Lib.hid ho
                  have HXK := Lib.hid hx
                  by_cases hlk : k < j
                  · have hkl : k < ms.length := by rw [HN1.out]; exact hlk
                    have hki : (k : Int) < (j : Int) := by omega
                    obtain ⟨bt, ot, rfl, _, s0, s1⟩ := tiltK_atH HW1.out (j := k) (by rw [List.length_map]; exact hkl)
                    rw [List.getElem_map] at s0 s1
                    have x0 := HXM.out.trans (HX6.out.trans hx)
                    replace s0 := x0.cell_some s0
                    replace s1 := x0.cell_some s1
                    have lss := cell_lt s0
                    have m0 := hx.cell_some HM.out.1
                    have m1 := hx.cell_some HM.out.2.1
                    have m2 := hx.cell_some HM.out.2.2
                    have lm := cell_lt m0
                    have HST := Lib.hid (show (mixL ms (p1, p2) (q1, q2)).take (k + 1) = (mixL ms (p1, p2) (q1, q2)).take k ++ [if ms[k] then (p1, p2) else (q1, q2)] by
                      rw [List.take_add_one, List.getElem?_eq_getElem (by rw [mix_len]; exact hkl)]
                      simp [mixL])
                    have HLN := Lib.hid (show ((mixL ms (p1, p2) (q1, q2)).take k).length ≤ 1000000000 by rw [List.length_take]; omega)
                    have HBK := Lib.hid (show ∀ W : World, Calls Try.prog 21 #[tiltV (latX ya yb na nb ms[k]).1 (latX ya yb na nb ms[k]).2, .int .i64 p, lightV lx ly lz] W fun e w' => e = .returned (.tuple #[shadeV (if ms[k] then (p1, p2) else (q1, q2)).1 (if ms[k] then (p1, p2) else (q1, q2)).2, .int .i64 0]) ∧ Ext W w' from fun W => by
                      cases ms[k]
                      · exact HB2.out W
                      · exact HB1.out W)
                    generalize (latX ya yb na nb ms[k]).1 = tx at *
                    generalize (latX ya yb na nb ms[k]).2 = ty at *
                    generalize (if ms[k] then (p1, p2) else (q1, q2)) = sh at *
                    obtain ⟨u1, u2⟩ := sh
                    simp only at HBK
                    clear hx ho x0
                    go_wp2_with fail
                    refine (HBK.out _).mono ?_
                    rintro e w7 ⟨rfl, x7'⟩
                    have x7 : Ext wr w7 := Ext.trans (by (repeat' (first | with_reducible exact Ext.refl _ | with_reducible apply Ext.alloc | with_reducible apply Ext.drew | with_reducible apply Ext.drewN | with_reducible refine Ext.setCell ?_ ?_ _ | with_reducible apply Ext.step | with_reducible assumption | with_reducible exact Nat.le_refl _ | (simp; done) | (simp; omega)))) x7'
                    have HX7 := Lib.hid (HXK.out.trans x7)
                    have HO7 := Lib.hid (HO.out.ext x7)
                    clear x7 x7' s0 s1 lss m0 m1 m2 lm
                    go_wp2_with (at_builtin; refine EK.app (K := shadeK) (B := W6.heap.size) (xs := (mixL ms (p1, p2) (q1, q2)).take k) rfl (.tmp 137) (.tmp 139) rfl (w7.heap.size + 1) 1 (u1, u2) rfl rfl (fun i u hu => cell_new1 hu) (HO7.out.ext (((Ext.refl _).alloc _).alloc _)) (by have := HX7.out.bel.size; simp; omega) HLN.out ?_; intro v' w8 o8 b8 _; obtain ⟨Av, kv, cv, rfl⟩ := o8.shape; have HO8 := Lib.hid o8; have HB8 := Lib.hid b8; clear o8 b8)
                    go_roundw
                    case rel => exact ⟨k + 1, by omega, by go_num, by rw [HST.out]; exact HO8.out, ((HX7.out.alloc _).alloc _).below HB8.out (Nat.le_refl _)⟩
                    case measure => simp [intOf]; omega
                  · obtain rfl : k = j := by omega
                    have HFU := Lib.hid (show (mixL ms (p1, p2) (q1, q2)).take k = mixL ms (p1, p2) (q1, q2) from List.take_of_length_le (by rw [mix_len, HN1.out]; exact Nat.le_refl _))
                    have HRD := Lib.hid (show Calls Try.prog 53 #[.slice Ao ko co] wr (RetEE boolK wr (readL (mixL ms (p1, p2) (q1, q2))) (readE (mixL ms (p1, p2) (q1, q2)))) from Read_any _ _ wr (by have := HO.out.is; rwa [HFU.out] at this))
                    have hkn := HMX.out
                    obtain ⟨re, hre⟩ : ∃ z, z = readE (mixL ms (p1, p2) (q1, q2)) := ⟨_, rfl⟩
                    obtain ⟨rl, hrl⟩ : ∃ z, z = readL (mixL ms (p1, p2) (q1, q2)) := ⟨_, rfl⟩
                    have HRZ := Lib.hid (show re ≠ 0 → rl = [] from fun h => by rw [hrl]; unfold readL; rw [if_neg (by rw [← hre]; exact h)])
                    rw [← hre, ← hrl] at HRD hkn
                    have HKN := Lib.hid hkn
                    clear ho hx hre hrl hkn
                    go_wp2_with fail
                    refine HRD.out.mono ?_
                    rintro e w9 ⟨v9, rfl, o9, x9⟩
                    have HX9 := Lib.hid (HX6.out.trans (HXK.out.trans x9))
                    have HO9 := Lib.hid o9.is
                    obtain ⟨A9, k9, d9, rfl, hk9, -⟩ := o9.is.open_
                    clear o9 x9
                    by_cases hre : re = 0
                    · obtain ⟨hb2, hne⟩ := HKN.out.1.1 hre
                      obtain ⟨s, hs⟩ := HKN.out.2 hre
                      have hmt : memL t2 (i : Int) = true := by
                        rw [HMM.out, Bool.not_eq_true', decide_eq_false_iff_not]
                        exact fun h => hne (Prod.ext h.1 h.2)
                      have hlk : (Instr.lookup 102 (.map (some mb)) (.int .i64 (i : Int)) false).run Try.prog w9 = .ok (.bool true) w9 := by
                        have := (HM2.out.ext HX9.out).look (i : Int)
                        rw [hmt] at this
                        exact this
                      subst hs
                      rw [List.length_map, HN1.out] at hk9
                      subst hk9
                      subst hre
                      clear hb2 hne hmt HKN HRZ
                      go_wp2_with fail
                      clear hlk
                      obtain ⟨_, _, he, _, _, hr⟩ := HO9.out
                      simp only [Value.slice.injEq] at he
                      obtain ⟨rfl, -, -⟩ := he
                      have HW9 := Lib.hid hr
                      have HX39 := Lib.hid (HX3.out.trans (HXM.out.trans HX9.out))
                      clear hr
                      obtain ⟨wl, rfl⟩ : ∃ wl, wl = w9 := ⟨_, rfl⟩
                      go_loopw [158] (fun iv W => ∃ z : Nat, z ≤ k ∧ iv = .int .i64 (z : Int) ∧ Ext wl W) (fun iv _ => k - (intOf iv).toNat)
                      case atStart => exact ⟨0, by omega, rfl, Ext.refl _⟩
                      case round =>
                        obtain ⟨z, hz, rfl, hx⟩ := hrel
                        have HXZ := Lib.hid hx
                        by_cases hlz : z < k
                        · have hzl : z < ms.length := by rw [HN1.out]; exact hlz
                          have hzi : (z : Int) < (k : Int) := by omega
                          have h0l : 0 < ms.length := by omega
                          have h0i : 0 < k := by omega
                          obtain ⟨b9, o9, rfl, _, r0⟩ := bools_at HW9.out z (by rw [List.length_map]; exact hzl)
                          obtain ⟨b9', o9', he9, _, r1⟩ := bools_at HW9.out 0 (by rw [List.length_map]; exact h0l)
                          simp only [Option.some.injEq, Addr.mk.injEq, and_true] at he9
                          obtain ⟨rfl, rfl⟩ := he9
                          obtain ⟨b1, o1, rfl, _, m0⟩ := bools_at HR1.out z hzl
                          obtain ⟨b1', o1', he1, _, m1⟩ := bools_at HR1.out 0 h0l
                          simp only [Option.some.injEq, Addr.mk.injEq, and_true] at he1
                          obtain ⟨rfl, rfl⟩ := he1
                          rw [List.getElem_map] at r0 r1
                          replace r0 := hx.cell_some r0
                          replace r1 := hx.cell_some r1
                          replace m0 := (HX39.out.trans hx).cell_some m0
                          replace m1 := (HX39.out.trans hx).cell_some m1
                          simp only [Nat.add_zero] at r1 m1
                          have l0 := cell_lt r0
                          have l1 := cell_lt m0
                          clear hx
                          generalize ms[z] = y0 at *
                          generalize ms[0] = y1 at *
                          cases s <;> cases y0 <;> cases y1
                          all_goals
                            simp only [show (true == true) = true from rfl, show (true == false) = false from rfl, show (false == true) = false from rfl, show (false == false) = true from rfl] at r0 r1
                            go_wp2_with fail
                            refine wp_region_bext (by kernel_rfl) (by kernel_rfl) ?_
                            repeat (any_goals (go_big_quiet_step (fail)))
                            all_goals refine wpQuiet_nil ?_
                            all_goals rintro _ ⟨δ, rfl⟩
                            have HX7 := Lib.hid (HXZ.out.trans (show Ext wr δ.wd from ⟨δ, rfl⟩))
                            generalize δ.wd = W7 at *
                            go_wp2_with fail
                            go_roundw
                            case rel => exact ⟨z + 1, by omega, by go_num, HX7.out⟩
                            case measure => simp [intOf]; omega
                        · obtain rfl : z = k := by omega
                          clear hx
                          go_wp2_with fail
                          go_roundw
                          case rel => exact ⟨i + 1, by omega, by go_num, HX9.out.trans HXZ.out⟩
                          case measure => simp [intOf]; omega
                      
                    have HK0 := Lib.hid (show k9 = 0 by rw [← hk9, HRZ.out hre]; rfl)
                    have f1 : (re == 0) = false := by simpa using hre
                    have hmt : memL t2 (i : Int) = false := by
                      rw [HMM.out, Bool.not_eq_false', decide_eq_true_eq]
                      refine Decidable.byContradiction fun h => hre (HKN.out.1.2 ⟨of_decide_eq_true HBF.out, fun e => h ?_⟩)
                      exact ⟨congrArg Prod.fst e, congrArg Prod.snd e⟩
                    have hlk : (Instr.lookup 102 (.map (some mb)) (.int .i64 (i : Int)) false).run Try.prog w9 = .ok (.bool false) w9 := by
                      have := (HM2.out.ext HX9.out).look (i : Int)
                      rw [hmt] at this
                      exact this
                    clear hre hk9 hmt HKN HRZ
                    go_wp2_with fail
                    clear hlk
                    obtain ⟨_, _, he, _, _, hr⟩ := HO9.out
                    simp only [Value.slice.injEq] at he
                    obtain ⟨rfl, -, -⟩ := he
                    have HW9 := Lib.hid hr
                    have HX39 := Lib.hid (HX3.out.trans (HXM.out.trans HX9.out))
                    clear hr
                    obtain ⟨wl, rfl⟩ : ∃ wl, wl = w9 := ⟨_, rfl⟩
                    go_loopw [158] (fun iv W => ∃ z : Nat, z ≤ k9 ∧ iv = .int .i64 (z : Int) ∧ Ext wl W) (fun iv _ => k9 - (intOf iv).toNat)
                    case atStart => exact ⟨0, by omega, rfl, Ext.refl _⟩
                    case round =>
                      obtain ⟨z, hz, rfl, hx⟩ := hrel
                      have HXZ := Lib.hid hx
                      by_cases hlz : z < k9
                      · exact absurd hlz (by have := HK0.out; omega)
                      · obtain rfl : z = k9 := by omega
                        clear hx
                        go_wp2_with fail
                        go_roundw
                        case rel => exact ⟨i + 1, by omega, by go_num, HX9.out.trans HXZ.out⟩
                        case measure => simp [intOf]; omega
              · obtain rfl : i = n2 := by omega
                clear hx
                go_wp2_with fail
                go_ret
                exact ⟨rfl, HX3.out.trans (HXM.out.trans HXI.out)⟩
      · have hc3 : decide ((sn : Int) < (j : Int)) = false := decide_eq_false (by omega)
        have HBF := Lib.hid (show decide (true ∈ ms ∧ false ∈ ms) = false by rw [← HB0.out, decide_eq_false hc2]; simp)
        have hcI : (0 : Int) < (sn : Int) := by omega
        have HBW := Lib.hid HX.out
        have hmm := @run_makeMap Try.prog
        go_wp2_with fail
        clear hmm
        refine lay_wp (fun W => mapIBL.At wc.heap.size (fun _ => false) W ∧ Ext wc W) ⟨MK.At.new (G := mapIBL) wc, (Ext.refl _).alloc _⟩ ?_
        rintro W4 ⟨hi4, x4⟩
        obtain ⟨mb, hmb⟩ : ∃ z, z = wc.heap.size := ⟨_, rfl⟩
        rw [← hmb] at hi4 ⊢
        have HI4 := Lib.hid hi4
        have HX4 := Lib.hid x4
        have HMB := Lib.hid hmb
        clear hmb hi4 x4
        go_wp2_with fail
        go_loopw [108] (fun iv W => ∃ q : Nat, q ≤ k2 ∧ iv = .int .i64 (q : Int) ∧ mapIBL.At mb (fun p => memL (t2.take q) p) W ∧ Ext wc W) (fun iv _ => k2 - (intOf iv).toNat)
        case atStart => exact ⟨0, by omega, rfl, HI4.out.congr (fun p => by rw [List.take_zero]; rfl), HX4.out⟩
        case round =>
          obtain ⟨q, hq, rfl, hmi, hx⟩ := hrel
          have HMI := Lib.hid hmi
          have HXQ := Lib.hid hx
          clear hmi
          by_cases hlq : q < k2
          · have hql : q < t2.length := by rw [HK2.out]; exact hlq
            have hqi : (q : Int) < (k2 : Int) := by omega
            obtain ⟨b1, o1, rfl, _, c0⟩ := ints_at HW2.out q hql
            have HTS := Lib.hid fun p => memL_set t2 hql p
            replace c0 := (HBW.out.trans hx).cell_some c0
            have lc0 := cell_lt c0
            obtain ⟨y, hy⟩ : ∃ z, z = t2[q] := ⟨_, rfl⟩
            rw [← hy] at c0 HTS
            obtain ⟨ob, hup0, hat⟩ := HMI.out.put y true
            have hup : (Instr.mapUpdate 102 (.map (some mb)) (.int .i64 y) (.bool true)).run Try.prog wr = .ok () (setBlock wr mb ob) := hup0
            have HAT := Lib.hid hat
            clear hy hx hup0 hat
            go_wp2_with fail
            go_roundw
            case rel => exact ⟨q + 1, by omega, by go_num, HAT.out.congr HTS.out, ext_setBlockH HXQ.out _ (by rw [HMB.out]; exact Nat.le_refl _)⟩
            case measure => simp [intOf]; omega
          · obtain rfl : q = k2 := by omega
            have HM2 := Lib.hid (show mapIBL.At mb (fun p => memL t2 p) wr by have := HMI.out; rwa [List.take_of_length_le (by rw [HK2.out]; exact Nat.le_refl _)] at this)
            obtain ⟨wm, rfl⟩ : ∃ wm, wm = wr := ⟨_, rfl⟩
            have HXM := Lib.hid (HBW.out.trans hx)
            clear hx HMI
            go_wp2_with fail
            go_loopw [117] (fun iv W => ∃ i : Nat, i ≤ n2 ∧ iv = .int .i64 (i : Int) ∧ Ext wm W) (fun iv _ => n2 - (intOf iv).toNat)
            case atStart => exact ⟨0, by omega, rfl, Ext.refl _⟩
            case round =>
              obtain ⟨i, hi, rfl, hx⟩ := hrel
              have HXI := Lib.hid hx
              by_cases hli : i < n2
              · have hil : i < ls.length := by rw [HN2.out]; exact hli
                have hii : (i : Int) < (n2 : Int) := by omega
                obtain ⟨b, o, rfl, _, l0, l1, l2⟩ := lightK_at HR2.out i hil
                have x0 := HX3.out.trans (HXM.out.trans hx)
                replace l0 := x0.cell_some l0
                replace l1 := x0.cell_some l1
                replace l2 := x0.cell_some l2
                have ll := cell_lt l0
                have hlt := HSH.out i hli
                have hmm := HMS.out i hli
                rw [List.getElem?_eq_getElem hil] at hlt hmm
                simp only [Option.getD_some] at hlt hmm
                have HB1 := Lib.hid fun W : World => Bright_any ya yb p ls[i].1 ls[i].2.1 ls[i].2.2 W
                have HB2 := Lib.hid fun W : World => Bright_any na nb p ls[i].1 ls[i].2.1 ls[i].2.2 W
                simp only [brightV] at HB1 HB2
                rw [hlt.e1] at HB1
                rw [hlt.e2] at HB2
                have hmx := mix_read (ms := ms) (a := (brightN ya yb p ls[i].1 ls[i].2.1 ls[i].2.2, brightD ya yb p ls[i].1 ls[i].2.1 ls[i].2.2)) (c := (brightN na nb p ls[i].1 ls[i].2.1 ls[i].2.2, brightD na nb p ls[i].1 ls[i].2.1 ls[i].2.2)) hlt.a hlt.c (by rw [HN1.out]; exact hm5)
                unfold shB at hmm
                generalize ls[i].1 = lx at *
                generalize ls[i].2.1 = ly at *
                generalize ls[i].2.2 = lz at *
                generalize brightN ya yb p lx ly lz = p1 at *
                generalize brightD ya yb p lx ly lz = p2 at *
                generalize brightN na nb p lx ly lz = q1 at *
                generalize brightD na nb p lx ly lz = q2 at *
                have HMX := Lib.hid hmx
                have HMM := Lib.hid hmm
                clear hx x0 hlt hmm hmx
                go_wp2_with fail
                refine lay_wp (fun W => Ext wr W ∧ W.cell? ⟨wr.heap.size, 0, none⟩ = some (.int .i64 lx) ∧ W.cell? ⟨wr.heap.size, 1, none⟩ = some (.int .i64 ly) ∧ W.cell? ⟨wr.heap.size, 2, none⟩ = some (.int .i64 lz)) ⟨by (repeat' (first | with_reducible exact Ext.refl _ | with_reducible apply Ext.alloc | with_reducible apply Ext.drew | with_reducible apply Ext.drewN | with_reducible refine Ext.setCell ?_ ?_ _ | with_reducible apply Ext.step | with_reducible assumption | with_reducible exact Nat.le_refl _ | (simp; done) | (simp; omega))), by go_cell, by go_cell, by go_cell⟩ ?_
                rintro W6 ⟨x6, m0, m1, m2⟩
                have HX6 := Lib.hid (HXI.out.trans x6)
                have HM := Lib.hid (And.intro m0 (And.intro m1 m2))
                clear x6 m0 m1 m2 l0 l1 l2 ll
                obtain ⟨wo, rfl⟩ : ∃ wo, wo = wr := ⟨_, rfl⟩
                go_loopw [124, 25] (fun iv ov W => ∃ k : Nat, k ≤ j ∧ iv = .int .i64 (k : Int) ∧ shadeK.Own W6.heap.size W ov ((mixL ms (p1, p2) (q1, q2)).take k) ∧ Ext W6 W) (fun iv _ _ => j - (intOf iv).toNat)
                case atStart => exact ⟨0, by omega, rfl, EK.Own.nil _ _, Ext.refl _⟩
                case round =>
                  obtain ⟨k, hk, rfl, ho, hx⟩ := hrel
                  obtain ⟨Ao, ko, co, rfl⟩ := ho.shape
                  have HO := Lib.hid ho
                  have HXK := Lib.hid hx
                  by_cases hlk : k < j
                  · have hkl : k < ms.length := by rw [HN1.out]; exact hlk
                    have hki : (k : Int) < (j : Int) := by omega
                    obtain ⟨bt, ot, rfl, _, s0, s1⟩ := tiltK_atH HW1.out (j := k) (by rw [List.length_map]; exact hkl)
                    rw [List.getElem_map] at s0 s1
                    have x0 := HXM.out.trans (HX6.out.trans hx)
                    replace s0 := x0.cell_some s0
                    replace s1 := x0.cell_some s1
                    have lss := cell_lt s0
                    have m0 := hx.cell_some HM.out.1
                    have m1 := hx.cell_some HM.out.2.1
                    have m2 := hx.cell_some HM.out.2.2
                    have lm := cell_lt m0
                    have HST := Lib.hid (show (mixL ms (p1, p2) (q1, q2)).take (k + 1) = (mixL ms (p1, p2) (q1, q2)).take k ++ [if ms[k] then (p1, p2) else (q1, q2)] by
                      rw [List.take_add_one, List.getElem?_eq_getElem (by rw [mix_len]; exact hkl)]
                      simp [mixL])
                    have HLN := Lib.hid (show ((mixL ms (p1, p2) (q1, q2)).take k).length ≤ 1000000000 by rw [List.length_take]; omega)
                    have HBK := Lib.hid (show ∀ W : World, Calls Try.prog 21 #[tiltV (latX ya yb na nb ms[k]).1 (latX ya yb na nb ms[k]).2, .int .i64 p, lightV lx ly lz] W fun e w' => e = .returned (.tuple #[shadeV (if ms[k] then (p1, p2) else (q1, q2)).1 (if ms[k] then (p1, p2) else (q1, q2)).2, .int .i64 0]) ∧ Ext W w' from fun W => by
                      cases ms[k]
                      · exact HB2.out W
                      · exact HB1.out W)
                    generalize (latX ya yb na nb ms[k]).1 = tx at *
                    generalize (latX ya yb na nb ms[k]).2 = ty at *
                    generalize (if ms[k] then (p1, p2) else (q1, q2)) = sh at *
                    obtain ⟨u1, u2⟩ := sh
                    simp only at HBK
                    clear hx ho x0
                    go_wp2_with fail
                    refine (HBK.out _).mono ?_
                    rintro e w7 ⟨rfl, x7'⟩
                    have x7 : Ext wr w7 := Ext.trans (by (repeat' (first | with_reducible exact Ext.refl _ | with_reducible apply Ext.alloc | with_reducible apply Ext.drew | with_reducible apply Ext.drewN | with_reducible refine Ext.setCell ?_ ?_ _ | with_reducible apply Ext.step | with_reducible assumption | with_reducible exact Nat.le_refl _ | (simp; done) | (simp; omega)))) x7'
                    have HX7 := Lib.hid (HXK.out.trans x7)
                    have HO7 := Lib.hid (HO.out.ext x7)
                    clear x7 x7' s0 s1 lss m0 m1 m2 lm
                    go_wp2_with (at_builtin; refine EK.app (K := shadeK) (B := W6.heap.size) (xs := (mixL ms (p1, p2) (q1, q2)).take k) rfl (.tmp 137) (.tmp 139) rfl (w7.heap.size + 1) 1 (u1, u2) rfl rfl (fun i u hu => cell_new1 hu) (HO7.out.ext (((Ext.refl _).alloc _).alloc _)) (by have := HX7.out.bel.size; simp; omega) HLN.out ?_; intro v' w8 o8 b8 _; obtain ⟨Av, kv, cv, rfl⟩ := o8.shape; have HO8 := Lib.hid o8; have HB8 := Lib.hid b8; clear o8 b8)
                    go_roundw
                    case rel => exact ⟨k + 1, by omega, by go_num, by rw [HST.out]; exact HO8.out, ((HX7.out.alloc _).alloc _).below HB8.out (Nat.le_refl _)⟩
                    case measure => simp [intOf]; omega
                  · obtain rfl : k = j := by omega
                    have HFU := Lib.hid (show (mixL ms (p1, p2) (q1, q2)).take k = mixL ms (p1, p2) (q1, q2) from List.take_of_length_le (by rw [mix_len, HN1.out]; exact Nat.le_refl _))
                    have HRD := Lib.hid (show Calls Try.prog 53 #[.slice Ao ko co] wr (RetEE boolK wr (readL (mixL ms (p1, p2) (q1, q2))) (readE (mixL ms (p1, p2) (q1, q2)))) from Read_any _ _ wr (by have := HO.out.is; rwa [HFU.out] at this))
                    have hkn := HMX.out
                    obtain ⟨re, hre⟩ : ∃ z, z = readE (mixL ms (p1, p2) (q1, q2)) := ⟨_, rfl⟩
                    obtain ⟨rl, hrl⟩ : ∃ z, z = readL (mixL ms (p1, p2) (q1, q2)) := ⟨_, rfl⟩
                    have HRZ := Lib.hid (show re ≠ 0 → rl = [] from fun h => by rw [hrl]; unfold readL; rw [if_neg (by rw [← hre]; exact h)])
                    rw [← hre, ← hrl] at HRD hkn
                    have HKN := Lib.hid hkn
                    clear ho hx hre hrl hkn
                    go_wp2_with fail
                    refine HRD.out.mono ?_
                    rintro e w9 ⟨v9, rfl, o9, x9⟩
                    have HX9 := Lib.hid (HX6.out.trans (HXK.out.trans x9))
                    have HO9 := Lib.hid o9.is
                    obtain ⟨A9, k9, d9, rfl, hk9, -⟩ := o9.is.open_
                    clear o9 x9
                    by_cases hre : re = 0
                    · exact absurd (HKN.out.1.1 hre).1 (of_decide_eq_false HBF.out)
                    have HK0 := Lib.hid (show k9 = 0 by rw [← hk9, HRZ.out hre]; rfl)
                    have f1 : (re == 0) = false := by simpa using hre
                    clear hre hk9
                    go_wp2_with fail
                    obtain ⟨_, _, he, _, _, hr⟩ := HO9.out
                    simp only [Value.slice.injEq] at he
                    obtain ⟨rfl, -, -⟩ := he
                    have HW9 := Lib.hid hr
                    have HX39 := Lib.hid (HX3.out.trans (HXM.out.trans HX9.out))
                    clear hr
                    obtain ⟨wl, rfl⟩ : ∃ wl, wl = w9 := ⟨_, rfl⟩
                    go_loopw [158] (fun iv W => ∃ z : Nat, z ≤ k9 ∧ iv = .int .i64 (z : Int) ∧ Ext wl W) (fun iv _ => k9 - (intOf iv).toNat)
                    case atStart => exact ⟨0, by omega, rfl, Ext.refl _⟩
                    case round =>
                      obtain ⟨z, hz, rfl, hx⟩ := hrel
                      have HXZ := Lib.hid hx
                      by_cases hlz : z < k9
                      · exact absurd hlz (by have := HK0.out; omega)
                      · obtain rfl : z = k9 := by omega
                        clear hx
                        go_wp2_with fail
                        go_roundw
                        case rel => exact ⟨i + 1, by omega, by go_num, HX9.out.trans HXZ.out⟩
                        case measure => simp [intOf]; omega
              · obtain rfl : i = n2 := by omega
                clear hx
                go_wp2_with fail
                go_ret
                exact ⟨rfl, HX3.out.trans (HXM.out.trans HXI.out)⟩
end Go.Proofs.Ytlljhimaopnbfaa
