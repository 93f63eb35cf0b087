/- TopLatent: the law's walk. Condition: the word reads as a list. -/
import Derived.Test.YtkjgcmdabelohaaTAl07
import Derived.Test.YtkjgcmdabelohaaGAppD
namespace Go.Proofs.Ytkjgcmdabelohaa
open Go.RowKit

/-- The mask while it is built: rows that are whole, and the one that grows. -/
def MaskAt (B C : Nat) (rows : List (List Bool)) (i : Nat) (W : World) (v : Value) : Prop :=
  (i = 0 ∧ v = .slice none 0 0) ∨ ∃ q m Bi Ts T, i = q * C + m ∧ 1 ≤ m ∧ m ≤ C ∧ q < 5 ∧ RowsM rowsK boolK B Bi W v Ts T (rows.take q) ((rows[q]?.getD []).take m) ∧ Bi ≤ W.heap.size
theorem idx_int {i q C m : Nat} (h : i = q * C + m) (hm : m < C) : (i : Int).tdiv (C : Int) = (q : Int) ∧ (i : Int) / (C : Int) = (q : Int) ∧ (i : Int).tmod (C : Int) = (m : Int) ∧ (i : Int) % (C : Int) = (m : Int) := by
  have e1 : i / C = q := by rw [h, Nat.mul_comm, Nat.mul_add_div (by omega), Nat.div_eq_of_lt hm, Nat.add_zero]
  have e2 : i % C = m := by rw [h, Nat.mul_comm, Nat.mul_add_mod, Nat.mod_eq_of_lt hm]
  have f1 : (i : Int) / (C : Int) = (q : Int) := by rw [← e1]; exact (Int.natCast_ediv _ _).symm
  have f2 : (i : Int) % (C : Int) = (m : Int) := by rw [← e2]; exact (Int.natCast_emod _ _).symm
  exact ⟨by rw [Int.tdiv_eq_ediv_of_nonneg (by omega)]; exact f1, f1, by rw [Int.tmod_eq_emod_of_nonneg (by omega)]; exact f2, f2⟩
theorem grown_ext {a b c : World} {row : Option Nat} (h : a.grownBy b row) (x : Ext b c) : a.grownBy c row := by
  have k := x.grow row
  exact ⟨k.os.trans h.os, k.tape.trans h.tape, k.output.trans h.output, Nat.le_trans h.size k.size, fun i hi hne => (k.block i (Nat.lt_of_lt_of_le hi h.size) hne).trans (h.block i hi hne)⟩
theorem rows_at {rows : List (List Bool)} {C q : Nat} (h5 : rows.length = 5) (hC : ∀ l ∈ rows, l.length = C) (hq : q < 5) : (rows[q]?.getD []).length = C ∧ rows[q]?.getD [] = rows[q]'(by omega) := by
  rw [List.getElem?_eq_getElem (by omega), Option.getD_some]
  exact ⟨hC _ (List.getElem_mem _), rfl⟩
theorem MaskAt.all {B C i : Nat} {rows : List (List Bool)} {W : World} {v : Value} (h : MaskAt B C rows i W v) (h5 : rows.length = 5) (hC : ∀ l ∈ rows, l.length = C) (hC1 : 1 ≤ C) (hi : i = 5 * C) : TabIs rowsK boolK W v rows := by
  rcases h with ⟨h0, -⟩ | ⟨q, m, Bi, Ts, T, e, m1, m2, hq, hr, -⟩
  · omega
  · have hq4 : q = 4 := by
      by_cases h3 : q ≤ 3
      · have := Nat.mul_le_mul_right C h3
        omega
      · omega
    subst hq4
    obtain rfl : m = C := by omega
    have := hr.is
    obtain ⟨e1, e2⟩ := rows_at h5 hC (q := 4) (by decide)
    rw [e2] at this e1
    rw [List.take_of_length_le (l := rows[4]'(by omega)) (by rw [e1]; exact Nat.le_refl _)] at this
    rw [show rows.take 4 ++ [rows[4]'(by omega)] = rows by
      rw [← List.take_succ_eq_append_getElem, List.take_of_length_le (by omega)]] at this
    exact this

set_option maxRecDepth 100000 in
set_option maxHeartbeats 16000000 in
theorem lawLatentT_any (u : Value) (ws : List Int) (size cols ya yb na nb p lx ly lz : Int) (w : World) (hu : intK.Is w u ws) :
    Calls Try.prog 4 #[u, .int .i64 size, .int .i64 cols, tiltV ya yb, tiltV na nb, .int .i64 p, lightV lx ly lz] w fun e w' => e = .returned (.bool true) ∧ Ext w w' := by
  have HU := Lib.hid hu
  obtain ⟨A, n, c, rfl, hn, -, -, -⟩ := hu.open_
  have HN := Lib.hid hn
  have HAL := Lib.hid fun W : World => alive07_any W
  have HHI := Lib.hid fun (W : World) (x : Ext w W) => hidden_any (.slice A n c) ws size cols ya yb na nb W (hu.ext x)
  clear hu hn
  go_enter Try.func4, Try.ntmps4
  go_wp2_with fail
  refine lay_calls (fun W => Ext w W ∧ BoxAt w.heap.size #[.int .i64 ya, .int .i64 yb] 41 W ∧ BoxAt (w.heap.size + 1) #[.int .i64 na, .int .i64 nb] 41 W ∧ BoxAt (w.heap.size + 1 + 1) #[.int .i64 lx, .int .i64 ly, .int .i64 lz] 43 W) ⟨by (repeat' (first | with_reducible exact Ext.refl _ | with_reducible apply Ext.alloc | with_reducible apply Ext.drew | with_reducible apply Ext.drewN | with_reducible refine Ext.setCell ?_ ?_ _ | with_reducible apply Ext.step | with_reducible assumption | with_reducible exact Nat.le_refl _ | (simp; done) | (simp; omega))), ?_, ?_, ?_⟩ ?_
  · exact (BoxAt.new w _ _).ext (((Ext.refl _).alloc _).alloc _)
  · have := (BoxAt.new (w.alloc (.cells #[.int .i64 ya, .int .i64 yb] 41)) #[.int .i64 na, .int .i64 nb] 41).ext ((Ext.refl _).alloc (.cells #[.int .i64 lx, .int .i64 ly, .int .i64 lz] 43))
    simpa using this
  · have := BoxAt.new ((w.alloc (.cells #[.int .i64 ya, .int .i64 yb] 41)).alloc (.cells #[.int .i64 na, .int .i64 nb] 41)) #[.int .i64 lx, .int .i64 ly, .int .i64 lz] 43
    simpa using this
  rintro W0 ⟨x0, b0, b1, b2⟩
  refine (HAL.out _).mono ?_
  rintro e W1 ⟨rfl, x1⟩
  have HX1 := Lib.hid (x0.trans x1)
  have HB0 := Lib.hid (b0.ext x1)
  have HB1 := Lib.hid (b1.ext x1)
  have HB2 := Lib.hid (b2.ext x1)
  have l0 := HB2.out.lt
  have a0 := HB0.out.cell (i := 0) rfl
  have a1 := HB0.out.cell (i := 1) rfl
  have la := cell_lt a0
  have c0 := HB1.out.cell (i := 0) rfl
  have c1 := HB1.out.cell (i := 1) rfl
  have lc := cell_lt c0
  clear x0 x1 b0 b1 b2
  by_cases g1 : 20 < n
  · have g : decide ((20 : Int) < (n : Int)) = true := decide_eq_true (by omega)
    clear g1
    go_wp2_with fail
    go_ret
    exact ⟨rfl, HX1.out⟩
  replace g1 : decide ((20 : Int) < (n : Int)) = false := decide_eq_false (by omega)
  by_cases g2 : 40 < cols
  · have g : decide ((40 : Int) < cols) = true := decide_eq_true g2
    clear g2
    go_wp2_with fail
    go_ret
    exact ⟨rfl, HX1.out⟩
  replace g2 : decide ((40 : Int) < cols) = false := decide_eq_false g2
  obtain ⟨hb, hhb⟩ : ∃ z, z = hidB ws size cols ya yb na nb := ⟨_, rfl⟩
  rw [← hhb] at HHI
  have HHB := Lib.hid hhb
  clear hhb
  go_wp2_with fail
  refine (HHI.out _ HX1.out).mono ?_
  rintro e W2 ⟨tv, mv, rfl, ot, om, x2⟩
  obtain ⟨A1, k1, c1', rfl⟩ := ot.shape
  obtain ⟨A2, k2, c2', rfl⟩ := om.shape
  have HT := Lib.hid ot.is
  have HM := Lib.hid om.is
  have HX2 := Lib.hid (HX1.out.trans x2)
  have HB0 := Lib.hid (HB0.out.ext x2)
  have HB1 := Lib.hid (HB1.out.ext x2)
  have HB2 := Lib.hid (HB2.out.ext x2)
  clear x2 ot om a0 a1 c0 c1 l0 la lc g1 g2
  cases hb
  · go_wp2_with fail
    go_ret
    exact ⟨rfl, HX2.out⟩
  obtain ⟨hm0, hl0⟩ := hid_is HHB.out.symm
  have HM0 := Lib.hid hm0
  have HL0 := Lib.hid hl0
  have HOK := Lib.hid (mask_ok hm0)
  clear hm0 hl0
  have a0 := HB0.out.cell (i := 0) rfl
  have a1 := HB0.out.cell (i := 1) rfl
  have la := cell_lt a0
  have c0 := HB2.out.cell (i := 0) rfl
  have c1 := HB2.out.cell (i := 1) rfl
  have c2 := HB2.out.cell (i := 2) rfl
  have l0 := HB2.out.lt
  have HBR := Lib.hid fun (tx ty : Int) (W : World) => Bright_any tx ty p lx ly lz W
  simp only [brightV] at HBR
  go_wp2_with fail
  refine (HBR.out _ _ _).mono ?_
  rintro e W3 ⟨rfl, x3⟩
  have HX3 := Lib.hid (HX2.out.trans x3)
  have HT := Lib.hid (HT.out.ext x3)
  have HM := Lib.hid (HM.out.ext x3)
  have HB0 := Lib.hid (HB0.out.ext x3)
  have HB1 := Lib.hid (HB1.out.ext x3)
  have HB2 := Lib.hid (HB2.out.ext x3)
  clear x3 a0 a1 c0 c1 c2 l0 la
  obtain ⟨pa, hpa⟩ : ∃ z, z = brightN ya yb p lx ly lz := ⟨_, rfl⟩
  obtain ⟨pb, hpb⟩ : ∃ z, z = brightD ya yb p lx ly lz := ⟨_, rfl⟩
  obtain ⟨ea, hea⟩ : ∃ z, z = brightE ya yb p lx ly lz := ⟨_, rfl⟩
  rw [← hpa, ← hpb, ← hea]
  have HA := Lib.hid (And.intro hpa (And.intro hpb hea))
  clear hpa hpb hea
  have a0 := HB1.out.cell (i := 0) rfl
  have a1 := HB1.out.cell (i := 1) rfl
  have la := cell_lt a0
  have c0 := HB2.out.cell (i := 0) rfl
  have c1 := HB2.out.cell (i := 1) rfl
  have c2 := HB2.out.cell (i := 2) rfl
  have l0 := HB2.out.lt
  have HNA := Lib.hid (BoxAt.new W3 #[.int .i64 pa, .int .i64 pb] 49)
  go_wp2_with fail
  refine (HBR.out _ _ _).mono ?_
  rintro e W4 ⟨rfl, x4⟩
  have x4' : Ext W3 W4 := ((Ext.refl _).alloc _).trans x4
  have HX4 := Lib.hid (HX3.out.trans x4')
  have HT := Lib.hid (HT.out.ext x4')
  have HM := Lib.hid (HM.out.ext x4')
  have HB0 := Lib.hid (HB0.out.ext x4')
  have HB1 := Lib.hid (HB1.out.ext x4')
  have HB2 := Lib.hid (HB2.out.ext x4')
  have HNA := Lib.hid (HNA.out.ext x4)
  clear x4 x4' a0 a1 c0 c1 c2 l0 la
  obtain ⟨qa, hqa⟩ : ∃ z, z = brightN na nb p lx ly lz := ⟨_, rfl⟩
  obtain ⟨qb, hqb⟩ : ∃ z, z = brightD na nb p lx ly lz := ⟨_, rfl⟩
  obtain ⟨eb, heb⟩ : ∃ z, z = brightE na nb p lx ly lz := ⟨_, rfl⟩
  rw [← hqa, ← hqb, ← heb]
  have HC := Lib.hid (And.intro hqa (And.intro hqb heb))
  clear hqa hqb heb
  by_cases h1 : ea = 0
  case neg =>
    have f1 : (ea != 0) = true := by simpa using h1
    clear h1
    go_wp2_with fail
    go_ret
    exact ⟨rfl, HX4.out.alloc _⟩
  by_cases h2 : eb = 0
  case neg =>
    have f2 : (eb != 0) = true := by simpa using h2
    subst h1
    clear h2
    go_wp2_with fail
    go_ret
    exact ⟨rfl, HX4.out.alloc _⟩
  subst h1
  subst h2
  have hsa := HA.out
  have hsc := HC.out
  have HFA := Lib.hid (show FracIs pa pb by rw [hsa.1, hsa.2.1]; exact bright_fracT hsa.2.2.symm)
  have HFC := Lib.hid (show FracIs qa qb by rw [hsc.1, hsc.2.1]; exact bright_fracT hsc.2.2.symm)
  have HSO := Lib.hid (shows_one (p := p) (lx := lx) (ly := ly) (lz := lz) hsa.2.2.symm hsc.2.2.symm)
  have HSB := Lib.hid (show shB ya yb na nb p (lx, ly, lz) = !decide (pa = qa ∧ pb = qb) by unfold shB; rw [hsa.1, hsa.2.1, hsc.1, hsc.2.1])
  clear hsa hsc
  obtain ⟨by_, hby⟩ : ∃ z, z = compareOf pa pb qa qb := ⟨_, rfl⟩
  obtain ⟨bz, hbz⟩ : ∃ z : Bool, z = (by_ != 0) := ⟨_, rfl⟩
  have HBY := Lib.hid hby
  have HBZ := Lib.hid (show shB ya yb na nb p (lx, ly, lz) = bz by
    rw [HSB.out, hbz, hby, Bool.eq_iff_iff]
    have := compare_zero HFA.out HFC.out
    simp only [bne_iff_ne, ne_eq, Bool.not_eq_true', decide_eq_false_iff_not]
    exact not_congr this.symm)
  rw [HBZ.out] at HSO
  have HCP := Lib.hid fun W : World => (show Calls Try.prog 16 #[shadeV pa pb, shadeV qa qb] W fun e w' => e = .returned (.int .i64 by_) ∧ Ext W w' from hby ▸ compare_any pa pb qa qb W)
  have f2 : (by_ != 0) = bz := hbz.symm
  have f3 : (by_ == 0) = !bz := by rw [hbz]; simp [bne]
  have HBB := Lib.hid f3
  clear hby hbz
  have HSH := Lib.hid fun (v : Value) (W : World) (h : lightK.Is W v [(lx, ly, lz)]) => (show Calls Try.prog 15 #[tiltV ya yb, tiltV na nb, .int .i64 p, v] W (RetEE intK W (showsL ya yb na nb p [(lx, ly, lz)]) 0) from by
    have := Shows_any ya yb na nb p v [(lx, ly, lz)] W h
    rwa [HSO.out.1] at this)
  obtain ⟨sl, hsl⟩ : ∃ z, z = showsL ya yb na nb p [(lx, ly, lz)] := ⟨_, rfl⟩
  rw [← hsl] at HSH HSO
  clear hsl
  go_upto_region 11 with fail
  refine lay_wp (fun W => Ext W4 W ∧ BoxAt W4.heap.size #[.int .i64 qa, .int .i64 qb] 49 W) ⟨(Ext.refl _).alloc _, BoxAt.new W4 _ _⟩ ?_
  rintro W5 ⟨x5, nb5⟩
  have HX5 := Lib.hid (HX4.out.trans x5)
  have HT := Lib.hid (HT.out.ext x5)
  have HM := Lib.hid (HM.out.ext x5)
  have HB0 := Lib.hid (HB0.out.ext x5)
  have HB1 := Lib.hid (HB1.out.ext x5)
  have HB2 := Lib.hid (HB2.out.ext x5)
  have HNA := Lib.hid (HNA.out.ext x5)
  have HNB := Lib.hid nb5
  clear x5 nb5
  have a0 := HB0.out.cell (i := 0) rfl
  have a1 := HB0.out.cell (i := 1) rfl
  have la := cell_lt a0
  have d0 := HB1.out.cell (i := 0) rfl
  have d1 := HB1.out.cell (i := 1) rfl
  have ld := cell_lt d0
  have c0 := HB2.out.cell (i := 0) rfl
  have c1 := HB2.out.cell (i := 1) rfl
  have c2 := HB2.out.cell (i := 2) rfl
  have l0 := HB2.out.lt
  have HSL := Lib.hid (EK.Own.lit (K := lightK) (B := W5.heap.size) W5 #[.int .i64 lx, .int .i64 ly, .int .i64 lz] [(lx, ly, lz)] rfl (Nat.le_refl _) (by simp [maxLen])).is
  go_wp2_with fail
  refine (HSH.out _ _ HSL.out).mono ?_
  rintro e W6 ⟨sv, rfl, os, x6⟩
  obtain ⟨A5, k5, c5, rfl, hk5, -⟩ := os.is.open_
  have x6' : Ext W5 W6 := ((Ext.refl _).alloc _).trans x6
  have HX6 := Lib.hid (HX5.out.trans x6')
  have HT := Lib.hid (HT.out.ext x6')
  have HM := Lib.hid (HM.out.ext x6')
  have HB2 := Lib.hid (HB2.out.ext x6')
  have HNA := Lib.hid (HNA.out.ext x6')
  have HNB := Lib.hid (HNB.out.ext x6')
  have f1 : ((k5 : Int) == 1) = bz := by
    rw [← hk5, HSO.out.2]
    cases bz <;> rfl
  clear x6 x6' os a0 a1 la d0 d1 ld c0 c1 c2 l0 HSL hk5
  have a0 := HNA.out.cell (i := 0) rfl
  have a1 := HNA.out.cell (i := 1) rfl
  have la := cell_lt a0
  have d0 := HNB.out.cell (i := 0) rfl
  have d1 := HNB.out.cell (i := 1) rfl
  have ld := cell_lt d0
  go_wp2_with fail
  refine (HCP.out _).mono ?_
  rintro e W7 ⟨rfl, x7⟩
  have HX7 := Lib.hid (HX6.out.trans x7)
  have HT := Lib.hid (HT.out.ext x7)
  have HM := Lib.hid (HM.out.ext x7)
  have HB2 := Lib.hid (HB2.out.ext x7)
  clear x7 a0 a1 la d0 d1 ld
  have c0 := HB2.out.cell (i := 0) rfl
  have c1 := HB2.out.cell (i := 1) rfl
  have c2 := HB2.out.cell (i := 2) rfl
  have l0 := HB2.out.lt
  have HLL := Lib.hid (lat_len HL0.out)
  have HSE := Lib.hid fun (W : World) (h : tiltK.Is W (.slice A1 k1 c1') (latL (msgL ws size cols) ya yb na nb)) => (show Calls Try.prog 17 #[.slice A1 k1 c1', .int .i64 p, lightV lx ly lz] W (RetEE boolK W (readL (mixL (msgL ws size cols) (pa, pb) (qa, qb))) (readE (mixL (msgL ws size cols) (pa, pb) (qa, qb)))) from by
    have := seen_any (.slice A1 k1 c1') _ p lx ly lz W h (by have := HLL.out; omega) (fun t ht => by
      rcases lat_mem ht with rfl | rfl
      · exact HA.out.2.2.symm
      · exact HC.out.2.2.symm)
    rw [lat_shades HL0.out] at this
    unfold shOf at this
    simp only at this
    rw [← HA.out.1, ← HA.out.2.1, ← HC.out.1, ← HC.out.2.1] at this
    exact this)
  have HSS := Lib.hid (seen_side (a := (pa, pb)) (c := (qa, qb)) HFA.out HFC.out HLL.out.2)
  simp only at HSS
  rw [← HBY.out] at HSS
  have HMR := Lib.hid (msg_rows HM0.out)
  obtain ⟨ms, hms⟩ : ∃ z, z = msgL ws size cols := ⟨_, rfl⟩
  rw [← hms] at HM HSE HSS HMR HLL HT
  clear hms
  obtain ⟨_, k2', c2'', he2, hk2, -, hr2, -⟩ := HM.out.open_
  simp only [Value.slice.injEq] at he2
  obtain ⟨rfl, rfl, rfl⟩ := he2
  have HK2 := Lib.hid hk2
  have h576 : k2 ≤ 576 := by have := HLL.out.2; omega
  have HMO := Lib.hid hr2
  clear hk2 hr2
  obtain ⟨re, hre⟩ : ∃ z, z = readE (mixL ms (pa, pb) (qa, qb)) := ⟨_, rfl⟩
  obtain ⟨rl, hrl⟩ : ∃ z, z = readL (mixL ms (pa, pb) (qa, qb)) := ⟨_, rfl⟩
  rw [← hre, ← hrl] at HSE HSS
  clear hre hrl
  go_wp2_with fail
  refine (HSE.out _ HT.out).mono ?_
  rintro e W8 ⟨rv, rfl, or, x8⟩
  obtain ⟨A3, k3, c3, rfl, hk3, -, hr3, -⟩ := or.is.open_
  have HX8 := Lib.hid (HX7.out.trans x8)
  have HMO := Lib.hid (HMO.out.ext x8)
  have HK3 := Lib.hid hk3
  have HRO := Lib.hid hr3
  clear x8 or hk3 hr3 c0 c1 c2 l0
  go_wp2_with fail
  go_loopw [115, 28, 29] (fun iv av lv wr => ∃ j : Nat, j ≤ k2 ∧ iv = .int .i64 (j : Int) ∧ av = .bool (anyT ms j) ∧ lv = .bool (allT ms j) ∧ Ext W8 wr) (fun iv _ _ _ => k2 - (intOf iv).toNat)
  case atStart => exact ⟨0, by omega, rfl, rfl, rfl, Ext.refl _⟩
  case round =>
    obtain ⟨j, hj, rfl, rfl, rfl, hx⟩ := hrel
    have HXJ := Lib.hid hx
    by_cases hlt : j < k2
    · have hjl : j < ms.length := by rw [HK2.out]; exact hlt
      have hji : (j : Int) < (k2 : Int) := by omega
      obtain ⟨b, o, rfl, _, m0⟩ := bools_row HMO.out j hjl
      replace m0 := hx.cell_some m0
      have lm := cell_lt m0
      have HA1 := Lib.hid (anyT_step hjl)
      have HA2 := Lib.hid (allT_step hjl)
      generalize anyT ms j = y1 at *
      generalize allT ms j = y2 at *
      generalize ms[j] = y3 at *
      clear hx
      cases y1 <;> cases y2 <;> cases y3
      all_goals
        go_wp2_with fail
        go_roundw
        case rel => exact ⟨j + 1, by omega, by go_num, by rw [HA1.out]; rfl, by rw [HA2.out]; rfl, HXJ.out⟩
        case measure => simp [intOf]; omega
    · obtain rfl : k2 = j := by omega
      obtain ⟨W9, hw9⟩ : ∃ z, z = wr := ⟨_, rfl⟩
      subst hw9
      have HX9 := Lib.hid (HX8.out.trans hx)
      have HRO := Lib.hid (HRO.out.ext hx)
      rw [HK2.out] at HSS
      generalize anyT ms k2 = y1 at *
      generalize allT ms k2 = y2 at *
      rw [show decide (by_ = 0) = !bz by rw [← HBB.out]; rfl] at HSS
      clear hx
      by_cases hcond : (!bz || (!y1 || y2)) = false
      case neg =>
        have h6 : re = 6 := by
          have h1 := HSS.out.1
          rw [eq_true_of_ne_false hcond] at h1
          exact of_decide_eq_true h1.symm
        subst h6
        cases bz <;> cases y1 <;> cases y2
        all_goals first
          | exact absurd rfl hcond
          | (clear hcond; go_wp2_with fail; go_ret; exact ⟨rfl, HX9.out⟩)
      obtain ⟨hr0, hrl⟩ := HSS.out.2 hcond
      have hall : bz = true ∧ y1 = true ∧ y2 = false := by revert hcond; cases bz <;> cases y1 <;> cases y2 <;> simp
      obtain ⟨rfl, rfl, rfl⟩ := hall
      subst hr0
      obtain ⟨S, rfl⟩ : ∃ S : Nat, size = S := ⟨size.toNat, by have := HOK.out.s; omega⟩
      obtain ⟨C, rfl⟩ : ∃ C : Nat, cols = C := ⟨cols.toNat, by have := HOK.out.c; omega⟩
      rw [Int.toNat_natCast, Int.toNat_natCast] at HMR
      have hR5 := rowsT_len (ws := natL ws) (size := S) (cols := C)
      have hRC := rowsT_row (ws := natL ws) (size := S) (cols := C)
      have hC1 : 1 ≤ C ∧ C ≤ 40 := by have := HOK.out.c; omega
      obtain ⟨hC1, hC40⟩ := hC1
      have HSY := Lib.hid (mask_says (ws := natL ws) (size := S) (cols := C) (by rw [natL_len]; exact HOK.out.wide))
      rw [natL_len] at HSY
      obtain ⟨rows, hrows⟩ : ∃ z, z = rowsT (natL ws) S C := ⟨_, rfl⟩
      rw [show ((List.range 5).map fun r => maskR (natL ws) S C r ws.length 0) = rows from by rw [hrows, rowsT, natL_len]] at HSY
      rw [← hrows] at HMR hR5 hRC
      have hk25 : k2 = 5 * C := by rw [← HK2.out, HMR.out, rows_flat_len hRC, hR5]
      obtain ⟨sg, hsg⟩ : ∃ z, z = decide (0 < by_) := ⟨_, rfl⟩
      rw [← hsg] at hrl
      have fs : decide (0 < by_) = sg := hsg.symm
      have HRL := Lib.hid hrl
      have hk3 : k3 = k2 := by rw [← HK3.out, hrl, List.length_map, HK2.out]
      subst hk3
      have HR5 := Lib.hid hR5
      have HRC := Lib.hid hRC
      have HK25 := Lib.hid hk25
      clear hcond hrl hsg hrows hR5 hRC hk25
      go_wp2_with fail
      go_loopw [153, 32] (fun iv mv wr => ∃ i : Nat, i ≤ k3 ∧ iv = .int .i64 (i : Int) ∧ MaskAt W9.heap.size C rows i wr mv ∧ Ext W9 wr) (fun iv _ _ => k3 - (intOf iv).toNat)
      case atStart => exact ⟨0, by omega, rfl, .inl ⟨rfl, rfl⟩, Ext.refl _⟩
      case round =>
        obtain ⟨i, hi, rfl, hst, hx⟩ := hrel
        have HXI := Lib.hid hx
        by_cases hlt : i < k3
        · have hil : i < ms.length := by rw [HK2.out]; exact hlt
          have hir : i < rl.length := by rw [HK3.out]; exact hlt
          have hii : (i : Int) < (k3 : Int) := by omega
          obtain ⟨b3, o3, rfl, _, r0⟩ := bools_row HRO.out i hir
          replace r0 := hx.cell_some r0
          have lr := cell_lt r0
          obtain ⟨xb, hxb⟩ : ∃ z, z = rl[i] := ⟨_, rfl⟩
          rw [← hxb] at r0
          obtain ⟨mi, hmi⟩ : ∃ z, z = ms[i] := ⟨_, rfl⟩
          have fx : (xb == sg) = mi := by
            rw [hxb, hmi]
            simp only [HRL.out, List.getElem_map]
            cases ms[i] <;> cases sg <;> rfl
          have HMI := Lib.hid (show ∀ q m, i = q * C + m → m < C → q < 5 → (rows[q]?.getD [])[m]? = some mi from fun q m e hm hq => by
            have h1 := flat_rows HRC.out (q := q) (m := m) (by rw [HR5.out]; exact hq) hm
            rw [← e, ← HMR.out, List.getElem?_eq_getElem hil, ← hmi] at h1
            rw [(rows_at HR5.out HRC.out hq).2]
            exact h1.symm)
          clear hxb hmi hx
          rcases hst with ⟨hi0, rfl⟩ | ⟨q0, m0, Bi0, Ts0, T0, hqm0, hm1, hmC0, hq50, HRW0, hBs0⟩
          case' inl =>
            obtain ⟨-, -, f0, f0'⟩ := idx_int (i := i) (q := 0) (m := 0) (C := C) (by omega) (by omega)
            rw [Int.natCast_zero] at f0 f0'
            have hC0 : ¬ (C : Int) = 0 := by omega
            have HI0 := Lib.hid hi0
            clear hi0
            go_wp2_with (at_builtin; refine EK.app (K := rowsK) (B := W9.heap.size) (xs := []) rfl (.tmp 162) (.tmp 163) rfl wr.heap.size 1 (none, 0, 0) rfl rfl (fun ii u hu => cell_new hu) (EK.Own.nil _ _) (Nat.le_trans HXI.out.bel.size ((Ext.refl _).alloc _).bel.size) (by simp) ?_; intro mq wq o3 b3 g3)
            have HXQ := Lib.hid ((HXI.out.alloc _).below b3 (Nat.le_refl _))
            obtain ⟨q, m, Bi, Ts, T, hqm, hmC, hq5, HRW, HBI⟩ : ∃ q m Bi Ts T, i = q * C + m ∧ m < C ∧ q < 5 ∧ Hid (RowsM rowsK boolK W9.heap.size Bi wq mq Ts T (rows.take q) ((rows[q]?.getD []).take m)) ∧ Hid (Bi ≤ wq.heap.size) := by
              refine ⟨0, 0, wr.heap.size, [], (none, 0, 0), by have := HI0.out; omega, by omega, by decide, Lib.hid ?_, Lib.hid (Nat.le_trans ((Ext.refl wr).alloc _).bel.size g3.size)⟩
              exact RowsM.first o3 HXI.out.bel.size
            clear o3 b3 g3 f0 f0' hC0
          case' inr =>
            have HRS := Lib.hid HRW0
            have HBJ := Lib.hid (show Bi0 ≤ wr.heap.size from hBs0)
            obtain ⟨g8, c8, hge8, -, -, -, -⟩ := HRW0.own.slot (j := Ts0.length) (by simp)
            by_cases hmc : m0 < C
          case' pos =>
            obtain ⟨-, -, f0, f0'⟩ := idx_int hqm0 hmc
            have hC0 : ¬ (C : Int) = 0 := by omega
            have hm0 : ((m0 : Int) == 0) = false := by simp; omega
            have HQ0 := Lib.hid hqm0
            clear HRW0 hge8 hqm0
            go_wp2_with fail
            obtain ⟨wq, hwq⟩ : ∃ z, z = wr := ⟨_, rfl⟩
            subst hwq
            obtain ⟨mq, hmq⟩ : ∃ z, z = u32 := ⟨_, rfl⟩
            subst hmq
            have HXQ := HXI
            obtain ⟨q, m, Bi, Ts, T, hqm, hmC, hq5, HRW, HBI⟩ : ∃ q m Bi Ts T, i = q * C + m ∧ m < C ∧ q < 5 ∧ Hid (RowsM rowsK boolK W9.heap.size Bi wq mq Ts T (rows.take q) ((rows[q]?.getD []).take m)) ∧ Hid (Bi ≤ wq.heap.size) := ⟨q0, m0, Bi0, Ts0, T0, HQ0.out, hmc, hq50, HRS, HBJ⟩
            clear f0 f0' hC0 hm0
          case' neg =>
            have HQ0 := Lib.hid (show i = (q0 + 1) * C by rw [hqm0, Nat.add_mul, Nat.one_mul]; omega)
            have hq51 : q0 + 1 < 5 := by
              by_cases h : q0 + 1 < 5
              · exact h
              · have h1 := Nat.mul_le_mul_right C (show 5 ≤ q0 + 1 by omega)
                have h2 := HQ0.out
                have h3 := HK25.out
                omega
            obtain ⟨-, -, f0, f0'⟩ := idx_int (i := i) (q := q0 + 1) (m := 0) (C := C) (by have := HQ0.out; omega) (by omega)
            rw [Int.natCast_zero] at f0 f0'
            have hC0 : ¬ (C : Int) = 0 := by omega
            have hmc2 : m0 = C := by omega
            have HMC := Lib.hid hmc2
            have HTL := Lib.hid HRW0.len
            clear HRW0 hqm0 hmc hmc2 hm1 hmC0
            subst hge8
            go_wp2_with (at_builtin; refine EK.app (K := rowsK) (B := W9.heap.size) (xs := Ts0 ++ [T0]) rfl (.tmp 162) (.tmp 163) rfl wr.heap.size 1 (none, 0, 0) rfl rfl (fun ii u hu => cell_new hu) (HRS.out.own.ext ((Ext.refl _).alloc _)) (Nat.le_trans HXI.out.bel.size ((Ext.refl _).alloc _).bel.size) (by have := HTL.out; rw [List.length_take, HR5.out] at this; simp; omega) ?_; intro mq wq o3 b3 g3)
            have HXQ := Lib.hid ((HXI.out.alloc _).below b3 (Nat.le_refl _))
            obtain ⟨q, m, Bi, Ts, T, hqm, hmC, hq5, HRW, HBI⟩ : ∃ q m Bi Ts T, i = q * C + m ∧ m < C ∧ q < 5 ∧ Hid (RowsM rowsK boolK W9.heap.size Bi wq mq Ts T (rows.take q) ((rows[q]?.getD []).take m)) ∧ Hid (Bi ≤ wq.heap.size) := by
              refine ⟨q0 + 1, 0, _, Ts0 ++ [T0], (none, 0, 0), by have := HQ0.out; omega, by omega, hq51, Lib.hid ?_, Lib.hid g3.size⟩
              have h1 := (HRS.out.ext ((Ext.refl wr).alloc _)).new rows_ne g3 o3 (HXI.out.alloc _).bel.size
              obtain ⟨e1, e2⟩ := rows_at HR5.out HRC.out hq50
              rw [List.take_of_length_le (l := rows[q0]?.getD []) (by rw [e1, HMC.out]; exact Nat.le_refl _), e2, ← List.take_succ_eq_append_getElem] at h1
              exact h1
            clear o3 b3 g3 f0 f0' hC0
          all_goals
            have HQF := Lib.hid hqm
            obtain ⟨e1, e2, -, -⟩ := idx_int hqm hmC
            have e3 : IntKind.i64.wrap (q : Int) = (q : Int) := IntWalk.i64_in _ (by omega)
            have hC0 : ¬ (C : Int) = 0 := by omega
            have hC0n : ¬ C = 0 := by omega
            clear hqm
            obtain ⟨g, cg, hge, hg1, hg2, hgc, hgf⟩ := HRW.out.own.slot (j := Ts.length) (by simp)
            have hTq : Ts.length = q := by have := HRW.out.len; rw [List.length_take, HR5.out] at this; omega
            have g0 := hgc 0 (rowH T) (by rw [List.getElem_append_right (Nat.le_refl _)]; simp [rowsK, rowH])
            simp only [rowsK, Nat.mul_one, Nat.add_zero] at g0
            have gf := hgf Ts.length
            obtain ⟨M, hM⟩ : ∃ z, z = (Ts ++ [T]).length := ⟨_, rfl⟩
            rw [← hM] at hge
            have hMq : M = q + 1 := by rw [hM, List.length_append, hTq]; rfl
            subst hge
            rw [hTq] at g0 gf
            have hqi : (q : Int) < ((q + 1 : Nat) : Int) := by omega
            have hqi2 : (q : Int) < (q : Int) + 1 := by omega
            obtain ⟨AT, kT, cT⟩ := T
            simp only [rowH] at g0
            have hgn : g ∉ (Value.slice AT kT cT).ownBlock.toList := notin_own (fun g' hg e => by
              have h1 := own_ne HRW.out.own HRW.out.cur rows_ne
              rcases h1 with h1 | h1
              · cases h1
              · exact h1 (by rw [show (rowH (AT, kT, cT)).ownBlock = some g' from hg, ← e]; rfl))
            have y0 := But.cells (D := (Value.slice AT kT cT).ownBlock.toList) g0 hgn
            have HGF := Lib.hid (And.intro g0 (And.intro gf hgn))
            have hyl : ((rows[q]?.getD []).take m).length = m := by rw [List.length_take, (rows_at HR5.out HRC.out hq5).1]; omega
            have HYL := Lib.hid hyl
            have HG1 := Lib.hid hg1
            have hcB : W9.heap.size ≤ Bi := HRW.out.bi
            clear hgc hgf g0 gf hgn hTq hyl hg1
            subst hMq
            clear hM
            refine (wpIn_wide (n := 3)).1 ?_
            refine wpIn_region_steps (Value.slice AT kT cT).ownBlock.toList 17 [(0, true), (1, true), (2, true), (3, true), (4, true), (5, true), (6, true), (7, true), (8, true), (9, true), (10, true), (11, true), (12, true), (13, true), (14, false), (15, false), (16, true)] (by kernel_rfl) (by kernel_rfl) ?_
            iterate 14 (refine wpSD_q (by rfl) (fun _ _ _ => trivial) (fun K hK => ?_); go_simp; refine hK _ ?_; clear hK K)
            refine wpSD_m (by rfl) (fun _ _ _ => trivial) (fun δ K hK => ?_)
            go_simp
            refine ⟨((Ext.refl _).alloc _).but, hK _ _ ?_⟩
            clear hK K
            have Xd : Ext wq δ.wd := ⟨δ, rfl⟩
            refine EK.app_s (K := boolK) (B := Bi) (v := .slice AT kT cT) (by rfl) rfl (.tmp 174) (.tmp 179) rfl δ.wd.heap.size 1 mi rfl rfl (fun i u hu => cell_new hu) (HRW.out.cur.ext (Xd.alloc _)) (Nat.le_trans HBI.out (Xd.alloc _).bel.size) (by rw [HYL.out]; omega) ?_
            intro v' w3 w4 o3 x3 g3
            obtain ⟨AT3, kT3, cT3, rfl⟩ := o3.shape
            refine wpSD_q (by rfl) (fun _ _ _ => trivial) (fun K hK => ?_)
            go_simp
            refine hK _ ?_
            clear hK K
            refine wpSD_nil ?_
            intro w5 x5
            have X3 := (Xd.alloc _).trans x3
            have hbw := ((X3.but (D := (Value.slice AT kT cT).ownBlock.toList)).grown g3 (fun r hr => .inl (by rw [hr]; simp))).ext x5
            have k0 := hbw.cell HGF.out.1 HGF.out.2.2
            have kf := hbw.frozen HGF.out.1 HGF.out.2.1 HGF.out.2.2
            have lk := cell_lt k0
            have HGR := Lib.hid (((HRW.out.ext X3).grow (N := q + 1) (T1 := (AT3, kT3, cT3)) (by have := HRW.out.len; rw [List.length_take, HR5.out] at this; omega) rfl (fun _ => rfl) rows_ne (grown_ext g3 x5) (o3.ext x5)))
            have HX5 := Lib.hid (show Ext W9 w5 from ((HXQ.out.trans X3).below ((Below.refl W9.heap.size w3).grown g3 (HXQ.out.trans X3).bel.size (fun r e => Nat.le_trans hcB ((HRW.out.ext X3).cur.lt r e).1)) (Nat.le_refl _)).trans x5)
            have HSZ := Lib.hid (show wq.heap.size ≤ (w5.setCell ⟨g, q, none⟩ (.slice AT3 kT3 cT3)).heap.size by simpa using hbw.size)
            clear y0 X3 Xd hbw x5 x3 g3 o3
            simp only [List.drop_succ_cons, List.drop_zero]
            gi_wp2
            go_wp2_with fail
            go_roundw
            case rel =>
              have h1 := HGR.out
              rw [show Ts.length = q by have := HRW.out.len; rw [List.length_take, HR5.out] at this; omega] at h1
              exact ⟨i + 1, by omega, by go_num, .inr ⟨q, m + 1, Bi, Ts, (AT3, kT3, cT3), by have := HQF.out; omega, by omega, by omega, hq5, by rw [List.take_add_one, HMI.out q m HQF.out hmC hq5]; exact h1, Nat.le_trans HBI.out HSZ.out⟩, HX5.out.setCell (p := ⟨g, q, none⟩) HG1.out _⟩
            case measure => simp [intOf]; omega
        · obtain rfl : k3 = i := by omega
          have HTB := Lib.hid (hst.all HR5.out HRC.out hC1 HK25.out)
          have HSPL := Lib.hid fun (v : Value) (W : World) (h : TabIs rowsK boolK W v rows) => (show Calls Try.prog 18 #[v, .int .i64 (S : Int), .int .i64 (n : Int)] W (RetEE intK W ws 0) from by
            have hok := HOK.out
            have := spell_any v rows (natL ws) S W h HR5.out.symm (by have := hok.s; omega) (by have := hok.s; omega) (by rw [natL_len]; exact hok.len) HSY.out (natL_lt hok.gn)
            rw [natL_len, HN.out, natL_back hok.gn] at this
            exact this)
          clear hst hx
          go_wp2_with fail
          refine (HSPL.out _ _ HTB.out).mono ?_
          rintro e W10 ⟨ov, rfl, oo, x10⟩
          have HX10 := Lib.hid ((HX9.out.trans HXI.out).trans x10)
          have HSI := Lib.hid (show Calls Try.prog 19 #[ov, .slice A n c] W10 fun e w' => e = .returned (.bool true) ∧ Ext W10 w' from by
            have := sameInts_any ov (.slice A n c) ws ws W10 oo.is (HU.out.ext HX10.out)
            rwa [decide_eq_true rfl] at this)
          clear oo x10
          go_wp2_with fail
          refine HSI.out.mono ?_
          rintro e W11 ⟨rfl, x11⟩
          have HX11 := Lib.hid (HX10.out.trans x11)
          clear x11
          go_wp2_with fail
          go_ret
          exact ⟨rfl, HX11.out⟩
theorem isI_KT {w : World} {v : Value} {zs : List Int} (h : IsI w v zs) : intK.Is w v zs := by
  obtain ⟨A, c, rfl, h0, hc, hr⟩ := h
  refine ⟨A, c, rfl, h0, hc, fun j hj => ?_⟩
  obtain ⟨b, o, hA, hb, hcell⟩ := hr.at_ j hj
  refine ⟨b, o, hA, hb, fun i u hu => ?_⟩
  have hi : i = 0 := by
    have : i < (intK.enc zs[j]).length := (List.getElem?_eq_some_iff.1 hu).1
    simp [intK] at this
    omega
  subst hi
  simp only [intK, List.getElem?_cons_zero, Option.some.injEq] at hu
  subst hu
  rw [List.getElem?_eq_getElem hj] at hcell
  show w.cell? ⟨b, o + j * 1 + 0, none⟩ = _
  rw [Nat.mul_one, Nat.add_zero]
  exact hcell
theorem lawLatentT_row (u : Value) (ws : List Int) (size cols ya yb na nb p lx ly lz : Int) (w : World) (hu : IsI w u ws) :
    Calls Try.prog 4 #[u, .int .i64 size, .int .i64 cols, tiltV ya yb, tiltV na nb, .int .i64 p, lightV lx ly lz] w fun e w' => e = .returned (.bool true) ∧ Ext w w' := lawLatentT_any u ws size cols ya yb na nb p lx ly lz w (isI_KT hu)
end Go.Proofs.Ytkjgcmdabelohaa
