/- groove.sides: the cuts at work. Conditions: the cuts read as a list; the work is valid. -/
import Derived.Test.YtgeapenglcohfaaGWkP
import Derived.Test.YtgeapenglcohfaaGTwinP
import Derived.Test.YtgeapenglcohfaaGDist
namespace Go.Proofs.Ytgeapenglcohfaa
open Go.RowKit

/-- A side that is being made: its foot lies in a block of the call's own. -/
structure SideM (k : WkT) (B : Nat) (w0 w : World) (s : SideR) (c : CutT) : Prop where
  line : spotK.Is w0 (rowV s.1) c.1
  foot : spotK.Own B w (rowV s.2.1) (footL k c.1)
  high : s.2.2.1 = hiK k c
  reach : s.2.2.2.1 = reachK k c
  press : s.2.2.2.2.1 = c.2.1
  cross : s.2.2.2.2.2 = c.2.2
def SidesM (k : WkT) (B : Nat) (w0 w : World) (v : Value) (j : Nat) : Prop := ∃ Ss, sideK.Own B w v Ss ∧ Ss.length = j ∧ ∀ q (h : q < Ss.length) (h' : q < k.cuts.length), SideM k B w0 w Ss[q] k.cuts[q]
theorem SideM.ext {k : WkT} {B : Nat} {w0 w w' : World} {s : SideR} {c : CutT} (h : SideM k B w0 w s c) (x : Ext w w') : SideM k B w0 w' s c := ⟨h.line, h.foot.ext x, h.high, h.reach, h.press, h.cross⟩
theorem SidesM.ext {k : WkT} {B : Nat} {w0 w w' : World} {v : Value} {j : Nat} (h : SidesM k B w0 w v j) (x : Ext w w') : SidesM k B w0 w' v j := by
  obtain ⟨Ss, h1, h2, h3⟩ := h
  exact ⟨Ss, h1.ext x, h2, fun q h h' => (h3 q h h').ext x⟩
theorem SidesM.nil (k : WkT) (B : Nat) (w0 w : World) : SidesM k B w0 w (.slice none 0 0) 0 := ⟨[], EK.Own.nil _ _, rfl, fun q h => absurd h (by simp)⟩
theorem spot_side_ne : spotK.ty ≠ sideK.ty := by decide
theorem SidesM.is {k : WkT} {B : Nat} {w0 w : World} {v : Value} (h : SidesM k B w0 w v k.cuts.length) (x : Ext w0 w) : SidesIs k w v := by
  obtain ⟨Ss, h1, h2, h3⟩ := h
  exact ⟨Ss, h1.is, h2, fun q h h' => ⟨(h3 q h h').line.ext x, (h3 q h h').foot.is, (h3 q h h').high, (h3 q h h').reach, (h3 q h h').press, (h3 q h h').cross⟩⟩
theorem SidesM.shape {k : WkT} {B : Nat} {w0 w : World} {v : Value} {j : Nat} (h : SidesM k B w0 w v j) : ∃ A n c, v = .slice A n c := by
  obtain ⟨Ss, h1, _⟩ := h
  exact own_shapeW h1
/-- One more side. -/
theorem SidesM.snoc {k : WkT} {B : Nat} {w0 w w' : World} {v v' : Value} {j : Nat} {Ss : List SideR} {s : SideR} (h1 : sideK.Own B w v Ss) (h2 : Ss.length = j) (h3 : ∀ q (h : q < Ss.length) (h' : q < k.cuts.length), SideM k B w0 w Ss[q] k.cuts[q])
    (hj : j < k.cuts.length) (hs : SideM k B w0 w s k.cuts[j]) (g : w.grownBy w' v.ownBlock) (h : sideK.Own B w' v' (Ss ++ [s])) : SidesM k B w0 w' v' (j + 1) := by
  refine ⟨_, h, by simp [h2], fun q hq hq' => ?_⟩
  have keep : ∀ {s : SideR} {c : CutT}, SideM k B w0 w s c → SideM k B w0 w' s c := fun {s c} hs =>
    ⟨hs.line, hs.foot.kept g (own_ne hs.foot h1 spot_side_ne), hs.high, hs.reach, hs.press, hs.cross⟩
  rcases Nat.lt_or_ge q Ss.length with hl | hl
  · rw [List.getElem_append_left hl]
    exact keep (h3 q hl hq')
  · have : q = j := by simp at hq; omega
    subst this
    subst h2
    rw [List.getElem_concat_length rfl]
    exact keep hs

theorem hi_bd {k : WkT} {c : CutT} (ht : toolB k.tip k.num k.den k.bite k.slack = true) (hc : cutB c = true) : 0 ≤ hiK k c ∧ hiK k c ≤ 11000 := by
  obtain ⟨_, _, _, _, ⟨t1, t2⟩, t3, t4⟩ := toolB_iff.1 ht
  unfold cutB at hc
  rw [Bool.and_eq_true] at hc
  obtain ⟨c1, c2⟩ := inB_iff.1 hc.2
  have := mul_bd c1 c2 (show 0 ≤ k.bite by omega) t2
  unfold hiK highOf
  omega
theorem reach_bd {k : WkT} {c : CutT} (ht : toolB k.tip k.num k.den k.bite k.slack = true) (hc : cutB c = true) : 0 ≤ reachK k c ∧ reachK k c ≤ 11101 := by
  obtain ⟨⟨a1, a2⟩, ⟨a3, a4⟩, ⟨a5, a6⟩, a7, _⟩ := toolB_iff.1 ht
  obtain ⟨h1, h2⟩ := hi_bd ht hc
  unfold reachK halfOf
  generalize hiK k c = h at *
  have e1 : 0 ≤ h * k.num := Int.mul_nonneg h1 (by omega)
  have e2 : h * k.num ≤ h * k.den := Int.mul_le_mul_of_nonneg_left a7 h1
  have e3 : 0 ≤ (h * k.num + k.den - 1) / k.den := Int.ediv_nonneg (by omega) (by omega)
  have e4 : (h * k.num + k.den - 1) / k.den ≤ h := by
    have : (h * k.num + k.den - 1) / k.den < h + 1 := Int.ediv_lt_of_lt_mul (by omega) (by rw [Int.add_mul]; omega)
    omega
  omega
theorem depth_ok {k : WkT} {c : CutT} (ht : toolB k.tip k.num k.den k.bite k.slack = true) (hc : cutB c = true) (w : World) :
    Calls Try.prog 20 #[toolV k.tip k.num k.den k.bite k.slack, .int .i64 c.2.1] w fun e w' => e = .returned (.tuple #[.int .i64 (depthLo k.tip k.num k.den k.bite k.slack c.2.1), .int .i64 (hiK k c), .int .i64 0]) ∧ Ext w w' := by
  have h := depth_any k.tip k.num k.den k.bite k.slack c.2.1 w
  unfold cutB at hc
  rw [Bool.and_eq_true] at hc
  have e1 : depthHi k.tip k.num k.den k.bite k.slack c.2.1 = hiK k c := by unfold depthHi hiK; rw [ht, hc.2]; rfl
  have e2 : depthE k.tip k.num k.den k.bite k.slack c.2.1 = 0 := by unfold depthE; rw [ht, hc.2]; rfl
  unfold depthV at h
  rwa [e1, e2] at h
theorem half_ok {k : WkT} {c : CutT} (ht : toolB k.tip k.num k.den k.bite k.slack = true) (hc : cutB c = true) (w : World) :
    Calls Try.prog 22 #[toolV k.tip k.num k.den k.bite k.slack, .int .i64 (hiK k c)] w fun e w' => e = .returned (.tuple #[.int .i64 (reachK k c), .int .i64 0]) ∧ Ext w w' := by
  have h := half_any k.tip k.num k.den k.bite k.slack (hiK k c) w
  obtain ⟨h1, h2⟩ := hi_bd ht hc
  have hb : inB 0 20000 (hiK k c) = true := inB_iff.2 ⟨h1, by omega⟩
  have e1 : halfN k.tip k.num k.den k.bite k.slack (hiK k c) = reachK k c := by unfold halfN reachK; rw [ht, hb]; rfl
  have e2 : halfE k.tip k.num k.den k.bite k.slack (hiK k c) = 0 := by unfold halfE; rw [ht, hb]; rfl
  unfold halfV at h
  rwa [e1, e2] at h

theorem footL_take {k : WkT} {xs : List (Int × Int)} {i : Nat} (h : i < xs.length) : footL k (xs.take (i + 1)) = footL k (xs.take i) ++ [(xs[i].1 + k.fx, xs[i].2 + k.fy)] := by
  unfold footL
  rw [List.take_succ_eq_append_getElem h, List.map_append]
  rfl

set_option maxRecDepth 100000 in
set_option maxHeartbeats 8000000 in
theorem sides_any (k : WkT) (v : Value) (w : World) (hI : CutsIs w v k.cuts) (hb : workB k = true) :
    Calls Try.prog 79 #[k.val v] w fun e w' => ∃ v', e = .returned v' ∧ SidesIs k w' v' ∧ Ext w w' := by
  obtain ⟨A, c, rfl, -, ⟨hcl, hcm⟩, hat⟩ := cutsIs_at hI
  have HAT := Lib.hid hat
  unfold maxLen at hcm
  obtain ⟨ht, hf, h16, hcut⟩ := workB_iff.1 hb
  have HCU := Lib.hid hcut
  have HTO := Lib.hid ht
  obtain ⟨⟨fx1, fx2⟩, fy1, fy2⟩ : (-1000 ≤ k.fx ∧ k.fx ≤ 1000) ∧ -1000 ≤ k.fy ∧ k.fy ≤ 1000 := by
    unfold fieldsB at hf
    simp only [Bool.and_eq_true] at hf
    exact ⟨inB_iff.1 hf.1.2.1, inB_iff.1 hf.1.2.2⟩
  obtain ⟨n, hn⟩ : ∃ n, n = k.cuts.length := ⟨_, rfl⟩
  rw [← hn] at hcl h16 ⊢
  have HN := Lib.hid hn
  clear hI hat hb ht hf hcut hn
  go_enter Try.func79, Try.ntmps79
  go_wp2_with fail
  refine lay_wp (fun W => Ext w W ∧ (W.cell? ⟨w.heap.size, 0, none⟩ = some (.int .i64 k.tip) ∧ W.cell? ⟨w.heap.size, 1, none⟩ = some (.int .i64 k.num) ∧ W.cell? ⟨w.heap.size, 2, none⟩ = some (.int .i64 k.den) ∧ W.cell? ⟨w.heap.size, 3, none⟩ = some (.int .i64 k.bite) ∧ W.cell? ⟨w.heap.size, 4, none⟩ = some (.int .i64 k.slack)) ∧
    W.cell? ⟨w.heap.size, 8, none⟩ = some (.int .i64 k.fx) ∧ W.cell? ⟨w.heap.size, 9, none⟩ = some (.int .i64 k.fy)) ⟨by (repeat' (first | with_reducible exact Ext.refl _ | with_reducible apply Ext.alloc | with_reducible apply Ext.drew | with_reducible apply Ext.drewN | with_reducible refine Ext.setCell ?_ ?_ _ | with_reducible apply Ext.step | with_reducible assumption | with_reducible exact Nat.le_refl _ | (simp; done) | (simp; omega))), ⟨by go_cell, by go_cell, by go_cell, by go_cell, by go_cell⟩, by go_cell, by go_cell⟩ ?_
  rintro W1 ⟨x1, ⟨c0, c1, c2, c3, c4⟩, c8, c9⟩
  have HX1 := Lib.hid x1
  have hsz := x1.bel.size
  clear x1
  go_loopw [3, 12] (fun ov iv wr => ∃ j : Nat, j ≤ n ∧ iv = .int .i64 j ∧ SidesM k W1.heap.size w wr ov j ∧ Ext W1 wr) (fun _ iv _ => n - (intOf iv).toNat)
  case atStart => exact ⟨0, by omega, rfl, SidesM.nil _ _ _ _, Ext.refl _⟩
  case round =>
    obtain ⟨j, hj, rfl, hown, hx⟩ := hrel
    obtain ⟨wo, rfl⟩ : ∃ wo, wo = wr := ⟨wr, rfl⟩
    have HX := Lib.hid hx
    obtain ⟨Ao, no, co, rfl⟩ := hown.shape
    have HO := Lib.hid hown
    by_cases hlt : j < n
    · have hjl : j < k.cuts.length := by rw [← HN.out]; exact hlt
      obtain ⟨b, o, T, rfl, hb, d0, d1, d2, hsp⟩ := HAT.out j hjl
      replace d0 := hx.cell_some (HX1.out.cell_some d0)
      replace d1 := hx.cell_some (HX1.out.cell_some d1)
      replace d2 := hx.cell_some (HX1.out.cell_some d2)
      have hcb := HCU.out _ (List.getElem_mem hjl)
      have HDE := Lib.hid fun W : World => depth_ok (k := k) (c := k.cuts[j]) HTO.out hcb W
      have HHA := Lib.hid fun W : World => half_ok (k := k) (c := k.cuts[j]) HTO.out hcb W
      have hlb : lineB k.cuts[j].1 = true := by
        unfold cutB at hcb
        rw [Bool.and_eq_true] at hcb
        exact hcb.1
      obtain ⟨xs, hxs⟩ : ∃ xs, xs = k.cuts[j].1 := ⟨_, rfl⟩
      obtain ⟨pr, hpr⟩ : ∃ p, p = k.cuts[j].2.1 := ⟨_, rfl⟩
      obtain ⟨cr, hcr⟩ : ∃ p, p = k.cuts[j].2.2 := ⟨_, rfl⟩
      obtain ⟨hi, hhi⟩ : ∃ p, p = hiK k k.cuts[j] := ⟨_, rfl⟩
      obtain ⟨re, hre⟩ : ∃ p, p = reachK k k.cuts[j] := ⟨_, rfl⟩
      obtain ⟨lo, hlo⟩ : ∃ p, p = depthLo k.tip k.num k.den k.bite k.slack k.cuts[j].2.1 := ⟨_, rfl⟩
      rw [← hpr, ← hhi] at HDE
      rw [← hpr] at hlo
      rw [← hlo] at HDE
      rw [← hhi, ← hre] at HHA
      rw [← hxs] at hlb hsp
      rw [← hpr] at d1
      rw [← hcr] at d2
      have HC := Lib.hid (And.intro hxs (And.intro hpr (And.intro hcr (And.intro hhi hre))))
      have HSP := Lib.hid hsp
      have HLB := Lib.hid hlb
      obtain ⟨A2, m, c2'⟩ := T
      have e0 := hx.cell_some c0
      have e1 := hx.cell_some c1
      have e2 := hx.cell_some c2
      have e3 := hx.cell_some c3
      have e4 := hx.cell_some c4
      have e8 := hx.cell_some c8
      have e9 := hx.cell_some c9
      have l0 := cell_lt e0
      have lb := cell_lt d1
      clear hsp hcb hown hx hxs hpr hcr hhi hre hlo hlb
      go_wp2_with fail
      refine (HDE.out _).mono ?_
      rintro e W2 ⟨rfl, x2⟩
      have XW2 := Lib.hid (show Ext wo W2 from Ext.trans (by (repeat' (first | with_reducible exact Ext.refl _ | with_reducible apply Ext.alloc | with_reducible apply Ext.drew | with_reducible apply Ext.drewN | with_reducible refine Ext.setCell ?_ ?_ _ | with_reducible apply Ext.step | with_reducible assumption | with_reducible exact Nat.le_refl _ | (simp; done) | (simp; omega)))) x2)
      have s0 : W2.cell? ⟨wo.heap.size, 0, none⟩ = some (.slice A2 m c2') := x2.cell_some (by go_cell)
      have t0 : W2.cell? ⟨wo.heap.size + 1, 0, none⟩ = some (.slice A2 m c2') := x2.cell_some (by go_cell)
      have t1 : W2.cell? ⟨wo.heap.size + 1, 1, none⟩ = some (.slice none 0 0) := x2.cell_some (by go_cell)
      have t2 : W2.cell? ⟨wo.heap.size + 1, 2, none⟩ = some (.int .i64 0) := x2.cell_some (by go_cell)
      have t3 : W2.cell? ⟨wo.heap.size + 1, 3, none⟩ = some (.int .i64 0) := x2.cell_some (by go_cell)
      have t4 : W2.cell? ⟨wo.heap.size + 1, 4, none⟩ = some (.int .i64 pr) := x2.cell_some (by go_cell)
      have t5 : W2.cell? ⟨wo.heap.size + 1, 5, none⟩ = some (.bool cr) := x2.cell_some (by go_cell)
      have g1 : W2.frozen? ⟨wo.heap.size + 1, 1, none⟩ = false := Ext.frozen x2 (v := .slice none 0 0) (by go_cell) (by go_simp)
      have g2 : W2.frozen? ⟨wo.heap.size + 1, 2, none⟩ = false := Ext.frozen x2 (v := .int .i64 0) (by go_cell) (by go_simp)
      have g3 : W2.frozen? ⟨wo.heap.size + 1, 3, none⟩ = false := Ext.frozen x2 (v := .int .i64 0) (by go_cell) (by go_simp)
      replace e0 := XW2.out.cell_some e0
      replace e1 := XW2.out.cell_some e1
      replace e2 := XW2.out.cell_some e2
      replace e3 := XW2.out.cell_some e3
      replace e4 := XW2.out.cell_some e4
      have lt0 := cell_lt t0
      have ls0 := cell_lt s0
      have le0 := cell_lt e0
      clear x2 d0 d1 d2
      go_wp2_with fail
      refine (HHA.out _).mono ?_
      rintro e W3 ⟨rfl, x3⟩
      have XW3 := Lib.hid (show Ext wo W3 from Ext.trans (XW2.out.setCell (by simp) _) x3)
      replace g1 : W3.frozen? ⟨wo.heap.size + 1, 1, none⟩ = false := Ext.frozen x3 (v := .slice none 0 0) (by go_cell) (by rw [World.frozen?_setCell]; exact g1)
      replace g3 : W3.frozen? ⟨wo.heap.size + 1, 3, none⟩ = false := Ext.frozen x3 (v := .int .i64 0) (by go_cell) (by rw [World.frozen?_setCell]; exact g3)
      replace s0 : W3.cell? ⟨wo.heap.size, 0, none⟩ = some (.slice A2 m c2') := x3.cell_some (by go_cell)
      replace t0 : W3.cell? ⟨wo.heap.size + 1, 0, none⟩ = some (.slice A2 m c2') := x3.cell_some (by go_cell)
      replace t1 : W3.cell? ⟨wo.heap.size + 1, 1, none⟩ = some (.slice none 0 0) := x3.cell_some (by go_cell)
      replace t2 : W3.cell? ⟨wo.heap.size + 1, 2, none⟩ = some (.int .i64 hi) := x3.cell_some (by go_cell)
      replace t3 : W3.cell? ⟨wo.heap.size + 1, 3, none⟩ = some (.int .i64 0) := x3.cell_some (by go_cell)
      replace t4 : W3.cell? ⟨wo.heap.size + 1, 4, none⟩ = some (.int .i64 pr) := x3.cell_some (by go_cell)
      replace t5 : W3.cell? ⟨wo.heap.size + 1, 5, none⟩ = some (.bool cr) := x3.cell_some (by go_cell)
      replace lt0 := cell_lt t0
      replace ls0 := cell_lt s0
      clear x3 g2 e0 e1 e2 e3 e4 le0
      go_wp2_with fail
      refine lay_wp (fun W => Ext wo W ∧ wo.heap.size + 1 < W.heap.size ∧ (W.cell? ⟨wo.heap.size + 1, 0, none⟩ = some (.slice A2 m c2') ∧ W.cell? ⟨wo.heap.size + 1, 1, none⟩ = some (.slice none 0 0) ∧ W.cell? ⟨wo.heap.size + 1, 2, none⟩ = some (.int .i64 hi) ∧ W.cell? ⟨wo.heap.size + 1, 3, none⟩ = some (.int .i64 re) ∧
        W.cell? ⟨wo.heap.size + 1, 4, none⟩ = some (.int .i64 pr) ∧ W.cell? ⟨wo.heap.size + 1, 5, none⟩ = some (.bool cr)) ∧ W.frozen? ⟨wo.heap.size + 1, 1, none⟩ = false) ⟨XW3.out.setCell (by simp) _, by simpa using lt0, ⟨by go_cell, by go_cell, by go_cell, by go_cell, by go_cell, by go_cell⟩, by rw [World.frozen?_setCell]; exact g1⟩ ?_
      clear t0 t1 t2 t3 t4 t5 g1 g3 s0 lt0 ls0
      clear XW2 XW3
      clear W2 W3
      rintro W4 ⟨x4, lt4, ⟨t0, t1, t2, t3, t4, t5⟩, g1⟩
      have HX4 := Lib.hid x4
      replace e8 := x4.cell_some e8
      replace e9 := x4.cell_some e9
      have hne0 : w.heap.size ≠ wo.heap.size + 1 := by omega
      obtain ⟨hsL, hsP⟩ : m = xs.length ∧ ∀ (i : Nat) (hi : i < xs.length), ∃ b2 o2, A2 = some ⟨b2, o2, none⟩ ∧ b2 < w.heap.size ∧ w.cell? ⟨b2, o2 + i * 2, none⟩ = some (.int .i64 xs[i].1) ∧ w.cell? ⟨b2, o2 + i * 2 + 1, none⟩ = some (.int .i64 xs[i].2) := by
        obtain ⟨A3, c3, he, -, -, hrow⟩ := HSP.out
        simp only [rowV, Value.slice.injEq] at he
        obtain ⟨rfl, rfl, rfl⟩ := he
        exact ⟨rfl, fun i hi => spotK_at hrow hi⟩
      obtain ⟨hco, hl1, hl2⟩ := lineB_iff.1 HLB.out
      have hm12 : m ≤ 12 := by rw [hsL]; exact hl2
      have HML := Lib.hid hsL
      have HSQ := Lib.hid hsP
      have HCO := Lib.hid hco
      have HA0 := Lib.hid (show Acc pathK W4 (wo.heap.size + 1) 1 (footL k (xs.take 0)) W4 from Acc.start t1 g1)
      clear hsL hsP hco hl1 hl2 x4 t1 g1
      go_loopw [45] (fun iv wi => ∃ i : Nat, i ≤ m ∧ iv = .int .i64 i ∧ Acc pathK W4 (wo.heap.size + 1) 1 (footL k (xs.take i)) wi) (fun iv _ => m - (intOf iv).toNat)
      case atStart => exact ⟨0, by omega, rfl, HA0.out⟩
      case round =>
        obtain ⟨i, hi2, rfl, hA⟩ := hrel
        have HA := Lib.hid hA
        obtain ⟨sv, hsv, hso⟩ := hA.row
        have HSO := Lib.hid hso
        obtain ⟨Af, nf, cf, rfl⟩ := own_shapeW hso
        by_cases hil : i < m
        · have hix : i < xs.length := by rw [← HML.out]; exact hil
          obtain ⟨b2, o2, rfl, hb2, p0, p1⟩ := HSQ.out i hix
          obtain ⟨⟨q1, q2⟩, q3, q4⟩ := HCO.out _ (List.getElem_mem hix)
          have HFT := Lib.hid (footL_take (k := k) hix)
          generalize xs[i].1 = sx at *
          generalize xs[i].2 = sy at *
          replace p0 := hA.cell (HX4.out.cell_some (HX.out.cell_some (HX1.out.cell_some p0))) (.inl (by omega))
          replace p1 := hA.cell (HX4.out.cell_some (HX.out.cell_some (HX1.out.cell_some p1))) (.inl (by omega))
          have y8 := hA.cell e8 (.inl hne0)
          have y9 := hA.cell e9 (.inl hne0)
          have lp := cell_lt p0
          have lsv := cell_lt hsv
          have ly := cell_lt y8
          have HSV := Lib.hid hsv
          have hW4 := hA.but.size
          have hFL : (footL k (xs.take i)).length ≤ 1000000000 := by unfold footL; rw [List.length_map, List.length_take]; omega
          have HFL := Lib.hid hFL
          clear hA hso hFL
          go_wp2_with (at_builtin; refine EK.app (K := pathK) (B := W4.heap.size) (xs := footL k (xs.take i)) rfl (.tmp 50) (.tmp 64) rfl (wr.heap.size + 1) 1 (sx + k.fx, sy + k.fy) rfl rfl (fun ii u hu => cell_new1 hu) (HSO.out.ext (((Ext.refl _).alloc _).alloc _)) (by simp; omega) HFL.out ?_; intro v' w3 o3 b3 gr3; obtain ⟨z1, z2, z3⟩ := Acc.after HA.out HSV.out HSO.out (((Ext.refl wr).alloc _).alloc _) gr3; obtain ⟨Av, kv, cv, rfl⟩ := own_shapeW o3; have HO3 := Lib.hid o3; have HG3 := Lib.hid gr3; clear o3 b3 gr3)
          go_roundw
          case rel =>
            refine ⟨i + 1, by omega, by go_num, ?_⟩
            have hst : AccStep pathK W4 (wo.heap.size + 1) 1 wr (.slice Af nf cf) (footL k (xs.take (i + 1))) (w3.setCell ⟨wo.heap.size + 1, 1, none⟩ (.slice Av kv cv)) := ⟨_, _, _, _, ((Ext.refl wr).alloc _).alloc _, HG3.out, by rw [HFT.out]; exact HO3.out, Ext.refl _, Ext.refl _⟩
            exact (hst.done HA.out HSV.out HSO.out).2.2
          case measure => simp [intOf]; omega
        · obtain rfl : i = m := by omega
          have hft : footL k (xs.take i) = footL k xs := by rw [List.take_of_length_le (by rw [← HML.out]; exact Nat.le_refl _)]
          rw [hft] at HSO
          replace t0 := hA.cell t0 (.inr (by decide))
          replace t2 := hA.cell t2 (.inr (by decide))
          replace t3 := hA.cell t3 (.inr (by decide))
          replace t4 := hA.cell t4 (.inr (by decide))
          replace t5 := hA.cell t5 (.inr (by decide))
          have hW4 := hA.but.size
          have HXW := Lib.hid (show Ext wo wr from hA.but.below HX4.out (by simp))
          have lsv := cell_lt hsv
          have hszo := HX.out.bel.size
          have hszw := HXW.out.bel.size
          obtain ⟨Ss, hS1, hS2, hS3⟩ := HO.out.ext HXW.out
          have HS1 := Lib.hid hS1
          have HS2 := Lib.hid hS2
          have HS3 := Lib.hid hS3
          have HSL := Lib.hid (show Ss.length ≤ 1000000000 by omega)
          have HFO := Lib.hid (show spotK.Own W1.heap.size wr (.slice Af nf cf) (footL k xs) from EK.Own.mono (K := pathK) HSO.out (by omega))
          clear hA hso hft hS1 hS2 hS3
          go_wp2_with (at_builtin; refine EK.app (K := sideK) (B := W1.heap.size) (xs := Ss) rfl (.tmp 68) (.tmp 70) rfl wr.heap.size 1 ((A2, i, c2'), (Af, nf, cf), hi, re, pr, cr) rfl rfl (fun ii u hu => cell_new hu) (HS1.out.ext ((Ext.refl _).alloc _)) (by simp; omega) HSL.out ?_; intro v' w3 o3 b3 gr3; obtain ⟨Av, kv, cv, rfl⟩ := own_shapeW o3; have HO3 := Lib.hid o3; have HG3 := Lib.hid gr3; have HB3 := Lib.hid b3; clear o3 b3 gr3)
          go_roundw
          case rel =>
            refine ⟨j + 1, by omega, by go_num, ?_, ((HX.out.trans HXW.out).alloc _).below HB3.out (Nat.le_refl _)⟩
            refine SidesM.snoc (HS1.out.ext ((Ext.refl _).alloc _)) HS2.out (fun q h h' => (HS3.out q h h').ext ((Ext.refl _).alloc _)) hjl ⟨?_, ?_, ?_, ?_, ?_, ?_⟩ HG3.out HO3.out
            · have := HC.out.1; rw [← this]; exact HSP.out
            · have := HC.out.1; rw [← this]; exact HFO.out.ext ((Ext.refl _).alloc _)
            · exact HC.out.2.2.2.1
            · exact HC.out.2.2.2.2
            · exact HC.out.2.1
            · exact HC.out.2.2.1
          case measure => simp [intOf]; omega
    · obtain rfl : j = n := by omega
      have HF := Lib.hid (show SidesIs k wo (.slice Ao no co) from SidesM.is (by rw [← HN.out]; exact HO.out) (HX1.out.trans HX.out))
      clear hown hx
      go_wp2_with fail
      go_ret
      exact ⟨_, rfl, HF.out, HX1.out.trans HX.out⟩
end Go.Proofs.Ytgeapenglcohfaa
