/- GrooveStands: the law's walk. Condition: the work's cuts and the list read. -/
import Derived.Test.YtgeapenglcohfaaGSta
import Derived.Test.YtgeapenglcohfaaGWalls
import Derived.Test.YtgeapenglcohfaaGAlive
import Derived.Test.YtgeapenglcohfaaGGreat
import Derived.Deep.Cut
namespace Go.Proofs.Ytgeapenglcohfaa
open Go.RowKit

theorem great_lensS {k : WkT} (h : greatK k = false) : k.cuts.length ≤ 1000 ∧ ∀ c ∈ k.cuts, c.1.length ≤ 1000 := by
  unfold greatK at h
  simp only [Bool.or_eq_false_iff, decide_eq_false_iff_not, List.any_eq_false, decide_eq_true_eq] at h
  exact ⟨by omega, fun c hc => by have := h.2 c hc; omega⟩
/-- The reaches of the first i cuts. -/
def reachTo (k : WkT) (i : Nat) : List Int := (List.range i).map fun q => reachK k (cutAt k q)
theorem reachTo_succ (k : WkT) (i : Nat) : reachTo k (i + 1) = reachTo k i ++ [reachK k (cutAt k i)] := by
  unfold reachTo
  rw [List.range_succ, List.map_append]
  rfl
theorem reachTo_len (k : WkT) (i : Nat) : (reachTo k i).length = i := by unfold reachTo; simp
theorem reachTo_at (k : WkT) {i q : Nat} (h : q < i) : (reachTo k i)[q]?.getD 0 = reachK k (cutAt k q) := by
  unfold reachTo
  rw [List.getElem?_map, List.getElem?_range h]
  rfl
/-- Another slice grows: the twin stays. -/
theorem TwinM.kept {k : WkT} {B B' : Nat} {w0 w w' : World} {v u : Value} {zs : List Int} {Ts : List CutR} {j : Nat} (h : TwinM k B w0 w v Ts j) (ho : intK.Own B' w u zs) (hg : w.grownBy w' u.ownBlock) : TwinM k B w0 w' v Ts j :=
  ⟨h.own.kept hg (own_ne h.own ho (by decide)), h.len, h.rest, fun q a b c => (h.done q a b c).kept hg (own_ne (h.done q a b c) ho (by decide)), h.old, h.dist⟩
theorem box_other {α : Type} {K : EK α} {B b : Nat} {w w' : World} {v : Value} {xs : List α} {cs : Array Value} {T : TypeId} (hb : BoxAt b cs T w) (h : K.Own B w v xs) (hne : K.ty ≠ T) (hg : w.grownBy w' v.ownBlock) : BoxAt b cs T w' :=
  (hg.block b hb.lt (fun e => h.box_ne hb hne e.symm)).trans hb
theorem int_spot {B B' o : Nat} {w : World} {u : Value} {zs : List Int} {g N c : Nat} {xs : List (Int × Int)} {x : Value} (h : intK.Own B w u zs) (hs : spotK.Own B' w (.slice (some ⟨g, 0, none⟩) N c) xs) : intK.Own B (w.setCell ⟨g, o, none⟩ x) u zs := by
  refine h.oth ?_
  have := own_ne h hs (by decide)
  simpa [Value.ownBlock] using this
theorem tmod_nat (a b : Nat) : ((a : Int)).tmod (b : Int) = ((a % b : Nat) : Int) := by
  rw [Int.tmod_eq_emod_of_nonneg (by omega)]
  rfl
theorem ext_ofS {w : World} (δ : BExt w) : Ext w δ.wd := ⟨δ, rfl⟩
def workCells (k : WkT) (v : Value) : Array Value := #[.int .i64 k.tip, .int .i64 k.num, .int .i64 k.den, .int .i64 k.bite, .int .i64 k.slack, .int .i64 k.wall, .int .i64 k.deepest, .int .i64 k.play, .int .i64 k.fx, .int .i64 k.fy, .int .i64 k.fh, .int .i64 k.fd, v]

theorem workB_16' {k : WkT} (hb : workB k = true) : k.cuts.length ≤ 16 := (workB_iff.1 hb).2.2.1
/-- What the loops over the spots keep. -/
structure StaM (k : WkT) (w2 : World) (vv : Value) (x8 : Nat) (Ts : List CutR) (i m : Nat) (rv : Value) (r : Nat) (W : World) : Prop where
  tw : ∃ cs, TwinM (withC k cs) w2.heap.size w2 W vv Ts (withC k cs).cuts.length ∧ ChgIs k cs i m
  box : BoxAt x8 (workCells k vv) 59 W
  reach : intK.Own w2.heap.size W rv (reachTo k r)
  ext : Ext w2 W
theorem StaM.x {k : WkT} {w2 : World} {vv : Value} {x8 : Nat} {Ts : List CutR} {i m : Nat} {rv : Value} {r : Nat} {W W' : World} (h : StaM k w2 vv x8 Ts i m rv r W) (x : Ext W W') : StaM k w2 vv x8 Ts i m rv r W' := by
  obtain ⟨cs, h1, h2⟩ := h.tw
  exact ⟨⟨cs, h1.ext x, h2⟩, h.box.ext x, h.reach.ext x, h.ext.trans x⟩
theorem StaM.grow {k : WkT} {w2 : World} {vv : Value} {x8 : Nat} {Ts : List CutR} {i m : Nat} {rv v' : Value} {r : Nat} {W w3 : World} {cs : Array Value} {T : TypeId} {z : Int} (h : StaM k w2 vv x8 Ts i m rv r W) (hr : reachTo k (r + 1) = reachTo k r ++ [z])
    (o3 : intK.Own w2.heap.size w3 v' (reachTo k r ++ [z])) (b3 : Below w2.heap.size (W.alloc (.cells cs T)) w3) (g3 : (W.alloc (.cells cs T)).grownBy w3 rv.ownBlock) : StaM k w2 vv x8 Ts i m v' (r + 1) w3 := by
  have hx : Ext W (W.alloc (.cells cs T)) := (Ext.refl _).alloc _
  obtain ⟨cc, h1, h2⟩ := h.tw
  exact ⟨⟨cc, (h1.ext hx).kept (h.reach.ext hx) g3, h2⟩, box_other (h.box.ext hx) (h.reach.ext hx) (by decide) g3, by rw [hr]; exact o3, (h.ext.trans hx).below b3 (Nat.le_refl _)⟩
/-- A spot is stored, first its X, then its Y. -/
theorem StaM.two {k : WkT} {w2 : World} {vv : Value} {x8 : Nat} {Ts : List CutR} {i t : Nat} {rv : Value} {r : Nat} {W W1 W3 : World} (h : StaM k w2 vv x8 Ts i t rv r W) (hiT : i < Ts.length) (hik : i < k.cuts.length) {gi N ci : Nat} (hrow : rowV Ts[i].1 = .slice (some ⟨gi, 0, none⟩) N ci)
    (htk : t < k.cuts[i].1.length) {X Y : Int} (hy : WrS k.play k.cuts[i].1[t] (X, Y)) (x1 : Ext W W1) (x2 : Ext (W1.setCell ⟨gi, t * 2, none⟩ (.int .i64 X)) W3) :
    StaM k w2 vv x8 Ts i (t + 1) rv r (W3.setCell ⟨gi, t * 2 + 1, none⟩ (.int .i64 Y)) := by
  obtain ⟨cs, htw, hch⟩ := h.tw
  have hics : i < (withC k cs).cuts.length := by show i < cs.length; rw [hch.len]; exact hik
  have hlen := (hch.rest i hics hik).2
  have htc : t < (withC k cs).cuts[i].1.length := by show t < cs[i].1.length; rw [hlen]; exact htk
  have hd := htw.done i hiT hics hics
  have hbn := hd.box_ne h.box (by decide)
  have hg := hd.lt gi (by rw [hrow]; rfl)
  have hd' := hd
  rw [hrow] at hd hbn
  have hx8 : x8 ≠ gi := fun e => hbn (by simp [Value.ownBlock, e])
  have t1 := (htw.ext x1).spot hiT hics hrow (e := 0) htc (by decide) (X, ((withC k cs).cuts[i].1[t]).2) (.int .i64 X) rfl
  have t2 := (t1.ext x2)
  have hics2 : i < (withC (withC k cs) ((withC k cs).cuts.set i ((withC k cs).cuts[i].1.set t (X, ((withC k cs).cuts[i].1[t]).2), (withC k cs).cuts[i].2))).cuts.length := by
    show i < (List.set _ _ _).length
    rw [List.length_set]
    exact hics
  have hget : (withC (withC k cs) ((withC k cs).cuts.set i ((withC k cs).cuts[i].1.set t (X, ((withC k cs).cuts[i].1[t]).2), (withC k cs).cuts[i].2))).cuts[i] = ((withC k cs).cuts[i].1.set t (X, ((withC k cs).cuts[i].1[t]).2), (withC k cs).cuts[i].2) := List.getElem_set_self _
  have htc2 : t < (withC (withC k cs) ((withC k cs).cuts.set i ((withC k cs).cuts[i].1.set t (X, ((withC k cs).cuts[i].1[t]).2), (withC k cs).cuts[i].2))).cuts[i].1.length := by
    rw [hget]
    show t < (List.set _ _ _).length
    rw [List.length_set]
    exact htc
  have t3 := t2.spot hiT hics2 hrow (e := 1) htc2 (by decide) (X, Y) (.int .i64 Y) (by
    have : (withC (withC k cs) ((withC k cs).cuts.set i ((withC k cs).cuts[i].1.set t (X, ((withC k cs).cuts[i].1[t]).2), (withC k cs).cuts[i].2))).cuts[i].1[t] = (X, ((withC k cs).cuts[i].1[t]).2) := by
      simp only [hget]
      exact List.getElem_set_self _
    rw [this]
    rfl)
  refine ⟨⟨cs.set i (cs[i].1.set t (X, Y), cs[i].2), ?_, hch.put hics hik htc htk (X, Y) hy⟩, ?_, ?_, ?_⟩
  · rw [hget] at t3
    have e1 : ((withC (withC k cs) ((withC k cs).cuts.set i ((withC k cs).cuts[i].1.set t (X, ((withC k cs).cuts[i].1[t]).2), (withC k cs).cuts[i].2))).cuts.set i ((((withC k cs).cuts[i].1.set t (X, ((withC k cs).cuts[i].1[t]).2)).set t (X, Y)), (withC k cs).cuts[i].2)) = cs.set i (cs[i].1.set t (X, Y), cs[i].2) := by
      show List.set (List.set _ _ _) _ _ = _
      rw [List.set_set, List.set_set]
      rfl
    rw [e1] at t3
    exact t3
  · exact ((((h.box.ext x1).setOther (p := ⟨gi, t * 2, none⟩) hx8 _).ext x2).setOther (p := ⟨gi, t * 2 + 1, none⟩) hx8 _)
  · have r1 := int_spot (o := t * 2) (x := .int .i64 X) (h.reach.ext x1) (hd.ext x1)
    have hd2 := t2.done i hiT hics2 hics2
    rw [hrow] at hd2
    exact int_spot (r1.ext x2) hd2
  · exact (((h.ext.trans x1).setCell (p := ⟨gi, t * 2, none⟩) hg.1 _).trans x2).setCell (p := ⟨gi, t * 2 + 1, none⟩) hg.1 _

set_option maxRecDepth 100000 in
set_option maxHeartbeats 16000000 in
theorem lawStands_any (k : WkT) (v u : Value) (l : List Int) (w : World) (hI : CutsIs w v k.cuts) (hJ : IsI w u l) :
    Calls Try.prog 15 #[k.val v, u] w fun e w' => e = .returned (.bool true) ∧ Ext w w' := by
  have HAL := Lib.hid fun W : World => alive_any W
  have HG := Lib.hid fun (W : World) (x : Ext w W) => great_any k v W (hI.ext x)
  have HWL := Lib.hid fun (W : World) (x : Ext w W) => walls_any k v W (hI.ext x)
  have HIX := Lib.hid fun (W : World) (x : Ext w W) => hI.ext x
  obtain ⟨A, n, c, rfl⟩ : ∃ A n c, v = .slice A n c := by
    obtain ⟨A, c, h, -⟩ := cutsIs_at hI
    exact ⟨A, _, c, h⟩
  have hnl : n = k.cuts.length := by
    obtain ⟨A, c, h, -⟩ := cutsIs_at hI
    cases h
    rfl
  have HNL := Lib.hid hnl
  obtain ⟨A', m, c', rfl, -, hr, hmm⟩ := hJ.open_
  have HQ := Lib.hid hr
  clear hI hJ hr hnl
  cases hg : greatK k
  case true =>
    rw [hg] at HG
    clear hg
    go_enter Try.func15, Try.ntmps15
    go_wp2_with fail
    refine (HAL.out _).mono ?_
    rintro e W0 ⟨rfl, x0⟩
    have HX0 := Lib.hid (show Ext w W0 from Ext.trans (by (repeat' (first | with_reducible exact Ext.refl _ | with_reducible apply Ext.alloc | with_reducible apply Ext.drew | with_reducible apply Ext.drewN | with_reducible refine Ext.setCell ?_ ?_ _ | with_reducible apply Ext.step | with_reducible assumption | with_reducible exact Nat.le_refl _ | (simp; done) | (simp; omega)))) x0)
    have HA0 := Lib.hid ((WkAt.new k (.slice A n c) w).ext x0)
    obtain ⟨h0, h1, h2, h3, h4, h5, h6, h7, h8, h9, h10, h11, h12⟩ := HA0.out
    have lh0 := cell_lt h0
    clear x0
    go_wp2_with fail
    refine (HG.out _ HX0.out).mono ?_
    rintro e W1 ⟨rfl, x1⟩
    have HX1 := Lib.hid (HX0.out.trans x1)
    clear x1 h0 h1 h2 h3 h4 h5 h6 h7 h8 h9 h10 h11 h12 lh0
    go_wp2_with fail
    go_ret
    exact ⟨rfl, HX1.out⟩
  have HT := Lib.hid fun (W : World) (x : Ext w W) => twin_any k _ W (HIX.out W x) (great_lensS hg).1 (great_lensS hg).2
  rw [hg] at HG
  clear hg
  by_cases h200 : 200 < m
  · have h200i : (200 : Int) < (m : Int) := by omega
    clear h200
    go_enter Try.func15, Try.ntmps15
    go_wp2_with fail
    refine (HAL.out _).mono ?_
    rintro e W0 ⟨rfl, x0⟩
    have HX0 := Lib.hid (show Ext w W0 from Ext.trans (by (repeat' (first | with_reducible exact Ext.refl _ | with_reducible apply Ext.alloc | with_reducible apply Ext.drew | with_reducible apply Ext.drewN | with_reducible refine Ext.setCell ?_ ?_ _ | with_reducible apply Ext.step | with_reducible assumption | with_reducible exact Nat.le_refl _ | (simp; done) | (simp; omega)))) x0)
    have HA0 := Lib.hid ((WkAt.new k (.slice A n c) w).ext x0)
    obtain ⟨h0, h1, h2, h3, h4, h5, h6, h7, h8, h9, h10, h11, h12⟩ := HA0.out
    have lh0 := cell_lt h0
    clear x0
    go_wp2_with fail
    refine (HG.out _ HX0.out).mono ?_
    rintro e W1 ⟨rfl, x1⟩
    have HX1 := Lib.hid (HX0.out.trans x1)
    clear x1 h0 h1 h2 h3 h4 h5 h6 h7 h8 h9 h10 h11 h12 lh0
    go_wp2_with fail
    go_ret
    exact ⟨rfl, HX1.out⟩
  have h200i : ¬ (200 : Int) < (m : Int) := by omega
  obtain ⟨ev, hev⟩ : ∃ z, z = workE k := ⟨_, rfl⟩
  rw [← hev] at HWL
  have HEV := Lib.hid hev
  clear hev
  go_enter Try.func15, Try.ntmps15
  go_wp2_with fail
  refine (HAL.out _).mono ?_
  rintro e W0 ⟨rfl, x0⟩
  have HX0 := Lib.hid (show Ext w W0 from Ext.trans (by (repeat' (first | with_reducible exact Ext.refl _ | with_reducible apply Ext.alloc | with_reducible apply Ext.drew | with_reducible apply Ext.drewN | with_reducible refine Ext.setCell ?_ ?_ _ | with_reducible apply Ext.step | with_reducible assumption | with_reducible exact Nat.le_refl _ | (simp; done) | (simp; omega)))) x0)
  have HA0 := Lib.hid ((WkAt.new k (.slice A n c) w).ext x0)
  obtain ⟨h0, h1, h2, h3, h4, h5, h6, h7, h8, h9, h10, h11, h12⟩ := HA0.out
  have lh0 := cell_lt h0
  clear x0
  go_wp2_with fail
  refine (HG.out _ HX0.out).mono ?_
  rintro e W1 ⟨rfl, x1⟩
  have HX1 := Lib.hid (HX0.out.trans x1)
  have HA1 := Lib.hid (HA0.out.ext x1)
  clear x1 h0 h1 h2 h3 h4 h5 h6 h7 h8 h9 h10 h11 h12 lh0
  obtain ⟨h0, h1, h2, h3, h4, h5, h6, h7, h8, h9, h10, h11, h12⟩ := HA1.out
  have lh0 := cell_lt h0
  go_wp2_with fail
  refine (HWL.out _ HX1.out).mono ?_
  rintro e W2 ⟨u1, rfl, o1, x2⟩
  obtain ⟨P1, m1, q1, rfl⟩ := own_shapeW o1
  have hm1 : m1 = (wallsL k).length := by obtain ⟨_, _, he, _⟩ := o1.is; cases he; rfl
  have HX2 := Lib.hid (HX1.out.trans x2)
  have HA2 := Lib.hid (HA1.out.ext x2)
  clear o1 x2 h0 h1 h2 h3 h4 h5 h6 h7 h8 h9 h10 h11 h12 lh0
  cases hb : workB k
  · have he : ev = 51 := HEV.out.trans (workE_no hb)
    subst he
    clear hb hm1
    go_wp2_with fail
    go_ret
    exact ⟨rfl, HX2.out⟩
  have he : ev = 0 := HEV.out.trans (workE_ok hb)
  subst he
  by_cases hm0 : 0 < m1
  · have hm0i : (0 : Int) < (m1 : Int) := by omega
    clear hb hm1 hm0
    go_wp2_with fail
    go_ret
    exact ⟨rfl, HX2.out⟩
  have hm00 : m1 = 0 := by omega
  have HW0 := Lib.hid (show wallsL k = [] from List.eq_nil_of_length_eq_zero (by omega))
  subst hm00
  have HB := Lib.hid hb
  have h16 := workB_16' hb
  rw [← HNL.out] at h16
  clear hb hm1 hm0
  obtain ⟨h0, h1, h2, h3, h4, h5, h6, h7, h8, h9, h10, h11, h12⟩ := HA2.out
  have lh0 := cell_lt h0
  go_wp2_with fail
  refine (HT.out _ HX2.out).mono ?_
  rintro e W3 ⟨v', Ts, rfl, ht, x3⟩
  obtain ⟨A2, n2, c2, rfl⟩ := own_shapeW ht.own
  have HTW := Lib.hid ht
  have HX3 := Lib.hid (HX2.out.trans x3)
  have HY3 := Lib.hid x3
  have HB3 := Lib.hid (BoxAt.new W3 #[.int .i64 0, .int .i64 0, .int .i64 0, .int .i64 0, .int .i64 0, .int .i64 0, .int .i64 0, .int .i64 0, .int .i64 0, .int .i64 0, .int .i64 0, .int .i64 0, .slice none 0 0] 59)
  clear ht x3 h0 h1 h2 h3 h4 h5 h6 h7 h8 h9 h10 h11 h12 lh0
  rename_i K2 hK2
  refine hK2 _ _ ?_
  iterate 1 (refine wpList_plain (by rfl) (fun K hK => ?_); go_simp; refine hK _ _ ?_; clear hK K)
  refine wpList_store_row rfl 59 (.tmp 8) (.tmp 53) rfl W3.heap.size _ rfl rfl 59 #[.int .i64 0, .int .i64 0, .int .i64 0, .int .i64 0, .int .i64 0, .int .i64 0, .int .i64 0, .int .i64 0, .int .i64 0, .int .i64 0, .int .i64 0, .int .i64 0, .slice none 0 0] HB3.out (by kernel_rfl) rfl (by simp [Value.oneCell']) ?_
  refine lay_list (fun W => BoxAt W3.heap.size (workCells k (.slice A2 n2 c2)) 59 W ∧ Ext W3 W) ⟨BoxAt.setRow HB3.out _, (setRow_but _ _ _).below ((Ext.refl W3).alloc _) (by simp)⟩ ?_
  rintro W4 ⟨hb4, x4⟩
  obtain ⟨x8, hx8⟩ : ∃ x8, x8 = W3.heap.size := ⟨_, rfl⟩
  rw [← hx8] at hb4 ⊢
  have HX8 := Lib.hid hx8
  have HT4 := Lib.hid (HTW.out.ext x4)
  have HB4 := Lib.hid hb4
  have HY4 := Lib.hid (HY3.out.trans x4)
  have hn2 : n2 = n := by rw [HNL.out, ← HTW.out.len]; exact twin_len HTW.out.own rfl
  subst hn2
  have e12 := hb4.cell (i := 12) rfl
  have le12 := cell_lt e12
  clear hb4 x4 hx8
  go_wp2_with fail
  go_loopw [9, 10, 57] (fun rv nv iv W => ∃ i nn : Nat, i ≤ n2 ∧ nn ≤ 24 * i ∧ iv = .int .i64 (i : Int) ∧ nv = .int .i64 (nn : Int) ∧ StaM k W2 (.slice A2 n2 c2) x8 Ts i 0 rv i W) (fun _ _ iv _ => n2 - (intOf iv).toNat)
  case atStart => exact ⟨0, 0, by omega, by omega, rfl, rfl, ⟨k.cuts, HT4.out, ChgIs.start k⟩, HB4.out, EK.Own.nil _ _, HY4.out⟩
  case round =>
    obtain ⟨i, nn, hi, hnn, rfl, rfl, hst⟩ := hrel
    have HST := Lib.hid hst
    clear hst
    by_cases hlt : i < n2
    · obtain ⟨cs, htw, hch⟩ := HST.out.tw
      have hiT : i < Ts.length := by have := twin_len htw.own rfl; omega
      have hik : i < k.cuts.length := by rw [← HNL.out]; exact hlt
      have hics : i < cs.length := by rw [hch.len]; exact hik
      obtain ⟨g, cg, he, hg1, hg2, hcl, hfr⟩ := htw.own.slot hiT
      simp only [Value.slice.injEq] at he
      obtain ⟨rfl, -, rfl⟩ := he
      have r0 : wr.cell? ⟨g, i * 3, none⟩ = some (rowV Ts[i].1) := hcl 0 _ rfl
      have r1 : wr.cell? ⟨g, i * 3 + 1, none⟩ = some (.int .i64 Ts[i].2.1) := hcl 1 _ rfl
      have r2 : wr.cell? ⟨g, i * 3 + 2, none⟩ = some (.bool Ts[i].2.2) := hcl 2 _ rfl
      have hrest : Ts[i].2 = k.cuts[i].2 := by
        have := htw.rest i hiT hics
        rw [this]
        exact (hch.rest i hics hik).1
      rw [hrest] at r1 r2
      have hdn := htw.done i hiT hics hics
      obtain ⟨l1, l2⟩ := cut_len HB.out hik
      have hcl1 : (withC k cs).cuts[i].1.length = k.cuts[i].1.length := (hch.rest i hics hik).2
      obtain ⟨gi, ci, hrow, hgi1, hgi2, -, -⟩ := hdn.slot (j := 0) (by omega)
      rw [hcl1] at hrow
      rw [hrow] at r0
      have HROW := Lib.hid hrow
      obtain ⟨N, hN⟩ : ∃ N, N = k.cuts[i].1.length := ⟨_, rfl⟩
      rw [← hN] at hrow HROW r0 l1 l2
      have HNN := Lib.hid hN
      obtain ⟨-, c1, c2'⟩ := cutAt_bd HB.out hik
      have hcat := cutAt_eq hik
      rw [hcat] at c1 c2'
      have hdE : depthE k.tip k.num k.den k.bite k.slack k.cuts[i].2.1 = 0 := by
        unfold depthE
        rw [(workB_iff.1 HB.out).1, inB_iff.2 ⟨c1, c2'⟩]
        rfl
      have hdH : depthHi k.tip k.num k.den k.bite k.slack k.cuts[i].2.1 = hiK k k.cuts[i] := by
        unfold depthHi
        rw [(workB_iff.1 HB.out).1, inB_iff.2 ⟨c1, c2'⟩]
        rfl
      obtain ⟨b0, b1⟩ := hiK_bd HB.out c1 c2'
      have hhE : halfE k.tip k.num k.den k.bite k.slack (hiK k k.cuts[i]) = 0 := by
        unfold halfE
        rw [(workB_iff.1 HB.out).1, inB_iff.2 ⟨b0, by omega⟩]
        rfl
      have hhN : halfN k.tip k.num k.den k.bite k.slack (hiK k k.cuts[i]) = reachK k (cutAt k i) := by
        unfold halfN
        rw [(workB_iff.1 HB.out).1, inB_iff.2 ⟨b0, by omega⟩, hcat]
        rfl
      have HD1 := Lib.hid fun (W : World) => depth_any k.tip k.num k.den k.bite k.slack k.cuts[i].2.1 W
      simp only [depthV, hdE, hdH] at HD1
      have HD2 := Lib.hid fun (W : World) => half_any k.tip k.num k.den k.bite k.slack (hiK k k.cuts[i]) W
      simp only [halfV, hhE, hhN] at HD2
      generalize hiK k k.cuts[i] = hi' at *
      generalize depthLo k.tip k.num k.den k.bite k.slack k.cuts[i].2.1 = lo' at *
      have HRS := Lib.hid (reachTo_succ k i)
      generalize reachK k (cutAt k i) = ri at *
      have lr0 := cell_lt r0
      have hii : (i : Int) < (n2 : Int) := by omega
      obtain ⟨wo, rfl⟩ : ∃ wo, wo = wr := ⟨_, rfl⟩
      clear htw hch hcl hfr hrest hdn hcl1 hrow hN c1 c2' hcat hdE hdH b0 b1 hhE hhN hgi1 hgi2 hg1 hg2
      go_upto_region 13 with fail
      refine lay_wp (fun W => BoxAt wo.heap.size #[.slice (some ⟨gi, 0, none⟩) N ci, .int .i64 k.cuts[i].2.1, .bool k.cuts[i].2.2] 86 W ∧ Ext wo W) ⟨BoxAt.new wo _ _, (Ext.refl _).alloc _⟩ ?_
      rintro W5 ⟨hb5, x5⟩
      have HB5 := Lib.hid hb5
      have HX5 := Lib.hid x5
      have HA5 := Lib.hid (HA2.out.ext ((HST.out.x x5).ext))
      obtain ⟨h0, h1, h2, h3, h4, h5, h6, h7, h8, h9, h10, h11, h12⟩ := HA5.out
      have lh0 := cell_lt h0
      have d1 := hb5.cell (i := 1) rfl
      have ld1 := cell_lt d1
      clear r0 r1 r2 lr0 hb5 x5
      go_wp2_with fail
      refine (HD1.out _).mono ?_
      rintro e W6 ⟨rfl, x6⟩
      have HX6 := Lib.hid (HX5.out.trans x6)
      have HB6 := Lib.hid (HB5.out.ext x6)
      have HA6 := Lib.hid (HA5.out.ext x6)
      clear x6 h0 h1 h2 h3 h4 h5 h6 h7 h8 h9 h10 h11 h12 lh0 d1 ld1
      obtain ⟨h0, h1, h2, h3, h4, h5, h6, h7, h8, h9, h10, h11, h12⟩ := HA6.out
      have lh0 := cell_lt h0
      go_wp2_with fail
      refine (HD2.out _).mono ?_
      rintro e W7 ⟨rfl, x7⟩
      have HX7 := Lib.hid (HX6.out.trans x7)
      have HB7 := Lib.hid (HB6.out.ext x7)
      have HS7 := Lib.hid (HST.out.x HX7.out)
      obtain ⟨Ar, nr, cr, rfl⟩ := own_shapeW HST.out.reach
      clear x7 h0 h1 h2 h3 h4 h5 h6 h7 h8 h9 h10 h11 h12 lh0
      have hs7 := HS7.out.ext.bel.size
      have HLR := Lib.hid (show (reachTo k i).length ≤ 1000000000 by rw [reachTo_len]; omega)
      go_wp2_with (at_builtin; refine EK.app (K := intK) (B := W2.heap.size) (xs := reachTo k i) rfl (.tmp 84) (.tmp 86) rfl W7.heap.size 1 ri rfl rfl (fun i u hu => cell_new hu) (HS7.out.reach.ext ((Ext.refl _).alloc _)) (by simp; omega) HLR.out ?_; intro v' w3 o3 b3 g3; have HS3 := Lib.hid (show StaM k W2 (.slice (some ⟨g, 0, none⟩) n2 c2) x8 Ts i 0 v' (i + 1) w3 from StaM.grow HS7.out HRS.out o3 b3 g3); have HB3' := Lib.hid (box_other (HB7.out.ext ((Ext.refl _).alloc _)) (HS7.out.reach.ext ((Ext.refl _).alloc _)) (by decide) g3); have d0 := HB3'.out.cell (i := 0) rfl; have ld0 := cell_lt d0; clear o3 b3 g3)
      go_loopw [10, 91] (fun nv iv W => ∃ t nn2 : Nat, t ≤ N ∧ nn2 ≤ 24 * i + 2 * t ∧ iv = .int .i64 (t : Int) ∧ nv = .int .i64 (nn2 : Int) ∧ StaM k W2 (.slice (some ⟨g, 0, none⟩) n2 c2) x8 Ts i t v' (i + 1) W) (fun _ iv _ => N - (intOf iv).toNat)
      case atStart => exact ⟨0, nn, by omega, by omega, rfl, rfl, HS3.out⟩
      case round =>
        obtain ⟨t, nn2, ht, hn2, rfl, rfl, hst⟩ := hrel
        have HSW := Lib.hid hst
        clear hst
        by_cases hlt2 : t < N
        · obtain ⟨cs, htw, hch⟩ := HSW.out.tw
          have hics : i < cs.length := by rw [hch.len]; exact hik
          obtain ⟨g', cg', he, -, -, hcl, -⟩ := htw.own.slot hiT
          simp only [Value.slice.injEq] at he
          obtain ⟨he1, -, -⟩ := he
          obtain rfl : g = g' := by simpa using he1
          have r0 : wr.cell? ⟨g, i * 3, none⟩ = some (rowV Ts[i].1) := hcl 0 _ rfl
          rw [HROW.out] at r0
          have hdn := htw.done i hiT hics hics
          have hcl1 : (withC k cs).cuts[i].1.length = N := (hch.rest i hics hik).2.trans HNN.out.symm
          have htc : t < (withC k cs).cuts[i].1.length := by rw [hcl1]; exact hlt2
          obtain ⟨gi', ci', hrow, -, -, hsc, hsf⟩ := hdn.slot (j := t) htc
          rw [HROW.out] at hrow
          simp only [Value.slice.injEq] at hrow
          obtain ⟨hr1, -, -⟩ := hrow
          obtain rfl : gi = gi' := by simpa using hr1
          have s0 : wr.cell? ⟨gi, t * 2, none⟩ = some (.int .i64 ((withC k cs).cuts[i].1[t]).1) := hsc 0 _ rfl
          have s1 : wr.cell? ⟨gi, t * 2 + 1, none⟩ = some (.int .i64 ((withC k cs).cuts[i].1[t]).2) := hsc 1 _ rfl
          have f0 := hsf (t * 2)
          have f1 := hsf (t * 2 + 1)
          have htk : t < k.cuts[i].1.length := by rw [← HNN.out]; exact hlt2
          have hsame : (withC k cs).cuts[i].1[t] = k.cuts[i].1[t] := (hch.at_ i hics hik t htc htk).2 (by omega)
          rw [hsame] at s0 s1
          have hok := cut_spot HB.out hik htk
          have HTWI := Lib.hid htw
          have HCHI := Lib.hid hch
          have HIDX := Lib.hid (And.intro hics (And.intro htc htk))
          have HOK := Lib.hid hok
          have h12 := HSW.out.box.cell (i := 12) rfl
          have h7 : wr.cell? ⟨w.heap.size, 7, none⟩ = some (.int .i64 k.play) := (HA2.out.ext HSW.out.ext).2.2.2.2.2.2.2.1
          have l12 := cell_lt h12
          have l7 := cell_lt h7
          have lr0 := cell_lt r0
          have ls0 := cell_lt s0
          have HSP := Lib.hid (show k.cuts[i].1[t] = (k.cuts[i].1[t].1, k.cuts[i].1[t].2) from rfl)
          unfold spotOk at hok
          rw [Bool.and_eq_true, inB_iff, inB_iff] at hok
          obtain ⟨px, py⟩ := hok
          obtain ⟨pl0, pl1⟩ := play_nn HB.out
          have hti : (t : Int) < (N : Int) := by omega
          have HGI := Lib.hid ((hdn.lt gi (by rw [HROW.out]; rfl)).1)
          generalize hsx : k.cuts[i].1[t].1 = sx at *
          generalize hsy : k.cuts[i].1[t].2 = sy at *
          have HOK0 := Lib.hid (show spotOk (sx, sy) = true by rw [← HSP.out]; exact HOK.out)
          clear hsx hsy
          clear htw hch he1 hcl hdn hcl1 hsc hsf hr1 hsame htc
          by_cases hm0 : 0 < m
          · obtain ⟨q1', hq1⟩ : ∃ z, z = nn2 % m := ⟨_, rfl⟩
            obtain ⟨q2', hq2⟩ : ∃ z, z = (nn2 + 1) % m := ⟨_, rfl⟩
            have hlq1 : q1' < m := by rw [hq1]; exact Nat.mod_lt _ hm0
            have hlq2 : q2' < m := by rw [hq2]; exact Nat.mod_lt _ hm0
            have e1 : ((nn2 : Int)).tmod (m : Int) = (q1' : Int) := by rw [tmod_nat, hq1]
            have e2 : ((nn2 : Int) + 1).tmod (m : Int) = (q2' : Int) := by
              rw [show (nn2 : Int) + 1 = ((nn2 + 1 : Nat) : Int) by omega, tmod_nat, hq2]
            obtain ⟨bw, ow, rfl, hbwl0, cw1⟩ := HQ.out.at_ q1' hlq1
            have HBW := Lib.hid (show bw < W2.heap.size from Nat.lt_of_lt_of_le hbwl0 HX2.out.bel.size)
            clear hbwl0
            obtain ⟨bw', ow', hbw, _, cw2⟩ := HQ.out.at_ q2' hlq2
            cases hbw
            replace cw1 := (HX2.out.trans HSW.out.ext).cell_some cw1
            replace cw2 := (HX2.out.trans HSW.out.ext).cell_some cw2
            have lcw := cell_lt cw1
            generalize l[q1']?.getD 0 = z1 at *
            generalize l[q2']?.getD 0 = z2 at *
            have hm1 : ¬ (m : Int) = 0 := by omega
            have hm1n : ¬ m = 0 := by omega
            have hmi : (0 : Int) < (m : Int) := by omega
            have hqi1 : (q1' : Int) < (m : Int) := by omega
            have hqi2 : (q2' : Int) < (m : Int) := by omega
            have HN1 := Lib.hid fun W : World => lawNear_any z1 k.play W pl0 (by omega)
            have HN2 := Lib.hid fun W : World => lawNear_any z2 k.play W pl0 (by omega)
            have HN3 := Lib.hid fun (z : Int) (W : World) => lawNear_any z 10000 W (by decide) (by decide)
            obtain ⟨nv1, hnv1⟩ : ∃ z, z = nearV z1 k.play := ⟨_, rfl⟩
            obtain ⟨nv2, hnv2⟩ : ∃ z, z = nearV z2 k.play := ⟨_, rfl⟩
            have hb1 : -100 ≤ nv1 ∧ nv1 ≤ 100 := by rw [hnv1]; unfold nearV; omega
            have hb2 : -100 ≤ nv2 ∧ nv2 ≤ 100 := by rw [hnv2]; unfold nearV; omega
            rw [← hnv1] at HN1
            rw [← hnv2] at HN2
            have hw1 : IntKind.i64.wrap (sx + nv1) = sx + nv1 := by apply IntWalk.i64_in <;> omega
            have hw2 : IntKind.i64.wrap (sy + nv2) = sy + nv2 := by apply IntWalk.i64_in <;> omega
            have hw3 : IntKind.i64.wrap ((nn2 : Int) + 1) = (nn2 : Int) + 1 := by apply IntWalk.i64_in <;> omega
            have hw4 : IntKind.i64.wrap ((nn2 : Int) + 2) = (nn2 : Int) + 2 := by apply IntWalk.i64_in <;> omega
            generalize hX' : nearV (sx + nv1) 10000 = X' at *
            generalize hY' : nearV (sy + nv2) 10000 = Y' at *
            have HXY := Lib.hid (And.intro hX' hY')
            have HWRS := Lib.hid (show WrS k.play k.cuts[i].1[t] (X', Y') by rw [HSP.out, ← hX', ← hY', hnv1, hnv2]; exact wrS_near HOK0.out pl0)
            obtain ⟨wt, rfl⟩ : ∃ wt, wt = wr := ⟨_, rfl⟩
            clear hq1 hq2 hlq1 hlq2 hnv1 hnv2 hX' hY' hm0
            go_upto_region 23 with fail
            have y0 := But.cells (D := []) s0 (by simp)
            have y1 := But.cells (D := []) cw1 (by simp)
            have y2 := But.cells (D := []) h7 (by simp)
            refine (wpIn_wide (n := 3)).1 ?_
            refine wpIn_region_steps [] 19 [(0, true), (1, true), (2, true), (3, true), (4, true), (5, true), (6, true), (7, true), (8, true), (9, true), (10, true), (11, true), (12, true), (13, true), (14, true), (15, true), (16, true), (17, true), (18, true)] (by kernel_rfl) (by kernel_rfl) ?_
            iterate 14 (refine wpSD_q (by rfl) (fun _ _ _ => trivial) (fun K hK => ?_); go_simp; refine hK _ ?_; clear hK K)
            refine wpSD_q (by rfl) (fun _ _ _ => trivial) (fun K hK => ?_)
            go_simp
            refine ⟨.int .i64 nv1, fun δ => callsIn_wide.2 (HN1.out δ.wd), hK _ ?_⟩
            clear hK K
            iterate 1 (refine wpSD_q (by rfl) (fun _ _ _ => trivial) (fun K hK => ?_); go_simp; refine hK _ ?_; clear hK K)
            refine wpSD_q (by rfl) (fun _ _ _ => trivial) (fun K hK => ?_)
            go_simp
            refine ⟨.int .i64 X', fun δ => callsIn_wide.2 (by have := HN3.out (sx + nv1) δ.wd; rwa [HXY.out.1] at this), hK _ ?_⟩
            clear hK K
            iterate 2 (refine wpSD_q (by rfl) (fun _ _ _ => trivial) (fun K hK => ?_); go_simp; refine hK _ ?_; clear hK K)
            refine wpSD_nil ?_
            intro W8 x8'
            simp only [List.drop_succ_cons, List.drop_zero]
            have HX8' := Lib.hid x8'
            replace f0 := x8'.frozen s0 f0
            replace f1 := x8'.frozen s1 f1
            replace s0 := x8'.cell_some s0
            replace s1 := x8'.cell_some s1
            replace cw2 := x8'.cell_some cw2
            replace h7 := x8'.cell_some h7
            replace ls0 := cell_lt s0
            replace lcw := cell_lt cw2
            replace l7 := cell_lt h7
            clear y0 y1 y2 x8' cw1 r0 h12 l12 lr0
            gi_wp2
            go_upto_region 24 with fail
            have hgw : W2.heap.size ≤ gi := HGI.out
            have hbw1 : bw < W2.heap.size := HBW.out
            have hw2s := HX2.out.bel.size
            have hww : w.heap.size < W2.heap.size := cell_lt HA2.out.1
            refine lay_wp (fun W => Ext (W8.setCell ⟨gi, t * 2, none⟩ (.int .i64 X')) W ∧ W.cell? ⟨gi, t * 2 + 1, none⟩ = some (.int .i64 sy) ∧ W.frozen? ⟨gi, t * 2 + 1, none⟩ = false ∧ W.cell? ⟨bw, ow + q2', none⟩ = some (.int .i64 z2) ∧ W.cell? ⟨w.heap.size, 7, none⟩ = some (.int .i64 k.play)) ⟨Ext.refl _, (cell_set_other (.inr (by simp))).trans s1, by simp [f1], (cell_set_other (.inl (by simp; omega))).trans cw2, (cell_set_other (.inl (by simp; omega))).trans h7⟩ ?_
            clear s0 s1 cw2 h7 ls0 lcw l7 f0 f1
            rintro W9 ⟨x9, s1, f1, cw2, h7⟩
            have HX9 := Lib.hid x9
            have ls1 := cell_lt s1
            have lcw := cell_lt cw2
            have l7 := cell_lt h7
            clear x9
            have y0 := But.cells (D := []) s1 (by simp)
            have y1 := But.cells (D := []) cw2 (by simp)
            have y2 := But.cells (D := []) h7 (by simp)
            refine (wpIn_wide (n := 3)).1 ?_
            refine wpIn_region_steps [] 20 [(0, true), (1, true), (2, true), (3, true), (4, true), (5, true), (6, true), (7, true), (8, true), (9, true), (10, true), (11, true), (12, true), (13, true), (14, true), (15, true), (16, true), (17, true), (18, true), (19, true)] (by kernel_rfl) (by kernel_rfl) ?_
            iterate 15 (refine wpSD_q (by rfl) (fun _ _ _ => trivial) (fun K hK => ?_); go_simp; refine hK _ ?_; clear hK K)
            refine wpSD_q (by rfl) (fun _ _ _ => trivial) (fun K hK => ?_)
            go_simp
            refine ⟨.int .i64 nv2, fun δ => callsIn_wide.2 (HN2.out δ.wd), hK _ ?_⟩
            clear hK K
            iterate 1 (refine wpSD_q (by rfl) (fun _ _ _ => trivial) (fun K hK => ?_); go_simp; refine hK _ ?_; clear hK K)
            refine wpSD_q (by rfl) (fun _ _ _ => trivial) (fun K hK => ?_)
            go_simp
            refine ⟨.int .i64 Y', fun δ => callsIn_wide.2 (by have := HN3.out (sy + nv2) δ.wd; rwa [HXY.out.2] at this), hK _ ?_⟩
            clear hK K
            iterate 2 (refine wpSD_q (by rfl) (fun _ _ _ => trivial) (fun K hK => ?_); go_simp; refine hK _ ?_; clear hK K)
            refine wpSD_nil ?_
            intro W10 x10
            simp only [List.drop_succ_cons, List.drop_zero]
            have HX10 := Lib.hid x10
            replace f1 := x10.frozen s1 f1
            replace s1 := x10.cell_some s1
            replace ls1 := cell_lt s1
            clear y0 y1 y2 x10 cw2 h7 lcw l7
            gi_wp2
            go_wp2_with fail
            go_roundw
            case rel => exact ⟨t + 1, nn2 + 2, by omega, by omega, by go_num, by go_num, HSW.out.two hiT hik HROW.out htk HWRS.out HX8'.out (HX9.out.trans HX10.out)⟩
            case measure => simp [intOf]; omega
          · obtain rfl : m = 0 := by omega
            clear hm0
            go_wp2_with fail
            go_roundw
            case rel => exact ⟨t + 1, nn2, by omega, by omega, by go_num, rfl, ⟨⟨_, HTWI.out, HCHI.out.skip HB.out⟩, HSW.out.box, HSW.out.reach, HSW.out.ext⟩⟩
            case measure => simp [intOf]; omega
        · obtain rfl : t = N := by omega
          obtain ⟨cs, htw, hch⟩ := HSW.out.tw
          have HSN := Lib.hid (show StaM k W2 (.slice (some ⟨g, 0, none⟩) n2 c2) x8 Ts (i + 1) 0 v' (i + 1) wr from ⟨⟨cs, htw, hch.next (fun h' => by rw [HNN.out]; exact Nat.le_refl _)⟩, HSW.out.box, HSW.out.reach, HSW.out.ext⟩)
          clear htw hch
          go_wp2_with fail
          go_roundw
          case rel => exact ⟨i + 1, nn2, by omega, by omega, by go_num, rfl, HSN.out⟩
          case measure => simp [intOf]; omega
    · obtain rfl : i = n2 := by omega
      obtain ⟨cs, htw, hch⟩ := HST.out.tw
      rw [HNL.out] at hch
      have HCH := Lib.hid hch
      have HCI := Lib.hid (show CutsIs wr (.slice A2 i c2) cs from htw.cuts)
      have HLC := Lib.hid (show cs.length = i by rw [hch.len, HNL.out])
      have HAP := Lib.hid fun (a b : Nat) (hab : b < a) (ha : a < k.cuts.length) hc => hch.apart HB.out HW0.out hab ha hc
      have HRE := Lib.hid hch.rest
      have HRI := Lib.hid (intK_own.1 HST.out.reach).isI
      obtain ⟨Ar, nr, cr, rfl⟩ := own_shapeW HST.out.reach
      have hcap : (i : Int) ≤ (c2 : Int) ∧ (c2 : Int) ≤ 9223372036854775807 := by
        obtain ⟨_, _, he, _, hc, _⟩ := htw.own.is
        cases he
        have := hc.1
        have := hc.2
        have hl := htw.len
        have hl2 := twin_len htw.own rfl
        simp only [maxLen] at *
        omega
      have h12 := HST.out.box.cell (i := 12) rfl
      have lh12 := cell_lt h12
      have HX12 := Lib.hid h12
      obtain ⟨w9, rfl⟩ : ∃ w9, w9 = wr := ⟨_, rfl⟩
      have HE9 := Lib.hid HST.out.ext
      have HAT := Lib.hid (show ∀ a (ha : a < cs.length), ∃ (b o : Nat) (T : Option Addr × Nat × Nat), A2 = some ⟨b, o, none⟩ ∧ w9.cell? ⟨b, o + a * 3, none⟩ = some (.slice T.1 T.2.1 T.2.2) ∧ w9.cell? ⟨b, o + a * 3 + 1, none⟩ = some (.int .i64 cs[a].2.1) ∧ w9.cell? ⟨b, o + a * 3 + 2, none⟩ = some (.bool cs[a].2.2) ∧ spotK.Is w9 (.slice T.1 T.2.1 T.2.2) cs[a].1 by
        intro a ha
        obtain ⟨_, _, he, _, _, hat⟩ := cutsIs_at HCI.out
        cases he
        obtain ⟨b, o, T, hA, _, p0, p1, p2, hs⟩ := hat a ha
        exact ⟨b, o, T, hA, p0, p1, p2, hs⟩)
      clear htw
      go_wp2_with fail
      go_loopw [151] (fun iv W => ∃ a : Nat, a ≤ i ∧ iv = .int .i64 (a : Int) ∧ Ext w9 W) (fun iv _ => i - (intOf iv).toNat)
      case atStart => exact ⟨0, by omega, rfl, Ext.refl _⟩
      case round =>
        obtain ⟨a, ha, rfl, hx⟩ := hrel
        have HXA := Lib.hid hx
        by_cases hlt : a < i
        · obtain ⟨b1, o1, T1, rfl, p0, p1, p2, hsp1⟩ := HAT.out a (by rw [HLC.out]; exact hlt)
          replace p0 := hx.cell_some p0
          replace p1 := hx.cell_some p1
          replace p2 := hx.cell_some p2
          have hak : a < k.cuts.length := by rw [← HNL.out]; exact hlt
          have hac : a < cs.length := by rw [HLC.out]; exact hlt
          have hra : cs[a].2 = k.cuts[a].2 := (HRE.out a hac hak).1
          rw [hra] at p1 p2
          obtain ⟨xa, hxa⟩ : ∃ xa, xa = k.cuts[a].2.2 := ⟨_, rfl⟩
          rw [← hxa] at p2
          have HXAA := Lib.hid hxa
          have HSP1 := Lib.hid hsp1
          have HCA := Lib.hid (cutAt_eq hak)
          have lp0 := cell_lt p0
          have hai : (a : Int) < (i : Int) := by omega
          obtain ⟨wa, rfl⟩ : ∃ wa, wa = wr := ⟨_, rfl⟩
          clear hra hsp1 hxa
          go_upto_region 31 with fail
          refine lay_wp (fun W => BoxAt wa.heap.size #[.slice T1.1 T1.2.1 T1.2.2, .int .i64 k.cuts[a].2.1, .bool xa] 86 W ∧ Ext wa W) ⟨BoxAt.new wa _ _, (Ext.refl _).alloc _⟩ ?_
          rintro W13 ⟨hb13, x13⟩
          have HB13 := Lib.hid hb13
          have HX13 := Lib.hid (hx.trans x13)
          have h12' := HX13.out.cell_some HX12.out
          have lh12' := cell_lt h12'
          have hcap1 : (a : Int) ≤ (c2 : Int) := by omega
          have hcap2 := hcap.2
          clear p0 p1 p2 lp0 hb13 x13 h12 lh12 hx
          have HRA := Lib.hid (reachTo_at k hlt)
          have HRW := Lib.hid (show ∀ q, q < i → ∃ b o, Ar = some ⟨b, o, none⟩ ∧ w9.cell? ⟨b, o + q, none⟩ = some (.int .i64 (reachK k (cutAt k q))) ∧ q < nr by
            intro q hq
            obtain ⟨_, _, he, _, _, hro⟩ := HRI.out
            have hl := reachTo_len k i
            simp only [Value.slice.injEq] at he
            obtain ⟨e1, e2, e3⟩ := he
            obtain ⟨b, o, hA, _, hc⟩ := hro.at_ q (by omega)
            exact ⟨b, o, by rw [e1]; exact hA, by rw [hc, reachTo_at k hq], by omega⟩)
          obtain ⟨_, ca1, ca2⟩ := cutAt_bd HB.out hak
          obtain ⟨ra1, ra2⟩ := reachK_bd HB.out ca1 ca2
          have hwl := (fields_bd (workB_iff.1 HB.out).2.1).1
          go_wp2_with fail
          go_loopw [161] (fun jv W => ∃ j : Nat, j ≤ a ∧ jv = .int .i64 (j : Int) ∧ Ext W13 W) (fun jv _ => a - (intOf jv).toNat)
          case atStart => exact ⟨0, by omega, rfl, Ext.refl _⟩
          case round =>
            obtain ⟨j, hj, rfl, hx⟩ := hrel
            have HXJ := Lib.hid hx
            by_cases hlt3 : j < a
            · obtain ⟨b2, o2, T2, hA2, p0, p1, p2, hsp2⟩ := HAT.out j (by rw [HLC.out]; omega)
              cases hA2
              replace p0 := (HX13.out.trans hx).cell_some p0
              replace p1 := (HX13.out.trans hx).cell_some p1
              replace p2 := (HX13.out.trans hx).cell_some p2
              have hjk : j < k.cuts.length := by omega
              have hjc : j < cs.length := by rw [HLC.out]; omega
              have hrj : cs[j].2 = k.cuts[j].2 := (HRE.out j hjc hjk).1
              rw [hrj] at p1 p2
              have HSP2 := Lib.hid hsp2
              have HCJ := Lib.hid (cutAt_eq hjk)
              obtain ⟨_, cj1, cj2⟩ := cutAt_bd HB.out hjk
              obtain ⟨rj1, rj2⟩ := reachK_bd HB.out cj1 cj2
              have lp0 := cell_lt p0
              have hji : (j : Int) < (a : Int) := by omega
              obtain ⟨wj, rfl⟩ : ∃ wj, wj = wr := ⟨_, rfl⟩
              clear hrj hsp2 cj1 cj2
              go_upto_region 34 with fail
              refine lay_wp (fun W => BoxAt wj.heap.size #[.slice T2.1 T2.2.1 T2.2.2, .int .i64 k.cuts[j].2.1, .bool k.cuts[j].2.2] 86 W ∧ Ext wj W) ⟨BoxAt.new wj _ _, (Ext.refl _).alloc _⟩ ?_
              rintro W14 ⟨hb14, x14⟩
              have HX14 := Lib.hid (hx.trans x14)
              have hb13 := HB13.out.ext HX14.out
              have g0 := hb14.cell (i := 0) rfl
              have g2 := hb14.cell (i := 2) rfl
              have m0 := hb13.cell (i := 0) rfl
              have m2 := hb13.cell (i := 2) rfl
              have lg0 := cell_lt g0
              have lm0 := cell_lt m0
              have hcc : (xa && k.cuts[j].2.2) = false → ∀ W, Ext W14 W → Calls Try.prog 31 #[.slice T1.1 T1.2.1 T1.2.2, .slice T2.1 T2.2.1 T2.2.2, .int .i64 (reachK k (cutAt k a) + reachK k (cutAt k j) + k.wall)] W fun e w' => e = .returned (.tuple #[.bool true, .int .i64 0]) ∧ Ext W w' := by
                intro hc W x
                have hap := HAP.out a j hlt3 hak (by rw [HCA.out, HCJ.out, ← HXAA.out]; exact hc)
                have := apart2_any (.slice T1.1 T1.2.1 T1.2.2) (.slice T2.1 T2.2.1 T2.2.2) cs[a].1 cs[j].1 (reachK k (cutAt k a) + reachK k (cutAt k j) + k.wall) W (HSP1.out.ext (HX13.out.trans (HX14.out.trans x))) (HSP2.out.ext (HX13.out.trans (HX14.out.trans x)))
                rw [hap.1, hap.2] at this
                exact this
              have HCC := Lib.hid hcc
              clear p0 p1 p2 lp0 hb14 hb13 x14 hx hcc
              cases hca : (xa && k.cuts[j].2.2)
              · have HAC := Lib.hid (HCC.out hca)
                obtain ⟨br, orr, hAr, cr1, hn1⟩ := HRW.out a hlt
                subst hAr
                obtain ⟨br', orr', hAr, cr2, hn2'⟩ := HRW.out j (by omega)
                cases hAr
                replace cr1 := (HX13.out.trans HX14.out).cell_some cr1
                replace cr2 := (HX13.out.trans HX14.out).cell_some cr2
                have h5 : W14.cell? ⟨w.heap.size, 5, none⟩ = some (.int .i64 k.wall) := (HA2.out.ext (HE9.out.trans (HX13.out.trans HX14.out))).2.2.2.2.2.1
                have lcr := cell_lt cr1
                have l5 := cell_lt h5
                obtain ⟨ra, hra⟩ : ∃ z, z = reachK k (cutAt k a) := ⟨_, rfl⟩
                obtain ⟨rj, hrj⟩ : ∃ z, z = reachK k (cutAt k j) := ⟨_, rfl⟩
                rw [← hra] at cr1 HAC ra1 ra2
                rw [← hrj] at cr2 HAC rj1 rj2
                clear hra hrj
                have hw1 : IntKind.i64.wrap (ra + rj) = ra + rj := by apply IntWalk.i64_in <;> omega
                have hw2 : IntKind.i64.wrap (ra + rj + k.wall) = ra + rj + k.wall := by apply IntWalk.i64_in <;> omega
                have hai' : (a : Int) < (nr : Int) := by omega
                have hji' : (j : Int) < (nr : Int) := by omega
                generalize k.cuts[j].2.2 = xj at *
                cases xa
                · clear hca
                  go_wp2_with fail
                  refine wp_region_bext (by kernel_rfl) (by kernel_rfl) ?_
                  repeat (any_goals (go_big_quiet_step ((go_at_call 31; with_reducible exact bext_call (HAC.out _ (ext_ofS _))))))
                  all_goals refine wpQuiet_nil ?_
                  all_goals rintro w' hw'
                  all_goals obtain ⟨δ, rfl⟩ : Ext (W14) w' := Ext.trans (by (repeat' (first | with_reducible exact Ext.refl _ | with_reducible apply Ext.alloc | with_reducible apply Ext.drew | with_reducible apply Ext.drewN | with_reducible refine Ext.setCell ?_ ?_ _ | with_reducible apply Ext.step | with_reducible assumption | with_reducible exact Nat.le_refl _ | (simp; done) | (simp; omega)))) hw'
                  all_goals clear hw'
                  have HXF := Lib.hid (HX14.out.trans (ext_ofS δ))
                  go_wp2_with fail
                  go_roundw
                  case rel => exact ⟨j + 1, by omega, by go_num, HXF.out⟩
                  case measure => simp [intOf]; omega
                · obtain rfl : xj = false := by simpa using hca
                  clear hca
                  go_wp2_with fail
                  refine wp_region_bext (by kernel_rfl) (by kernel_rfl) ?_
                  repeat (any_goals (go_big_quiet_step ((go_at_call 31; with_reducible exact bext_call (HAC.out _ (ext_ofS _))))))
                  all_goals refine wpQuiet_nil ?_
                  all_goals rintro w' hw'
                  all_goals obtain ⟨δ, rfl⟩ : Ext (W14) w' := Ext.trans (by (repeat' (first | with_reducible exact Ext.refl _ | with_reducible apply Ext.alloc | with_reducible apply Ext.drew | with_reducible apply Ext.drewN | with_reducible refine Ext.setCell ?_ ?_ _ | with_reducible apply Ext.step | with_reducible assumption | with_reducible exact Nat.le_refl _ | (simp; done) | (simp; omega)))) hw'
                  all_goals clear hw'
                  have HXF := Lib.hid (HX14.out.trans (ext_ofS δ))
                  go_wp2_with fail
                  go_roundw
                  case rel => exact ⟨j + 1, by omega, by go_num, HXF.out⟩
                  case measure => simp [intOf]; omega
              · rw [Bool.and_eq_true] at hca
                rw [hca.1] at m2
                rw [hca.2] at g2
                clear hca HCC
                go_wp2_with fail
                go_roundw
                case rel => exact ⟨j + 1, by omega, by go_num, HX14.out⟩
                case measure => simp [intOf]; omega
            · obtain rfl : j = a := by omega
              clear hx
              go_wp2_with fail
              go_roundw
              case rel => exact ⟨j + 1, by omega, by go_num, HX13.out.trans HXJ.out⟩
              case measure => simp [intOf]; omega
        · clear hx
          go_wp2_with fail
          go_ret
          exact ⟨rfl, HX2.out.trans (HE9.out.trans HXA.out)⟩
end Go.Proofs.Ytgeapenglcohfaa
