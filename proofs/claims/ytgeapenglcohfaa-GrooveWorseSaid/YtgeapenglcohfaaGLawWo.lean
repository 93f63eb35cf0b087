/- GrooveWorse: the law's walk. Condition: the work's cuts read as a list. -/
import Derived.Test.YtgeapenglcohfaaGTwinP
import Derived.Test.YtgeapenglcohfaaGWorP
import Derived.Test.YtgeapenglcohfaaGMapP
import Derived.Test.YtgeapenglcohfaaGWalls
import Derived.Test.YtgeapenglcohfaaGDeep
import Derived.Test.YtgeapenglcohfaaGAlive
import Derived.Test.YtgeapenglcohfaaGGreat
import Derived.Deep.Cut
namespace Go.Proofs.Ytgeapenglcohfaa
open Go.RowKit Go.ChangeMaps

theorem great_lensW {k : WkT} (h : greatK k = false) : k.cuts.length ≤ 1000 ∧ ∀ c ∈ k.cuts, c.1.length ≤ 1000 := by
  unfold greatK at h
  simp only [Bool.or_eq_false_iff, decide_eq_false_iff_not, List.any_eq_false, decide_eq_true_eq] at h
  exact ⟨by omega, fun c hc => by have := h.2 c hc; omega⟩
def worseK (k : WkT) (wall play : Int) (cs : List CutT) : WkT := { k with wall := max k.wall wall, play := max k.play play, cuts := cs }
/-- The cuts with more pressure in one of them, or as they are. -/
def MoreIs (k : WkT) (cs : List CutT) : Prop := cs.length = k.cuts.length ∧ ∀ i (h : i < cs.length) (h' : i < k.cuts.length), cs[i].1 = k.cuts[i].1 ∧ k.cuts[i].2.1 ≤ cs[i].2.1 ∧ cs[i].2.2 = k.cuts[i].2.2
theorem MoreIs.refl (k : WkT) : MoreIs k k.cuts := ⟨rfl, fun _ _ _ => ⟨rfl, Int.le_refl _, rfl⟩⟩
theorem MoreIs.press {k : WkT} {i : Nat} (hi : i < k.cuts.length) {p : Int} (hp : k.cuts[i].2.1 ≤ p) : MoreIs k (k.cuts.set i (k.cuts[i].1, p, k.cuts[i].2.2)) := by
  refine ⟨by simp, fun q a b => ?_⟩
  rw [List.getElem_set]
  split
  · rename_i e
    subst e
    exact ⟨rfl, hp, rfl⟩
  · exact ⟨rfl, Int.le_refl _, rfl⟩
theorem MoreIs.worse {k : WkT} {cs : List CutT} (h : MoreIs k cs) (wall play : Int) : WorseIs k (worseK k wall play cs) := by
  refine ⟨⟨rfl, rfl, rfl, rfl, rfl⟩, ?_, ?_, rfl, h.1, fun i hi => ?_⟩
  · show k.wall ≤ max k.wall wall
    omega
  · show k.play ≤ max k.play play
    omega
  · have hc : i < cs.length := by rw [h.1]; exact hi
    rw [cutAt_eq hi, cutAt_eq (k := worseK k wall play cs) hc]
    exact h.2 i hc hi
theorem box_wk2 {k : WkT} {sv : Value} {b : Nat} {W W' : World} (h : BoxAt b #[.int .i64 k.tip, .int .i64 k.num, .int .i64 k.den, .int .i64 k.bite, .int .i64 k.slack, .int .i64 k.wall, .int .i64 k.deepest, .int .i64 k.play, .int .i64 k.fx, .int .i64 k.fy, .int .i64 k.fh, .int .i64 k.fd, sv] 59 W) (wall play : Int) (cs : List CutT)
    (x : Ext (W.setCell ⟨b, 5, none⟩ (.int .i64 (max k.wall wall))) W') :
    BoxAt b #[.int .i64 (worseK k wall play cs).tip, .int .i64 (worseK k wall play cs).num, .int .i64 (worseK k wall play cs).den, .int .i64 (worseK k wall play cs).bite, .int .i64 (worseK k wall play cs).slack, .int .i64 (worseK k wall play cs).wall, .int .i64 (worseK k wall play cs).deepest, .int .i64 (worseK k wall play cs).play, .int .i64 (worseK k wall play cs).fx, .int .i64 (worseK k wall play cs).fy, .int .i64 (worseK k wall play cs).fh, .int .i64 (worseK k wall play cs).fd, sv] 59
      (W'.setCell ⟨b, 7, none⟩ (.int .i64 (max k.play play))) := by
  have := ((h.setCell 5 (.int .i64 (max k.wall wall))).ext x).setCell 7 (.int .i64 (max k.play play))
  simpa [worseK] using this
theorem twin_other {k : WkT} {B b : Nat} {w0 w : World} {v : Value} {Ts : List CutR} {cs : Array Value} (h : TwinM k B w0 w v Ts k.cuts.length) (hb : BoxAt b cs 59 w) (o : Nat) (x : Value) : TwinM k B w0 (w.setCell ⟨b, o, none⟩ x) v Ts k.cuts.length :=
  h.row hb (by decide) (by decide) ((But.refl _ _).setCell (by simp) _)
theorem pair_rows {W : World} {P : Option Addr} {m q : Nat} {L : List (Int × Int)} (h : pairK.Is W (.slice P m q) L) : m = L.length ∧ ∀ j (hj : j < L.length), ∃ b o, P = some ⟨b, o, none⟩ ∧ W.cell? ⟨b, o + j * 2, none⟩ = some (.int .i64 L[j].1) ∧ W.cell? ⟨b, o + j * 2 + 1, none⟩ = some (.int .i64 L[j].2) := by
  obtain ⟨_, _, he, _, _, hr⟩ := h
  cases he
  refine ⟨rfl, fun j hj => ?_⟩
  obtain ⟨b, o, hA, _, hc⟩ := hr j hj
  exact ⟨b, o, hA, hc 0 _ rfl, hc 1 _ rfl⟩
theorem int_rows {W : World} {P : Option Addr} {m q : Nat} {L : List Int} (h : intK.Is W (.slice P m q) L) : m = L.length ∧ ∀ j (hj : j < L.length), ∃ b o, P = some ⟨b, o, none⟩ ∧ W.cell? ⟨b, o + j, none⟩ = some (.int .i64 L[j]) := by
  obtain ⟨_, _, he, _, _, hr⟩ := h
  cases he
  refine ⟨rfl, fun j hj => ?_⟩
  obtain ⟨b, o, hA, _, hc⟩ := hr j hj
  refine ⟨b, o, hA, ?_⟩
  have := hc 0 _ rfl
  simpa [intK] using this
theorem walls_len {k : WkT} (hb : workB k = true) : (wallsL k).length ≤ 256 := by
  have h16 := (workB_iff.1 hb).2.2.1
  rw [wallsL_ok hb]
  have := wallsTo_len h16 k.cuts.length
  omega
theorem deep_len {k : WkT} (hb : workB k = true) : (deepL k).length ≤ 256 := by
  have h16 := (workB_iff.1 hb).2.2.1
  have e : deepL k = deepTo k k.cuts.length := if_pos hb
  rw [e]
  have := deepTo_len k k.cuts.length
  omega
theorem ext_setBlockW {w W : World} (x : Ext w W) {b : Nat} (o : Obj) (hb : w.heap.size ≤ b) : Ext w (setBlock W b o) := (setBlock_but W b o).below x (fun d hd => by rw [List.mem_singleton] at hd; rw [hd]; exact hb)
theorem ext_ofW {w : World} (δ : BExt w) : Ext w δ.wd := ⟨δ, rfl⟩

set_option maxRecDepth 100000 in
set_option maxHeartbeats 16000000 in
theorem lawWorse_any (k : WkT) (v : Value) (wall play at_ press : Int) (w : World) (hI : CutsIs w v k.cuts) :
    Calls Try.prog 17 #[k.val v, .int .i64 wall, .int .i64 play, .int .i64 at_, .int .i64 press] w fun e w' => e = .returned (.bool true) ∧ Ext w w' := by
  have HAL := Lib.hid fun W : World => alive_any W
  have HG := Lib.hid fun (W : World) (x : Ext w W) => great_any k v W (hI.ext x)
  have HWL := Lib.hid fun (W : World) (x : Ext w W) => walls_any k v W (hI.ext x)
  have HDP := Lib.hid fun (W : World) (x : Ext w W) => deep_any k v W (hI.ext x)
  have HIX := Lib.hid fun (W : World) (x : Ext w W) => hI.ext x
  obtain ⟨A, n, c, rfl⟩ : ∃ A n c, v = .slice A n c := by
    obtain ⟨A, c, h, -⟩ := cutsIs_at hI
    exact ⟨A, _, c, h⟩
  have hnl : n = k.cuts.length := by
    obtain ⟨A, c, h, -⟩ := cutsIs_at hI
    cases h
    rfl
  have HNL := Lib.hid hnl
  clear hI hnl
  have hmm := @run_makeMap Try.prog
  cases hg : greatK k
  case true =>
    rw [hg] at HG
    clear hg
    go_enter Try.func17, Try.ntmps17
    go_wp2_with fail
    refine (HAL.out _).mono ?_
    rintro e W0 ⟨rfl, x0⟩
    have HX0 := Lib.hid (show Ext w W0 from Ext.trans (by (repeat' (first | with_reducible exact Ext.refl _ | with_reducible apply Ext.alloc | with_reducible apply Ext.drew | with_reducible apply Ext.drewN | with_reducible refine Ext.setCell ?_ ?_ _ | with_reducible apply Ext.step | with_reducible assumption | with_reducible exact Nat.le_refl _ | (simp; done) | (simp; omega)))) x0)
    have HA0 := Lib.hid ((WkAt.new k (.slice A n c) w).ext x0)
    obtain ⟨h0, h1, h2, h3, h4, h5, h6, h7, h8, h9, h10, h11, h12⟩ := HA0.out
    have lh0 := cell_lt h0
    clear x0
    go_wp2_with fail
    refine (HG.out _ HX0.out).mono ?_
    rintro e W1 ⟨rfl, x1⟩
    have HX1 := Lib.hid (HX0.out.trans x1)
    clear x1 h0 h1 h2 h3 h4 h5 h6 h7 h8 h9 h10 h11 h12 lh0
    go_wp2_with fail
    go_ret
    exact ⟨rfl, HX1.out⟩
  have HT := Lib.hid fun (W : World) (x : Ext w W) => twin_any k _ W (HIX.out W x) (great_lensW hg).1 (great_lensW hg).2
  rw [hg] at HG
  have hn1000 : n ≤ 1000 := by rw [HNL.out]; exact (great_lensW hg).1
  clear hg
  go_enter Try.func17, Try.ntmps17
  go_wp2_with fail
  refine (HAL.out _).mono ?_
  rintro e W0 ⟨rfl, x0⟩
  have HX0 := Lib.hid (show Ext w W0 from Ext.trans (by (repeat' (first | with_reducible exact Ext.refl _ | with_reducible apply Ext.alloc | with_reducible apply Ext.drew | with_reducible apply Ext.drewN | with_reducible refine Ext.setCell ?_ ?_ _ | with_reducible apply Ext.step | with_reducible assumption | with_reducible exact Nat.le_refl _ | (simp; done) | (simp; omega)))) x0)
  have HA0 := Lib.hid ((WkAt.new k (.slice A n c) w).ext x0)
  obtain ⟨h0, h1, h2, h3, h4, h5, h6, h7, h8, h9, h10, h11, h12⟩ := HA0.out
  have lh0 := cell_lt h0
  clear x0
  go_wp2_with fail
  refine (HG.out _ HX0.out).mono ?_
  rintro e W1 ⟨rfl, x1⟩
  have HX1 := Lib.hid (HX0.out.trans x1)
  have HA1 := Lib.hid (HA0.out.ext x1)
  clear x1 h0 h1 h2 h3 h4 h5 h6 h7 h8 h9 h10 h11 h12 lh0
  obtain ⟨h0, h1, h2, h3, h4, h5, h6, h7, h8, h9, h10, h11, h12⟩ := HA1.out
  have lh0 := cell_lt h0
  go_wp2_with fail
  refine (HT.out _ HX1.out).mono ?_
  rintro e W3 ⟨v', Ts, rfl, ht, x3⟩
  obtain ⟨A2, n2, c2, rfl⟩ := own_shapeW ht.own
  have hn2 : n2 = n := by rw [HNL.out, ← ht.len]; exact twin_len ht.own rfl
  subst hn2
  have HTW := Lib.hid ht
  have HX3 := Lib.hid (HX1.out.trans x3)
  have HY3 := Lib.hid x3
  have HA3 := Lib.hid (HA1.out.ext x3)
  have HB3 := Lib.hid (BoxAt.new W3 #[.int .i64 0, .int .i64 0, .int .i64 0, .int .i64 0, .int .i64 0, .int .i64 0, .int .i64 0, .int .i64 0, .int .i64 0, .int .i64 0, .int .i64 0, .int .i64 0, .slice none 0 0] 59)
  clear ht x3 h0 h1 h2 h3 h4 h5 h6 h7 h8 h9 h10 h11 h12 lh0
  rename_i K2 hK2
  refine hK2 _ _ ?_
  iterate 1 (refine wpList_plain (by rfl) (fun K hK => ?_); go_simp; refine hK _ _ ?_; clear hK K)
  refine wpList_store_row rfl 59 (.tmp 12) (.tmp 40) rfl W3.heap.size _ rfl rfl 59 #[.int .i64 0, .int .i64 0, .int .i64 0, .int .i64 0, .int .i64 0, .int .i64 0, .int .i64 0, .int .i64 0, .int .i64 0, .int .i64 0, .int .i64 0, .int .i64 0, .slice none 0 0] HB3.out (by kernel_rfl) rfl (by simp [Value.oneCell']) ?_
  refine lay_list (fun W => BoxAt W3.heap.size #[.int .i64 k.tip, .int .i64 k.num, .int .i64 k.den, .int .i64 k.bite, .int .i64 k.slack, .int .i64 k.wall, .int .i64 k.deepest, .int .i64 k.play, .int .i64 k.fx, .int .i64 k.fy, .int .i64 k.fh, .int .i64 k.fd, .slice A2 n2 c2] 59 W ∧ Ext W3 W) ⟨BoxAt.setRow HB3.out _, (setRow_but _ _ _).below ((Ext.refl W3).alloc _) (by simp)⟩ ?_
  rintro W4 ⟨hb4, x4⟩
  obtain ⟨x8, hx8⟩ : ∃ x8, x8 = W3.heap.size := ⟨_, rfl⟩
  rw [← hx8] at hb4 ⊢
  have HX8 := Lib.hid hx8
  have hwx8 : w.heap.size < x8 := by rw [hx8]; exact cell_lt HA3.out.1
  have HT4 := Lib.hid (HTW.out.ext x4)
  have HB4 := Lib.hid hb4
  have HX4 := Lib.hid (HX3.out.trans x4)
  have HY4 := Lib.hid (HY3.out.trans x4)
  have HZ4 := Lib.hid x4
  have HA4 := Lib.hid (HA3.out.ext x4)
  have h5 : W4.cell? ⟨w.heap.size, 5, none⟩ = some (.int .i64 k.wall) := HA4.out.2.2.2.2.2.1
  have h7 : W4.cell? ⟨w.heap.size, 7, none⟩ = some (.int .i64 k.play) := HA4.out.2.2.2.2.2.2.2.1
  have b5 := hb4.cell (i := 5) rfl
  have b7 := hb4.cell (i := 7) rfl
  have f5 := frozen_of_row _ _ 5 _ _ hb4
  have f7 := frozen_of_row _ _ 7 _ _ hb4
  have lh5 := cell_lt h5
  have lb5 := cell_lt b5
  have hw3s := HX3.out.bel.size
  clear hb4 x4 hx8
  obtain ⟨mw, hmw⟩ : ∃ z, z = max k.wall wall := ⟨_, rfl⟩
  obtain ⟨mp, hmp⟩ : ∃ z, z = max k.play play := ⟨_, rfl⟩
  have e1 : (if k.wall < wall then wall else k.wall) = mw := by rw [hmw]; omega
  have e2 : (if k.play < play then play else k.play) = mp := by rw [hmp]; omega
  have HMW := Lib.hid (And.intro hmw hmp)
  clear hmw hmp
  go_wp2_with fail
  refine (wpIn_wide (n := 3)).1 ?_
  refine wpIn_region_tree (B := x8) 11 [0, 1, 2, 3, 4, 5, 6, 7, 8] (by rw [HX8.out]; exact HZ4.out.bel.size) (by kernel_rfl) (by kernel_rfl) ?_
  repeat (refine wpQ_step (by rfl) (fun _ _ _ => trivial) (fun K hK => ?_); go_simp; refine hK _ ?_; clear hK K)
  refine wpQ_nil ?_
  change wpAnyT _ _ _ _ _ _ _ _ _ (1 + 1) _ _ _
  refine wpAnyT_step [9] (by kernel_rfl) (by decide) (by decide) ?_
  intro i hi
  simp only [List.mem_cons, List.not_mem_nil, or_false] at hi
  subst hi
  refine ⟨_, by rfl, midT_step (by rfl) (fun _ _ _ => trivial) (fun δ K' hK' => ?_)⟩
  have E1 := Lib.hid (show Ext W4 δ.wd from ⟨δ, rfl⟩)
  replace f5 := E1.out.frozen b5 f5
  replace f7 := E1.out.frozen b7 f7
  replace b5 := E1.out.cell_some b5
  replace b7 := E1.out.cell_some b7
  replace lb5 := cell_lt b5
  go_simp
  refine ⟨(Below.refl _ _).setCell (p := ⟨x8, 5, none⟩) (Nat.le_refl _) _, hK' _ _ ?_⟩
  clear hK' K'
  refine wpAnyT_step [10] (by kernel_rfl) (by decide) (by decide) ?_
  intro i hi
  simp only [List.mem_cons, List.not_mem_nil, or_false] at hi
  subst hi
  refine ⟨_, by rfl, midT_step (by rfl) (fun _ _ _ => trivial) (fun δ2 K' hK' => ?_)⟩
  have E2 := Lib.hid (show Ext (δ.wd.setCell ⟨x8, 5, none⟩ (.int .i64 mw)) δ2.wd from ⟨δ2, rfl⟩)
  go_simp
  refine ⟨Below.refl _ _, hK' _ _ ?_⟩
  clear hK' K'
  refine ⟨by kernel_rfl, fun w6 x6' => ?_⟩
  have x6 := E2.out.trans x6'
  clear x6'
  have HX6 := Lib.hid x6
  have HE4 := Lib.hid E1.out
  replace f7 := x6.frozen ((cell_set_other (.inr (by simp))).trans b7) ((World.frozen?_setCell ..).trans f7)
  replace b7 := x6.cell_some ((cell_set_other (.inr (by simp))).trans b7)
  replace lb5 := cell_lt b7
  clear x6 b5 f5 h5 h7 lh5
  simp only [List.drop_succ_cons, List.drop_zero]
  gi_wp2
  go_upto_region 6 with fail
  refine lay_wp (fun W => TwinM k W1.heap.size W1 W (.slice A2 n2 c2) Ts k.cuts.length ∧ (∀ cs, BoxAt x8 #[.int .i64 (worseK k wall play cs).tip, .int .i64 (worseK k wall play cs).num, .int .i64 (worseK k wall play cs).den, .int .i64 (worseK k wall play cs).bite, .int .i64 (worseK k wall play cs).slack, .int .i64 (worseK k wall play cs).wall, .int .i64 (worseK k wall play cs).deepest, .int .i64 (worseK k wall play cs).play, .int .i64 (worseK k wall play cs).fx, .int .i64 (worseK k wall play cs).fy, .int .i64 (worseK k wall play cs).fh, .int .i64 (worseK k wall play cs).fd, .slice A2 n2 c2] 59 W) ∧ Ext W1 W) ⟨?_, ?_, ?_⟩ ?_
  · exact twin_other ((twin_other (HT4.out.ext HE4.out) (HB4.out.ext HE4.out) 5 _).ext HX6.out) ((HB4.out.ext HE4.out).setCell 5 (.int .i64 mw) |>.ext HX6.out) 7 _
  · intro cs
    have hx6 := HX6.out
    rw [HMW.out.1] at hx6
    rw [HMW.out.2]
    exact box_wk2 (HB4.out.ext HE4.out) wall play cs hx6
  · exact ((((HY4.out.trans HE4.out).setCell (p := ⟨x8, 5, none⟩) (by rw [HX8.out]; exact HY3.out.bel.size) _).trans HX6.out).setCell (p := ⟨x8, 7, none⟩) (by rw [HX8.out]; exact HY3.out.bel.size) _)
  clear b7 f7 lb5
  rintro W5 ⟨ht5, hb5, x5⟩
  have HT5 := Lib.hid ht5
  have HB5 := Lib.hid hb5
  have HX5 := Lib.hid x5
  have HA5 := Lib.hid (HA1.out.ext x5)
  have hbx := hb5 k.cuts
  have h12 := hbx.cell (i := 12) rfl
  have lh12 := cell_lt h12
  clear ht5 hb5 x5 hbx
  have hcase : (∃ i : Nat, at_ = (i : Int) ∧ i < n2) ∨ (at_ < 0 ∨ ((0 ≤ at_) ∧ (n2 : Int) ≤ at_)) := by
    rcases Int.lt_or_le at_ 0 with h | h
    · exact .inr (.inl h)
    · rcases Int.lt_or_le at_ (n2 : Int) with h2 | h2
      · exact .inl ⟨at_.toNat, by omega, by omega⟩
      · exact .inr (.inr ⟨h, h2⟩)
  rcases hcase with ⟨i, rfl, hi⟩ | h | ⟨h, h2⟩
  case' refine_4.inl =>
    have hiT : i < Ts.length := by have := twin_len HT5.out.own rfl; omega
    have hik : i < k.cuts.length := by rw [← HNL.out]; exact hi
    obtain ⟨g, cg, he, hg1, hg2, hcl, hfr⟩ := HT5.out.own.slot hiT
    simp only [Value.slice.injEq] at he
    obtain ⟨rfl, -, rfl⟩ := he
    have r1 : W5.cell? ⟨g, i * 3 + 1, none⟩ = some (.int .i64 Ts[i].2.1) := hcl 1 _ rfl
    have f1 := hfr (i * 3 + 1)
    rw [HT5.out.rest i hiT hik] at r1
    have HTP := Lib.hid fun p : Int => HT5.out.press hiT hik p
    have HGX := Lib.hid (show x8 ≠ g ∧ W1.heap.size ≤ g from ⟨fun e => HT5.out.own.box_ne (HB5.out k.cuts) (by decide) (by simp [Value.ownBlock, e]), hg1⟩)
    have lr1 := cell_lt r1
    obtain ⟨op, hop⟩ : ∃ op, op = k.cuts[i].2.1 := ⟨_, rfl⟩
    rw [← hop] at r1
    obtain ⟨mq, hmq⟩ : ∃ z, z = max op press := ⟨_, rfl⟩
    have e3 : (if op < press then press else op) = mq := by rw [hmq]; omega
    have HMQ := Lib.hid (show MoreIs k (k.cuts.set i (k.cuts[i].1, mq, k.cuts[i].2.2)) from MoreIs.press hik (by rw [← hop, hmq]; omega))
    have hii : (i : Int) < (n2 : Int) := by omega
    clear hcl hfr hop hmq hg1 hg2
    go_upto_region 7 with fail
    refine wp_region_still_tail 13 (by kernel_rfl) (by kernel_rfl) ?_
    simp only [List.take_succ_cons, List.take_zero, List.drop_succ_cons, List.drop_zero]
    repeat (refine wpStill_step (fun K hK => ?_); go_simp; (try go_bits); refine hK _ ?_; clear hK K)
    refine wpStill_nil ?_
    change wpList _ _ _ _ _ W5.drew
    go_upto_region 8 with fail
    refine lay_wp (fun W => ∃ cs sv, CutsIs W sv cs ∧ MoreIs k cs ∧ BoxAt x8 #[.int .i64 (worseK k wall play cs).tip, .int .i64 (worseK k wall play cs).num, .int .i64 (worseK k wall play cs).den, .int .i64 (worseK k wall play cs).bite, .int .i64 (worseK k wall play cs).slack, .int .i64 (worseK k wall play cs).wall, .int .i64 (worseK k wall play cs).deepest, .int .i64 (worseK k wall play cs).play, .int .i64 (worseK k wall play cs).fx, .int .i64 (worseK k wall play cs).fy, .int .i64 (worseK k wall play cs).fh, .int .i64 (worseK k wall play cs).fd, sv] 59 W ∧ Ext W1 W) ⟨_, _, ((HTP.out mq).cuts).ext (Ext.refl _).drew, HMQ.out, ((HB5.out _).setOther (p := ⟨g, i * 3 + 1, none⟩) HGX.out.1 _).ext (Ext.refl _).drew, (HX5.out.setCell (p := ⟨g, i * 3 + 1, none⟩) HGX.out.2 _).drew⟩ ?_
    clear HTP HGX HMQ r1 f1 lr1 e3 hii
  case' refine_4.inr.inl =>
    go_upto_region 8 with fail
    refine lay_wp (fun W => ∃ cs sv, CutsIs W sv cs ∧ MoreIs k cs ∧ BoxAt x8 #[.int .i64 (worseK k wall play cs).tip, .int .i64 (worseK k wall play cs).num, .int .i64 (worseK k wall play cs).den, .int .i64 (worseK k wall play cs).bite, .int .i64 (worseK k wall play cs).slack, .int .i64 (worseK k wall play cs).wall, .int .i64 (worseK k wall play cs).deepest, .int .i64 (worseK k wall play cs).play, .int .i64 (worseK k wall play cs).fx, .int .i64 (worseK k wall play cs).fy, .int .i64 (worseK k wall play cs).fh, .int .i64 (worseK k wall play cs).fd, sv] 59 W ∧ Ext W1 W) ⟨_, _, HT5.out.cuts, MoreIs.refl k, HB5.out _, HX5.out⟩ ?_
  case' refine_4.inr.inr =>
    have h2' : ¬ at_ < (n2 : Int) := by omega
    go_upto_region 8 with fail
    refine lay_wp (fun W => ∃ cs sv, CutsIs W sv cs ∧ MoreIs k cs ∧ BoxAt x8 #[.int .i64 (worseK k wall play cs).tip, .int .i64 (worseK k wall play cs).num, .int .i64 (worseK k wall play cs).den, .int .i64 (worseK k wall play cs).bite, .int .i64 (worseK k wall play cs).slack, .int .i64 (worseK k wall play cs).wall, .int .i64 (worseK k wall play cs).deepest, .int .i64 (worseK k wall play cs).play, .int .i64 (worseK k wall play cs).fx, .int .i64 (worseK k wall play cs).fy, .int .i64 (worseK k wall play cs).fh, .int .i64 (worseK k wall play cs).fd, sv] 59 W ∧ Ext W1 W) ⟨_, _, HT5.out.cuts, MoreIs.refl k, HB5.out _, HX5.out⟩ ?_
  all_goals
    rintro W8 ⟨cs, sv, hci, hmo, hbx, hx8'⟩
    obtain ⟨A3, c3, hsv, -⟩ := cutsIs_at hci
    obtain ⟨n3, hn3⟩ : ∃ z, z = cs.length := ⟨_, rfl⟩
    rw [← hn3] at hsv
    subst hsv
    obtain ⟨k', hk'⟩ : ∃ z, z = worseK k wall play cs := ⟨_, rfl⟩
    have hcik : CutsIs W8 (.slice A3 n3 c3) k'.cuts := by rw [hk']; exact hci
    have hws : WorseIs k k' := by rw [hk']; exact hmo.worse wall play
    rw [← hk'] at hbx
    have HWS := Lib.hid hws
    have HCK := Lib.hid fun (W : World) (x : Ext W8 W) => hcik.ext x
    have HW8 := Lib.hid (WkAt.box hbx)
    have HX8' := Lib.hid (HX1.out.trans hx8')
    have HA8 := Lib.hid (HA1.out.ext hx8')
    have HE1 := Lib.hid fun (W : World) (x : Ext W8 W) => HWL.out W (HX8'.out.trans x)
    have HE2 := Lib.hid fun (W : World) (x : Ext W8 W) => walls_any k' (.slice A3 n3 c3) W (hcik.ext x)
    have HE3 := Lib.hid fun (W : World) (x : Ext W8 W) => HDP.out W (HX8'.out.trans x)
    have HE4 := Lib.hid fun (W : World) (x : Ext W8 W) => deep_any k' (.slice A3 n3 c3) W (hcik.ext x)
    obtain ⟨ea, hea⟩ : ∃ z, z = workE k := ⟨_, rfl⟩
    obtain ⟨eb, heb⟩ : ∃ z, z = workE k' := ⟨_, rfl⟩
    rw [← hea] at HE1 HE3
    rw [← heb] at HE2 HE4
    have HER := Lib.hid (And.intro hea heb)
    try clear h
    try clear h2 h2'
    clear hci hmo hbx hx8' hn3 hk' hcik hws hea heb h12 lh12
    obtain ⟨h0, h1, h2, h3, h4, h5, h6, h7, h8, h9, h10, h11, h12⟩ := HA8.out
    have lh0 := cell_lt h0
    go_wp2_with fail
    refine (HE1.out _ (Ext.refl _)).mono ?_
    rintro e W9 ⟨u1, rfl, o1, x9⟩
    obtain ⟨P1, m1, q1, rfl⟩ := own_shapeW o1
    have HO1 := Lib.hid o1
    have HX9 := Lib.hid x9
    clear o1 x9 h0 h1 h2 h3 h4 h5 h6 h7 h8 h9 h10 h11 h12 lh0
    obtain ⟨h0, h1, h2, h3, h4, h5, h6, h7, h8, h9, h10, h11, h12⟩ := HW8.out.ext HX9.out
    have lh0 := cell_lt h0
    go_wp2_with fail
    refine (HE2.out _ HX9.out).mono ?_
    rintro e W10 ⟨u2, rfl, o2, x10⟩
    obtain ⟨P2, m2, q2, rfl⟩ := own_shapeW o2
    have HO2 := Lib.hid o2
    have HO1' := Lib.hid (HO1.out.ext x10)
    have HX10 := Lib.hid (HX9.out.trans x10)
    clear o2 x10 h0 h1 h2 h3 h4 h5 h6 h7 h8 h9 h10 h11 h12 lh0
    obtain ⟨h0, h1, h2, h3, h4, h5, h6, h7, h8, h9, h10, h11, h12⟩ := HA8.out.ext HX10.out
    have lh0 := cell_lt h0
    go_wp2_with fail
    refine (HE3.out _ HX10.out).mono ?_
    rintro e W11 ⟨u3, rfl, o3, x11⟩
    obtain ⟨P3, m3, q3, rfl⟩ := own_shapeW o3
    have HO3 := Lib.hid o3
    have HO12 := Lib.hid (And.intro (HO1'.out.ext x11) (HO2.out.ext x11))
    have HX11 := Lib.hid (HX10.out.trans x11)
    clear o3 x11 h0 h1 h2 h3 h4 h5 h6 h7 h8 h9 h10 h11 h12 lh0
    obtain ⟨h0, h1, h2, h3, h4, h5, h6, h7, h8, h9, h10, h11, h12⟩ := HW8.out.ext HX11.out
    have lh0 := cell_lt h0
    go_wp2_with fail
    refine (HE4.out _ HX11.out).mono ?_
    rintro e W12 ⟨u4, rfl, o4, x12⟩
    obtain ⟨P4, m4, q4, rfl⟩ := own_shapeW o4
    have HOO := Lib.hid (And.intro ((HO12.out.1.ext x12).is) (And.intro ((HO12.out.2.ext x12).is) (And.intro ((HO3.out.ext x12).is) o4.is)))
    have HX12 := Lib.hid (HX8'.out.trans (HX11.out.trans x12))
    have HX12' := Lib.hid x12
    clear o4 x12 h0 h1 h2 h3 h4 h5 h6 h7 h8 h9 h10 h11 h12 lh0 HO1 HO1' HO2 HO12 HO3
    obtain ⟨hea, heb⟩ := HER.out
    cases hb : workB k
    case false =>
      have he : ea = 51 := hea.trans (workE_no hb)
      subst he
      by_cases h0 : eb = 0
      · subst h0
        clear hea heb hb
        go_wp2_with fail
        go_ret
        exact ⟨rfl, HX12.out⟩
      · have hbb : (eb != 0) = true := by simpa using h0
        clear hea heb hb h0
        go_wp2_with fail
        go_ret
        exact ⟨rfl, HX12.out⟩
    have he : ea = 0 := hea.trans (workE_ok hb)
    subst he
    cases hb' : workB k'
    case false =>
      have he : eb = 51 := heb.trans (workE_no hb')
      subst he
      clear hea heb hb hb'
      go_wp2_with fail
      go_ret
      exact ⟨rfl, HX12.out⟩
    have he : eb = 0 := heb.trans (workE_ok hb')
    subst he
    have HWA := Lib.hid (worse_walls HWS.out hb hb')
    have HDA := Lib.hid (worse_deep HWS.out hb hb')
    obtain ⟨e1', r1'⟩ := pair_rows HOO.out.1
    obtain ⟨e2', r2'⟩ := pair_rows HOO.out.2.1
    obtain ⟨e3', r3'⟩ := int_rows HOO.out.2.2.1
    obtain ⟨e4', r4'⟩ := int_rows HOO.out.2.2.2
    have l1' : m1 ≤ 256 := by rw [e1']; exact walls_len hb
    have l2' : m2 ≤ 256 := by rw [e2']; exact walls_len hb'
    have l3' : m3 ≤ 256 := by rw [e3']; exact deep_len hb
    have l4' : m4 ≤ 256 := by rw [e4']; exact deep_len hb'
    have HE := Lib.hid (And.intro e1' (And.intro e2' (And.intro e3' e4')))
    have HR1 := Lib.hid r1'
    have HR2 := Lib.hid r2'
    have HR3 := Lib.hid r3'
    have HR4 := Lib.hid r4'
    generalize wallsL k = LA at *
    generalize wallsL k' = LB at *
    generalize deepL k = DA at *
    generalize deepL k' = DB at *
    clear e1' e2' e3' e4' r1' r2' r3' r4' hea heb hb hb' HOO
    go_wp2_with fail
    obtain ⟨mb, hmb⟩ : ∃ z, z = W12.heap.size := ⟨_, rfl⟩
    refine lay_wp (fun W => mapPB.At W12.heap.size (fun _ => false) W ∧ mapIB.At (W12.heap.size + 1) (fun _ => false) W ∧ Ext W12 W) ⟨?_, ?_, ?_⟩ ?_
    · exact (MK.At.new (G := mapPB) W12).ext (Ext.of ((Below.refl _ _).alloc (Nat.le_refl _) _))
    · have := MK.At.new (G := mapIB) (W12.alloc (.map #[] 0))
      rwa [World.size_alloc] at this
    · exact Ext.of (((Below.refl _ _).alloc (Nat.le_refl _) _).alloc (by simp) _)
    rw [← hmb]
    rintro W13 ⟨hp13, hi13, x13⟩
    have HMB := Lib.hid hmb
    have HP13 := Lib.hid hp13
    have HI13 := Lib.hid hi13
    have HX13 := Lib.hid x13
    clear hmb hp13 hi13 x13
    go_loopw [122] (fun iv W => ∃ j : Nat, j ≤ m2 ∧ iv = .int .i64 (j : Int) ∧ mapPB.At mb (fun p => memB (LB.take j) p) W ∧ mapIB.At (mb + 1) (fun _ => false) W ∧ Ext W12 W) (fun iv _ => m2 - (intOf iv).toNat)
    case atStart => exact ⟨0, by omega, rfl, HP13.out.congr (fun p => by rw [List.take_zero]; rfl), HI13.out, HX13.out⟩
    case round =>
      obtain ⟨j, hj, rfl, hmp, hmi, hx⟩ := hrel
      have HMP := Lib.hid hmp
      have HMI := Lib.hid hmi
      have HXJ := Lib.hid hx
      clear hmp hmi
      by_cases hlt : j < m2
      · have hjl : j < LB.length := by rw [← HE.out.2.1]; exact hlt
        obtain ⟨b1, o1, rfl, c0, c1⟩ := HR2.out j hjl
        have HTS := Lib.hid fun p => take_set LB hjl p
        replace c0 := hx.cell_some c0
        replace c1 := hx.cell_some c1
        have lc0 := cell_lt c0
        obtain ⟨pp, hpp⟩ : ∃ z, z = LB[j] := ⟨_, rfl⟩
        rw [← hpp] at c0 c1 HTS
        obtain ⟨pa, pb⟩ := pp
        simp only at c0 c1
        have hji : (j : Int) < (m2 : Int) := by omega
        obtain ⟨wo, rfl⟩ : ∃ wo, wo = wr := ⟨_, rfl⟩
        clear hpp hx
        go_upto_region 18 with fail
        refine lay_wp (fun W => BoxAt wo.heap.size #[.int .i64 pa, .int .i64 pb] 91 W ∧ Ext wo W) ⟨BoxAt.new wo _ _, (Ext.refl _).alloc _⟩ ?_
        rintro W14 ⟨hb14, x14⟩
        obtain ⟨ob, hup0, hat⟩ := (HMP.out.ext x14).put (pa, pb) true
        have hup : (Instr.mapUpdate 92 (.map (some mb)) (.agg #[.int .i64 pa, .int .i64 pb]) (.bool true)).run Try.prog W14 = .ok () (setBlock W14 mb ob) := hup0
        have HAT := Lib.hid hat
        have HX14 := Lib.hid (HXJ.out.trans x14)
        have HI14 := Lib.hid ((HMI.out.ext x14).but (setBlock_but W14 mb ob) (by simp))
        have p0 := hb14.cell (i := 0) rfl
        have p1 := hb14.cell (i := 1) rfl
        have lp0 := cell_lt p0
        clear c0 c1 lc0 hb14 x14 hup0 hat
        go_wp2_with fail
        go_roundw
        case rel => exact ⟨j + 1, by omega, by go_num, HAT.out.congr HTS.out, HI14.out, ext_setBlockW HX14.out _ (by rw [HMB.out]; exact Nat.le_refl _)⟩
        case measure => simp [intOf]; omega
      · obtain rfl : j = m2 := by omega
        have HMP2 := Lib.hid (show mapPB.At mb (fun p => memB LB p) wr by have := HMP.out; rwa [List.take_of_length_le (by rw [HE.out.2.1]; exact Nat.le_refl _)] at this)
        obtain ⟨wp, rfl⟩ : ∃ wp, wp = wr := ⟨_, rfl⟩
        clear hx HMP
        go_wp2_with fail
        go_loopw [131] (fun iv W => ∃ j : Nat, j ≤ m4 ∧ iv = .int .i64 (j : Int) ∧ mapPB.At mb (fun p => memB LB p) W ∧ mapIB.At (mb + 1) (fun p => memB (DB.take j) p) W ∧ Ext W12 W) (fun iv _ => m4 - (intOf iv).toNat)
        case atStart => exact ⟨0, by omega, rfl, HMP2.out, HMI.out.congr (fun p => by rw [List.take_zero]; rfl), HXJ.out⟩
        case round =>
          obtain ⟨i2, hj2, rfl, hmp, hmi, hx⟩ := hrel
          have HMP3 := Lib.hid hmp
          have HMI3 := Lib.hid hmi
          have HXK := Lib.hid hx
          clear hmp hmi
          by_cases hlt2 : i2 < m4
          · have hjl : i2 < DB.length := by rw [← HE.out.2.2.2]; exact hlt2
            obtain ⟨b1, o1, rfl, c0⟩ := HR4.out i2 hjl
            have HTS := Lib.hid fun p => take_set DB hjl p
            replace c0 := hx.cell_some c0
            have lc0 := cell_lt c0
            obtain ⟨y, hy⟩ : ∃ z, z = DB[i2] := ⟨_, rfl⟩
            rw [← hy] at c0 HTS
            obtain ⟨ob, hup0, hat⟩ := HMI3.out.put y true
            have hup : (Instr.mapUpdate 93 (.map (some (mb + 1))) (.int .i64 y) (.bool true)).run Try.prog wr = .ok () (setBlock wr (mb + 1) ob) := hup0
            have HAT := Lib.hid hat
            have HP3 := Lib.hid (HMP3.out.but (setBlock_but wr (mb + 1) ob) (by simp))
            have hji : (i2 : Int) < (m4 : Int) := by omega
            clear hy hx hup0 hat
            go_wp2_with fail
            go_roundw
            case rel => exact ⟨i2 + 1, by omega, by go_num, HP3.out, HAT.out.congr HTS.out, ext_setBlockW HXK.out _ (by rw [HMB.out]; exact Nat.le_succ _)⟩
            case measure => simp [intOf]; omega
          · obtain rfl : i2 = m4 := by omega
            have HMI4 := Lib.hid (show mapIB.At (mb + 1) (fun p => memB DB p) wr by have := HMI3.out; rwa [List.take_of_length_le (by rw [HE.out.2.2.2]; exact Nat.le_refl _)] at this)
            obtain ⟨wm, rfl⟩ : ∃ wm, wm = wr := ⟨_, rfl⟩
            clear hx HMI3
            go_wp2_with fail
            go_loopw [140] (fun iv W => ∃ j : Nat, j ≤ m1 ∧ iv = .int .i64 (j : Int) ∧ Ext wm W) (fun iv _ => m1 - (intOf iv).toNat)
            case atStart => exact ⟨0, by omega, rfl, Ext.refl _⟩
            case round =>
              obtain ⟨i3, hj3, rfl, hx⟩ := hrel
              have HXL := Lib.hid hx
              by_cases hlt3 : i3 < m1
              · have hjl : i3 < LA.length := by rw [← HE.out.1]; exact hlt3
                obtain ⟨b1, o1, rfl, c0, c1⟩ := HR1.out i3 hjl
                obtain ⟨hin, hab⟩ := HWA.out LA[i3] (List.getElem_mem hjl)
                replace c0 := (HXK.out.trans hx).cell_some c0
                replace c1 := (HXK.out.trans hx).cell_some c1
                have lc0 := cell_lt c0
                obtain ⟨pp, hpp⟩ : ∃ z, z = LA[i3] := ⟨_, rfl⟩
                rw [← hpp] at c0 c1 hin hab
                obtain ⟨pa, pb⟩ := pp
                simp only at c0 c1 hab
                have hji : (i3 : Int) < (m1 : Int) := by omega
                obtain ⟨wo, rfl⟩ : ∃ wo, wo = wr := ⟨_, rfl⟩
                clear hpp hx
                go_upto_region 28 with fail
                refine lay_wp (fun W => BoxAt wo.heap.size #[.int .i64 pa, .int .i64 pb] 91 W ∧ Ext wo W) ⟨BoxAt.new wo _ _, (Ext.refl _).alloc _⟩ ?_
                rintro W14 ⟨hb14, x14⟩
                have hlk0 := (HMP3.out.ext (HXL.out.trans x14)).look (pa, pb)
                have hlk : (Instr.lookup 92 (.map (some mb)) (.agg #[.int .i64 pa, .int .i64 pb]) false).run Try.prog W14 = .ok (.bool true) W14 := by
                  have e : memB LB (pa, pb) = true := memB_iff.2 hin
                  rw [show (mapPB.val (memB LB (pa, pb))) = Value.bool true by rw [e]; rfl] at hlk0
                  exact hlk0
                have HX14 := Lib.hid (HXL.out.trans x14)
                have p0 := hb14.cell (i := 0) rfl
                have p1 := hb14.cell (i := 1) rfl
                have lp0 := cell_lt p0
                have hnab : ¬ pb ≤ pa := by omega
                clear c0 c1 lc0 hb14 x14 hlk0 hin hab
                go_wp2_with fail
                go_roundw
                case rel => exact ⟨i3 + 1, by omega, by go_num, HX14.out⟩
                case measure => simp [intOf]; omega
              · obtain rfl : i3 = m1 := by omega
                obtain ⟨wn, rfl⟩ : ∃ wn, wn = wr := ⟨_, rfl⟩
                clear hx
                go_wp2_with fail
                go_loopw [158] (fun iv W => ∃ j : Nat, j ≤ m3 ∧ iv = .int .i64 (j : Int) ∧ Ext wn W) (fun iv _ => m3 - (intOf iv).toNat)
                case atStart => exact ⟨0, by omega, rfl, Ext.refl _⟩
                case round =>
                  obtain ⟨i4, hj4, rfl, hx⟩ := hrel
                  have HXM := Lib.hid hx
                  by_cases hlt4 : i4 < m3
                  · have hjl : i4 < DA.length := by rw [← HE.out.2.2.1]; exact hlt4
                    obtain ⟨b1, o1, rfl, c0⟩ := HR3.out i4 hjl
                    have hin := HDA.out DA[i4] (List.getElem_mem hjl)
                    replace c0 := ((HXK.out.trans HXL.out).trans hx).cell_some c0
                    have lc0 := cell_lt c0
                    obtain ⟨y, hy⟩ : ∃ z, z = DA[i4] := ⟨_, rfl⟩
                    rw [← hy] at c0 hin
                    have hlk0 := (HMI4.out.ext (HXL.out.trans hx)).look y
                    have hlk : (Instr.lookup 93 (.map (some (mb + 1))) (.int .i64 y) false).run Try.prog wr = .ok (.bool true) wr := by
                      have e : memB DB y = true := memB_iff.2 hin
                      rw [show (mapIB.val (memB DB y)) = Value.bool true by rw [e]; rfl] at hlk0
                      exact hlk0
                    have hji : (i4 : Int) < (m3 : Int) := by omega
                    clear hy hx hlk0 hin
                    go_wp2_with fail
                    go_roundw
                    case rel => exact ⟨i4 + 1, by omega, by go_num, HXM.out⟩
                    case measure => simp [intOf]; omega
                  · clear hx
                    go_wp2_with fail
                    go_ret
                    exact ⟨rfl, HX8'.out.trans (HX11.out.trans (HX12'.out.trans (HXK.out.trans (HXL.out.trans HXM.out))))⟩
end Go.Proofs.Ytgeapenglcohfaa
