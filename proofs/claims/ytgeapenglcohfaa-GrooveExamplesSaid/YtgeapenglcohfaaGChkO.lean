/- groove.CheckOrder. Condition: the work's cuts and the list read. -/
import Derived.Test.YtgeapenglcohfaaGProofP
namespace Go.Proofs.Ytgeapenglcohfaa
open Go.RowKit Go.Shelf
attribute [local go_sem] Oper.semAt_some

def chkOE (k : WkT) (l : List Int) : Int := if workB k then (if orderMB (ruleM k) k.cuts.length l then 0 else 53) else 51
/-- A rule is kept. -/
def keepB (l : List Int) (p : Nat × Nat) : Bool := !decide (ixI l (p.2 : Nat) < ixI l (p.1 : Nat))
theorem all_take_succ {α : Type} (f : α → Bool) (L : List α) {c : Nat} (h : c < L.length) : (L.take (c + 1)).all f = ((L.take c).all f && f L[c]) := by
  rw [List.take_succ_eq_append_getElem h, List.all_append]
  simp
/-- After c rules; .. where one is not kept. -/
def ChkI (M : Nat → Nat → Bool) (l : List Int) (w2 : World) (b : Nat) (c : Nat) (W : World) : Prop := ((prsL M).take c).all (keepB l) = true ∧ BoxAt b #[.int .i64 0] 24 W ∧ But [b] w2 W
def ChkX (M : Nat → Nat → Bool) (l : List Int) (w2 : World) (b : Nat) (W : World) : Prop := (prsL M).all (keepB l) = false ∧ BoxAt b #[.int .i64 53] 24 W ∧ But [b] w2 W
theorem box_grown {b B : Nat} {cs : Array Value} {T : TypeId} {W W' : World} {row : Option Nat} (h2 : BoxAt b cs T W) (hg : W.grownBy W' row) (hr : ∀ r, row = some r → B ≤ r ∧ ∃ o : Obj, W.heap[r]? = some o ∧ o.isCells = false) : BoxAt b cs T W' := by
  obtain ⟨_, _, _, _, hb⟩ := hg
  refine (hb b h2.lt fun e => ?_).trans h2
  obtain ⟨_, o, ho, hc⟩ := hr b e.symm
  rw [h2] at ho
  cases ho
  cases hc
theorem ChkI.own {M : Nat → Nat → Bool} {l : List Int} {w2 : World} {b : Nat} : OwnFrom w2.heap.size (fun (c : Nat) W => ChkI M l w2 b c W) := fun _ _ _ _ hs hg hr => by
  obtain ⟨h1, h2, h3⟩ := hs
  exact ⟨h1, box_grown h2 hg hr, h3.grown hg (fun r e => .inr (hr r e).1)⟩
theorem ChkX.own {M : Nat → Nat → Bool} {l : List Int} {w2 : World} {b : Nat} : OwnFrom w2.heap.size (fun (_ : Unit) W => ChkX M l w2 b W) := fun _ _ _ _ hs hg hr => by
  obtain ⟨h1, h2, h3⟩ := hs
  exact ⟨h1, box_grown h2 hg hr, h3.grown hg (fun r e => .inr (hr r e).1)⟩
theorem IsI.butx {g : Nat} {w w2 W : World} {v : Value} {l : List Int} (h : IsI w v l) (x : Ext w w2) (hb : But [g] w2 W) (hg : w.heap.size ≤ g) : IsI W v l := by
  obtain ⟨A, c, rfl, h0, hc, hr⟩ := h
  refine ⟨A, c, rfl, h0, hc, ⟨rfl, hr.max, fun k hk => ?_⟩⟩
  obtain ⟨b, o, hA, hlt, hcell⟩ := hr.at_ k hk
  exact ⟨b, o, hA, Nat.lt_of_lt_of_le hlt (Nat.le_trans x.bel.size hb.size), hb.cell (x.cell_some hcell) (by simp; omega)⟩
theorem index_ext (v : Value) (l : List Int) (x : Int) (w : World) (hI : IsI w v l) :
    Calls Try.prog 87 #[v, .int .i64 x] w fun e w' => e = .returned (.int .i64 (ixI l x)) ∧ Ext w w' :=
  (indexI_any v l x w hI).mono fun _ _ h => ⟨h.1, h.2 ▸ Ext.refl _⟩

/-- Behind the making of the boxes: the cell of the result. -/
theorem chk_store {W : World} {b : Nat} {z : Int} (h : BoxAt b #[.int .i64 z] 24 W) (y : Int) : (W.setCell ⟨b, 0, none⟩ (.int .i64 y)).cell? ⟨b, 0, none⟩ = some (.int .i64 y) := cell_set_same (h.cell (i := 0) rfl)

set_option maxRecDepth 100000 in
set_option maxHeartbeats 4000000 in
theorem checkOrder_any (k : WkT) (v : Value) (u : Value) (l : List Int) (w : World) (hI : CutsIs w v k.cuts) (hJ : IsI w u l) :
    Calls Try.prog 43 #[k.val v, u] w fun e w' => e = .returned (.int .i64 (chkOE k l)) ∧ Ext w w' := by
  obtain ⟨A, c, rfl, -⟩ := cutsIs_at hI
  cases hb : workB k
  · have HW := Lib.hid fun (W : World) (x : Ext w W) => check_no (k := k) (hI.ext x) hb
    have HR := Lib.hid (show chkOE k l = 51 from if_neg (by rw [hb]; exact Bool.false_ne_true))
    obtain ⟨A', n', c', rfl, -⟩ := hJ.open_
    clear hb hI hJ
    go_enter Try.func43, Try.ntmps43
    go_wp2_with fail
    refine (HW.out _ (by (repeat' (first | with_reducible exact Ext.refl _ | with_reducible apply Ext.alloc | with_reducible apply Ext.drew | with_reducible apply Ext.drewN | with_reducible refine Ext.setCell ?_ ?_ _ | with_reducible apply Ext.step | with_reducible assumption | with_reducible exact Nat.le_refl _ | (simp; done) | (simp; omega))))).mono ?_
    rintro e W1 ⟨rfl, x1⟩
    have HX1 := Lib.hid (show Ext w W1 from Ext.trans (by (repeat' (first | with_reducible exact Ext.refl _ | with_reducible apply Ext.alloc | with_reducible apply Ext.drew | with_reducible apply Ext.drewN | with_reducible refine Ext.setCell ?_ ?_ _ | with_reducible apply Ext.step | with_reducible assumption | with_reducible exact Nat.le_refl _ | (simp; done) | (simp; omega)))) x1)
    have hbx := (BoxAt.new _ #[.int .i64 0] 24).ext x1
    simp only [World.size_alloc] at hbx
    have c4 := hbx.cell (i := 0) rfl
    have f4 := frozen_of_row _ _ 0 _ _ hbx
    have l4 := cell_lt c4
    have z0 := chk_store hbx 51
    clear x1 hbx
    go_wp2_with fail
    exact bodyPost_ret (v := .int .i64 51) (by simp [results, Try.results43, go_sem, z0]) rfl ⟨by rw [HR.out], HX1.out.setCell (by simp <;> omega) _⟩
  have HW := Lib.hid fun (W : World) (x : Ext w W) => check_ok (k := k) (hI.ext x) hb
  have HS := Lib.hid fun (W : World) (x : Ext w W) => rulesOf_any k _ W (hI.ext x) hb
  obtain ⟨_, _, h16, _⟩ := workB_iff.1 hb
  have HDI := Lib.hid fun (W : World) (x : Ext w W) => different_any u l k.cuts.length W (hJ.ext x) h16
  have HR := Lib.hid (show chkOE k l = if orderMB (ruleM k) k.cuts.length l then 0 else 53 from if_pos hb)
  have HOB := Lib.hid (show orderMB (ruleM k) k.cuts.length l = ((decide (l.length = k.cuts.length) && diffB l k.cuts.length) && (prsL (ruleM k)).all (keepB l)) from rfl)
  obtain ⟨n, hn⟩ : ∃ n, n = k.cuts.length := ⟨_, rfl⟩
  obtain ⟨M, hM⟩ : ∃ M, M = ruleM k := ⟨_, rfl⟩
  rw [← hn] at HW HS HDI h16 HOB HR ⊢
  rw [← hM] at HOB HS HR
  have HJ := Lib.hid hJ
  obtain ⟨A', m, c', rfl, -, hr, hmm⟩ := hJ.open_
  have HQ := Lib.hid hr
  have HLN := Lib.hid hr.len
  rw [hr.len] at HOB
  clear hb hn hI hM hJ hr
  by_cases hmn : m = n
  case neg =>
    have HF := Lib.hid (show chkOE k l = 53 by rw [HR.out, HOB.out, decide_eq_false hmn]; rfl)
    have q1 : ((m : Int) != (n : Int)) = true := by simp; omega
    clear hmn
    go_enter Try.func43, Try.ntmps43
    go_wp2_with fail
    refine (HW.out _ (by (repeat' (first | with_reducible exact Ext.refl _ | with_reducible apply Ext.alloc | with_reducible apply Ext.drew | with_reducible apply Ext.drewN | with_reducible refine Ext.setCell ?_ ?_ _ | with_reducible apply Ext.step | with_reducible assumption | with_reducible exact Nat.le_refl _ | (simp; done) | (simp; omega))))).mono ?_
    rintro e W1 ⟨rfl, x1⟩
    have HX1 := Lib.hid (show Ext w W1 from Ext.trans (by (repeat' (first | with_reducible exact Ext.refl _ | with_reducible apply Ext.alloc | with_reducible apply Ext.drew | with_reducible apply Ext.drewN | with_reducible refine Ext.setCell ?_ ?_ _ | with_reducible apply Ext.step | with_reducible assumption | with_reducible exact Nat.le_refl _ | (simp; done) | (simp; omega)))) x1)
    obtain ⟨h0, h1, h2, h3, h4, h5, h6, h7, h8, h9, h10, h11, h12⟩ := (WkAt.new k (.slice A n c) w).ext (Ext.trans (Ext.alloc (Ext.alloc (Ext.refl _) _) _) x1)
    have lh12 := cell_lt h12
    have d3 : W1.cell? ⟨w.heap.size + 1, 0, none⟩ = some (.slice A' m c') := x1.cell_some (by go_cell)
    have l3 := cell_lt d3
    have hbx := (BoxAt.new _ #[.int .i64 0] 24).ext x1
    simp only [World.size_alloc] at hbx
    have c4 := hbx.cell (i := 0) rfl
    have f4 := frozen_of_row _ _ 0 _ _ hbx
    have l4 := cell_lt c4
    have z0 := chk_store hbx 53
    clear x1 hbx h0 h1 h2 h3 h4 h5 h6 h7 h8 h9 h10 h11
    go_wp2_with fail
    exact bodyPost_ret (v := .int .i64 53) (by simp [results, Try.results43, go_sem, z0]) rfl ⟨by rw [HF.out], HX1.out.setCell (by simp <;> omega) _⟩
  subst hmn
  have q1 : ((m : Int) != (m : Int)) = false := by simp
  cases hd : diffB l m
  · have HF := Lib.hid (show chkOE k l = 53 by rw [HR.out, HOB.out, hd, Bool.and_false, Bool.false_and]; rfl)
    rw [hd] at HDI
    clear hd
    go_enter Try.func43, Try.ntmps43
    go_wp2_with fail
    refine (HW.out _ (by (repeat' (first | with_reducible exact Ext.refl _ | with_reducible apply Ext.alloc | with_reducible apply Ext.drew | with_reducible apply Ext.drewN | with_reducible refine Ext.setCell ?_ ?_ _ | with_reducible apply Ext.step | with_reducible assumption | with_reducible exact Nat.le_refl _ | (simp; done) | (simp; omega))))).mono ?_
    rintro e W1 ⟨rfl, x1⟩
    have HX1 := Lib.hid (show Ext w W1 from Ext.trans (by (repeat' (first | with_reducible exact Ext.refl _ | with_reducible apply Ext.alloc | with_reducible apply Ext.drew | with_reducible apply Ext.drewN | with_reducible refine Ext.setCell ?_ ?_ _ | with_reducible apply Ext.step | with_reducible assumption | with_reducible exact Nat.le_refl _ | (simp; done) | (simp; omega)))) x1)
    obtain ⟨h0, h1, h2, h3, h4, h5, h6, h7, h8, h9, h10, h11, h12⟩ := (WkAt.new k (.slice A m c) w).ext (Ext.trans (Ext.alloc (Ext.alloc (Ext.refl _) _) _) x1)
    have lh12 := cell_lt h12
    have d3 : W1.cell? ⟨w.heap.size + 1, 0, none⟩ = some (.slice A' m c') := x1.cell_some (by go_cell)
    have l3 := cell_lt d3
    have hbx := (BoxAt.new _ #[.int .i64 0] 24).ext x1
    simp only [World.size_alloc] at hbx
    have HBX := Lib.hid hbx
    clear x1 hbx h0 h1 h2 h3 h4 h5 h6 h7 h8 h9 h10 h11
    go_wp2_with fail
    refine (HDI.out _ HX1.out).mono ?_
    rintro e W2 ⟨rfl, x2⟩
    have HX2 := Lib.hid (HX1.out.trans x2)
    have hbx := HBX.out.ext x2
    have c4 := hbx.cell (i := 0) rfl
    have f4 := frozen_of_row _ _ 0 _ _ hbx
    have l4 := cell_lt c4
    have z0 := chk_store hbx 53
    clear x2 hbx h12 lh12 d3 l3
    go_wp2_with fail
    exact bodyPost_ret (v := .int .i64 53) (by simp [results, Try.results43, go_sem, z0]) rfl ⟨by rw [HF.out], HX2.out.setCell (by simp <;> omega) _⟩
  have HG := Lib.hid (show chkOE k l = if (prsL M).all (keepB l) then 0 else 53 by
    rw [HR.out, HOB.out, hd, decide_eq_true rfl, Bool.and_self, Bool.true_and])
  rw [hd] at HDI
  clear hd HOB HR
  refine (callsIn_wide (n := 5)).1 ?_
  refine callsIn_of_wp_marks Try.func43 rfl trivial ?_ rfl
  simp only [Try.ntmps43, List.size_toArray, List.length_cons, List.length_nil, Nat.reduceAdd, Nat.reduceSub, Array.replicate_succ, Array.replicate_zero, List.push_toArray, List.append_toArray, List.nil_append, List.cons_append]
  have F2 : Fence.wide.fn 39 := trivial
  have F3 : Fence.wide.fn 85 := trivial
  have F4 : Fence.wide.fn 86 := trivial
  have F5 : Fence.wide.fn 87 := trivial
  have F6 : Fence.wide.fn 84 := trivial
  gi_wp2
  refine (callsIn_wide.2 (HW.out _ (by (repeat' (first | with_reducible exact Ext.refl _ | with_reducible apply Ext.alloc | with_reducible apply Ext.drew | with_reducible apply Ext.drewN | with_reducible refine Ext.setCell ?_ ?_ _ | with_reducible apply Ext.step | with_reducible assumption | with_reducible exact Nat.le_refl _ | (simp; done) | (simp; omega)))))).mono ?_
  rintro e W0 ⟨rfl, x0⟩
  have HX0 := Lib.hid (show Ext w W0 from Ext.trans (by (repeat' (first | with_reducible exact Ext.refl _ | with_reducible apply Ext.alloc | with_reducible apply Ext.drew | with_reducible apply Ext.drewN | with_reducible refine Ext.setCell ?_ ?_ _ | with_reducible apply Ext.step | with_reducible assumption | with_reducible exact Nat.le_refl _ | (simp; done) | (simp; omega)))) x0)
  have HA0 := Lib.hid ((WkAt.new k (.slice A m c) w).ext (Ext.trans (Ext.alloc (Ext.alloc (Ext.refl _) _) _) x0))
  obtain ⟨h0, h1, h2, h3, h4, h5, h6, h7, h8, h9, h10, h11, h12⟩ := HA0.out
  have lh12 := cell_lt h12
  have d3 : W0.cell? ⟨w.heap.size + 1, 0, none⟩ = some (.slice A' m c') := x0.cell_some (by go_cell)
  have l3 := cell_lt d3
  have hbx := (BoxAt.new _ #[.int .i64 0] 24).ext x0
  simp only [World.size_alloc] at hbx
  have HBX := Lib.hid hbx
  clear x0 hbx h0 h1 h2 h3 h4 h5 h6 h7 h8 h9 h10 h11
  gi_wp2
  refine (callsIn_wide.2 (HDI.out _ HX0.out)).mono ?_
  rintro e W1 ⟨rfl, x1⟩
  have HX1 := Lib.hid (HX0.out.trans x1)
  have HBX1 := Lib.hid (HBX.out.ext x1)
  replace d3 := x1.cell_some d3
  have l3' := cell_lt d3
  obtain ⟨h0, h1, h2, h3, h4, h5, h6, h7, h8, h9, h10, h11, g12⟩ := HA0.out.ext x1
  have lh0 := cell_lt h0
  clear x1 h12 lh12 l3
  gi_wp2
  refine (callsIn_wide.2 (HS.out _ HX1.out)).mono ?_
  rintro e W2 ⟨g, rfl, hmat, hg, x2⟩
  have HX2 := Lib.hid (HX1.out.trans x2)
  have HMT := Lib.hid hmat
  have HBX2 := Lib.hid (HBX1.out.ext x2)
  replace d3 := x2.cell_some d3
  have l3 := cell_lt d3
  have lg := hmat.lt
  have hgn : w.heap.size + 2 < g := by have := HBX1.out.lt; omega
  clear x2 hmat hg h0 h1 h2 h3 h4 h5 h6 h7 h8 h9 h10 h11 g12 lh0 l3'
  gi_wp2
  refine (all_in Fence.wide 4 trivial rfl _ _).mono ?_
  rintro e _ ⟨rfl, rfl⟩
  gi_wp2
  refine lay_in (fun W => Ext w W ∧ Ext W2 W ∧ W.cell? ⟨W2.heap.size, 0, none⟩ = some (.pointer (some ⟨g, 0, none⟩))) ⟨HX2.out.alloc _, (Ext.refl _).alloc _, by go_cell⟩ ?_
  rintro W3 ⟨x3, y3, hib⟩
  have HX3 := Lib.hid x3
  have HY3 := Lib.hid y3
  have HBX3 := Lib.hid (HBX2.out.ext y3)
  have HAL := Lib.hid (show AllAt W3 [w.heap.size + 2] W2.heap.size g M from ⟨hib, (HMT.out.ext y3).c, by simp; omega, by simp; omega⟩)
  have HD3 := Lib.hid (y3.cell_some d3)
  have HJ3 := Lib.hid (HJ.out.ext x3)
  have hw2 := HX2.out.bel.size
  clear x3 y3 hib d3 l3
  refine wpIn_range_inv (N := (prsL M).length) (ChkI M l W3 (w.heap.size + 2)) (ChkX M l W3 (w.heap.size + 2)) [w.heap.size + 2] rfl (by decide) (gf := 104) (lb := #[.pointer (some ⟨W2.heap.size, 0, none⟩)]) rfl trivial (enters_of Try.func104 (by kernel_rfl) rfl)
    (all_seq 4 (by decide) [w.heap.size + 2] W2.heap.size g M W3 HAL.out) (fun _ => rfl) ⟨rfl, HBX3.out, But.refl _ _⟩ ChkI.own ChkX.own ?Ax ?hAx ?assign ?body ?done ?stop
  case Ax => exact fun x a' W => a' = { tmps := #[k.val (.slice A m c), .slice A' m c', .pointer (some ⟨w.heap.size, 0, none⟩), .pointer (some ⟨w.heap.size + 1, 0, none⟩), .pointer (some ⟨w.heap.size + 1 + 1, 0, none⟩), .int .i64 0, .int .i64 (((prsL M)[x.val]).1 : Nat), .int .i64 (((prsL M)[x.val]).2 : Nat), k.val (.slice A m c), .int .i64 0, .int .i64 0, .bool false, undef, .slice A' m c', .int .i64 (m : Int), .pointer (some ⟨w.heap.size, 12, none⟩), .slice A m c, .int .i64 (m : Int), .bool false, .bool false, .slice A' m c', .pointer (some ⟨w.heap.size, 12, none⟩), .slice A m c, .int .i64 (m : Int), .bool true, .bool false, .bool false, k.val (.slice A m c), .pointer (some ⟨g, 0, none⟩), .func (.func 104) #[] #[.pointer (some ⟨W2.heap.size, 0, none⟩)], .int .i64 (((prsL M)[x.val]).1 : Nat), .int .i64 (((prsL M)[x.val]).2 : Nat)] ++ (List.replicate 7 undef).toArray, defers := [] }
  case hAx => exact fun x a' _ A B row h _ _ => h
  case assign =>
    intro l x W K hW hK
    simp only [allEnc]
    gi_wp2
    refine hK _ _ (Ext.refl _) ?_
    simp [List.replicate]
  case body =>
    intro lp x a' W hl hWs hlr hinv hax
    subst hax
    obtain ⟨hall, hbx, hbut⟩ := hinv
    have hxv := x.isLt
    have HTK := Lib.hid (all_take_succ (keepB l) (prsL M) hxv)
    have HNO := Lib.hid fun (h : keepB l (prsL M)[x.val] = false) => show (prsL M).all (keepB l) = false from List.all_eq_false.2 ⟨_, List.getElem_mem hxv, by rw [h]; exact Bool.false_ne_true⟩
    have HKB := Lib.hid (show keepB l (prsL M)[x.val] = !decide (ixI l (((prsL M)[x.val]).2 : Nat) < ixI l (((prsL M)[x.val]).1 : Nat)) from rfl)
    have HAL2 := Lib.hid hall
    have HBT := Lib.hid hbut
    have HBXW := Lib.hid hbx
    have HIX := Lib.hid fun (z : Int) (W' : World) (y : But [] W W') => index_ext (.slice A' m c') l z W' (HJ.out.butx HX3.out (HBT.out.ext (y.below (Ext.refl _) (by simp))) (by omega))
    have d3 : W.cell? ⟨w.heap.size + 1, 0, none⟩ = some (.slice A' m c') := HBT.out.cell HD3.out (by simp)
    have l3 := cell_lt d3
    generalize ((prsL M)[x.val]).1 = p at *
    generalize ((prsL M)[x.val]).2 = q at *
    have q3 := But.cells (D := []) d3 (by simp)
    clear hall hbx hbut
    gi_wp2
    refine wpIn_region_steps [] 6 [(0, true), (1, true), (2, true), (3, true), (4, true), (5, true)] (by kernel_rfl) (by kernel_rfl) ?_
    iterate 2 (refine wpSD_q (by rfl) (fun _ _ _ => trivial) (fun K hK => ?_); go_simp; refine hK _ ?_; clear hK K)
    refine wpSD_q (by rfl) (fun _ _ _ => trivial) (fun K hK => ?_)
    go_simp
    refine ⟨.int .i64 (ixI l (p : Int)), fun δ => (CallsIn.inRound lp (callsIn_wide.2 (HIX.out (p : Int) δ.wd δ.but))), hK _ ?_⟩
    clear hK K
    iterate 2 (refine wpSD_q (by rfl) (fun _ _ _ => trivial) (fun K hK => ?_); go_simp; refine hK _ ?_; clear hK K)
    refine wpSD_q (by rfl) (fun _ _ _ => trivial) (fun K hK => ?_)
    go_simp
    refine ⟨.int .i64 (ixI l (q : Int)), fun δ => (CallsIn.inRound lp (callsIn_wide.2 (HIX.out (q : Int) δ.wd δ.but))), hK _ ?_⟩
    clear hK K
    refine wpSD_nil ?_
    intro W4 x4
    have HX4 := Lib.hid x4
    have hbx4 := HBXW.out.ext x4
    have HBX4 := Lib.hid hbx4
    have c4 := hbx4.cell (i := 0) rfl
    have f4 := frozen_of_row _ _ 0 _ _ hbx4
    have l4 := cell_lt c4
    clear x4 hbx4 d3 l3 q3
    simp only [List.drop_succ_cons, List.drop_zero]
    generalize ixI l (p : Int) = z1 at *
    generalize ixI l (q : Int) = z2 at *
    by_cases hz : z2 < z1
    · have q2 : decide (z2 < z1) = true := decide_eq_true hz
      have HF := Lib.hid (HNO.out (by rw [HKB.out, q2]; rfl))
      clear q2
      gi_wp2
      have hset : But [w.heap.size + 2] W4 (W4.setCell ⟨w.heap.size + 1 + 1, 0, none⟩ (.int .i64 53)) := (But.refl _ _).setCell (by simp) _
      refine ⟨(KeepNC.ext HX4.out).trans (KeepNC.but hset HBX4.out), KpD.trans (fun b o v hb hn hc => HX4.out.cell_some hc) (hset.kpD _), HF.out, ?_, (HBT.out.ext HX4.out).setCell (by simp) _⟩
      have := BoxAt.setC HBX4.out 0 (.int .i64 53)
      simpa using this
    · have q2 : decide (z2 < z1) = false := decide_eq_false hz
      have HF := Lib.hid (show ((prsL M).take (x.val + 1)).all (keepB l) = true by rw [HTK.out, HAL2.out, HKB.out, q2]; rfl)
      clear q2
      gi_wp2
      exact ⟨KeepNC.ext HX4.out, fun b o v hb hn hc => HX4.out.cell_some hc, HF.out, HBX4.out, HBT.out.ext HX4.out⟩
  case done =>
    intro M' W hM hinv hmark
    obtain ⟨hall, hbx, hbut⟩ := hinv
    rw [List.take_of_length_le (Nat.le_refl _)] at hall
    have HF := Lib.hid (show chkOE k l = 0 by rw [HG.out, hall]; rfl)
    have HBT := Lib.hid hbut
    have HMK := Lib.hid hmark
    have HBXW := Lib.hid hbx
    have c4 := hbx.cell (i := 0) rfl
    have f4 := frozen_of_row _ _ 0 _ _ hbx
    have l4 := cell_lt c4
    have h3s := HX3.out.bel.size
    have HZ := Lib.hid (chk_store hbx 0)
    clear hall hbx hbut hmark
    gi_wp2
    have hMK : ∀ D ∈ [M'], (W.setCell ⟨w.heap.size + 1 + 1, 0, none⟩ (.int .i64 0)).heap[D]? = some (.deferred (some [])) := fun D hD => by
      rw [List.mem_singleton] at hD
      subst hD
      exact (heap_setCell_other W _ _ _ (by simp; have := HX3.out.bel.size; have := HBX3.out.lt; omega)).trans HMK.out
    refine leaves_marks [M'] _ (by simp) hMK (fun W' hW => ⟨.int .i64 0, by simp [results, Try.results43, go_sem, hW.cell hMK HZ.out], by rw [HF.out], hW.ext ((HBT.out.setCell (by simp) _).below HX3.out (by simp)) (by simp; omega)⟩)
  case stop =>
    intro M' W hM hinv hmark
    obtain ⟨hall, hbx, hbut⟩ := hinv
    have h3s := HX3.out.bel.size
    have c4 := hbx.cell (i := 0) rfl
    refine leaves_marks [M'] _ (by simp) (mark_one hmark) (fun W' hW => ⟨.int .i64 53, by simp [results, Try.results43, go_sem, hW.cell (mark_one hmark) c4], by rw [HG.out, hall]; rfl, hW.ext (hbut.below HX3.out (by simp)) (by simp; omega)⟩)
end Go.Proofs.Ytgeapenglcohfaa
