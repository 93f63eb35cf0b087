/- The kinds of light, and what an append leaves. No condition. -/
import Derived.Test.YtlljhimaopnbfaaQS
import Derived.Test.YtlljhimaopnbfaaLTools
import Derived.Shelf.Abstract
import Derived.Test.YtlljhimaopnbfaaESlot
namespace Go.Proofs.Ytlljhimaopnbfaa
section
/- LCells: light's fields: their cells, what ranges over them are told, and their corners. Conditions: a field lies there. -/
open Go.RowKit

attribute [local go_sem] Oper.semAt_some

def hA (hs : List Int) (i : Nat) : Int := hs[i]?.getD 0
/-- The height at a corner of a cell. -/
def cor0 (n : Nat) (hs : List Int) (x y : Nat) : Int := hA hs (y * (n + 1) + x)
def cor1 (n : Nat) (hs : List Int) (x y : Nat) : Int := hA hs (y * (n + 1) + x + 1)
def cor2 (n : Nat) (hs : List Int) (x y : Nat) : Int := hA hs (y * (n + 1) + x + (n + 1))
def cor3 (n : Nat) (hs : List Int) (x y : Nat) : Int := hA hs (y * (n + 1) + x + (n + 1) + 1)
def midC (n : Nat) (hs : List Int) (x y : Nat) : Int := cor0 n hs x y + cor1 n hs x y + cor2 n hs x y + cor3 n hs x y
def tiltX (n : Nat) (hs : List Int) (x y : Nat) : Int := cor1 n hs x y + cor3 n hs x y - cor0 n hs x y - cor2 n hs x y
def tiltY (n : Nat) (hs : List Int) (x y : Nat) : Int := cor2 n hs x y + cor3 n hs x y - cor0 n hs x y - cor1 n hs x y

/-- In block B lies a surface of n + 1 times m + 1 points. -/
structure FieldAt (w : World) (B n m : Nat) (p : Int) (hs : List Int) : Prop where
  fw : w.cell? ⟨B, 0, none⟩ = some (.int .i64 ((n : Int) + 1))
  fh : w.cell? ⟨B, 1, none⟩ = some (.int .i64 ((m : Int) + 1))
  fp : w.cell? ⟨B, 2, none⟩ = some (.int .i64 p)
  hh : ∃ hv, w.cell? ⟨B, 3, none⟩ = some hv ∧ intK.Is w hv hs
  n1 : 1 ≤ n
  n2 : n ≤ 23
  m1 : 1 ≤ m
  m2 : m ≤ 23
  p1 : 1 ≤ p
  p2 : p ≤ 100
  hl : hs.length = (n + 1) * (m + 1)
  hb : ∀ i, -100 ≤ hA hs i ∧ hA hs i ≤ 100
/-- The column and the row of a cell, by its number. -/
def cx (n j : Nat) : Nat := j % n
def cy (n j : Nat) : Nat := j / n
theorem cx_lt {n j : Nat} (h : 1 ≤ n) : cx n j < n := Nat.mod_lt _ h
theorem cy_lt {n m j : Nat} (h : j < m * n) : cy n j < m := Nat.div_lt_of_lt_mul (by rw [Nat.mul_comm]; exact h)
theorem cx_at {n k j : Nat} (h : j < n) : cx n (k * n + j) = j := by rw [cx, Nat.mul_comm, Nat.mul_add_mod, Nat.mod_eq_of_lt h]
theorem cy_at {n k j : Nat} (h : j < n) : cy n (k * n + j) = k := by rw [cy, Nat.mul_comm, Nat.mul_add_div (by omega), Nat.div_eq_of_lt h, Nat.add_zero]
theorem cxy {n j : Nat} : cy n j * n + cx n j = j := by rw [cx, cy, Nat.mul_comm]; exact Nat.div_add_mod _ _
/-- .. with the middles of its cells. -/
def midsL (n m : Nat) (hs : List Int) : List Int := (List.range (m * n)).map fun j => midC n hs (cx n j) (cy n j)
structure Fld (w : World) (B n m : Nat) (p : Int) (hs : List Int) : Prop where
  at_ : FieldAt w B n m p hs
  mm : ∃ mv, w.cell? ⟨B, 4, none⟩ = some mv ∧ intK.Is w mv (midsL n m hs)

theorem FieldAt.ext {w w' : World} {B n m : Nat} {p : Int} {hs : List Int} (h : FieldAt w B n m p hs) (x : Ext w w') : FieldAt w' B n m p hs := by
  obtain ⟨hv, h1, h2⟩ := h.hh
  exact ⟨x.cell_some h.fw, x.cell_some h.fh, x.cell_some h.fp, ⟨hv, x.cell_some h1, h2.ext x⟩, h.n1, h.n2, h.m1, h.m2, h.p1, h.p2, h.hl, h.hb⟩
theorem Fld.ext {w w' : World} {B n m : Nat} {p : Int} {hs : List Int} (h : Fld w B n m p hs) (x : Ext w w') : Fld w' B n m p hs := by
  obtain ⟨mv, h1, h2⟩ := h.mm
  exact ⟨h.at_.ext x, mv, x.cell_some h1, h2.ext x⟩

theorem FieldAt.cells {S : Nat → Prop} {w w' : World} {B n m : Nat} {p : Int} {hs : List Int} (h : FieldAt w B n m p hs) (c : Cells S w w') (hS : ∀ b, b < w.heap.size → S b) : FieldAt w' B n m p hs := by
  obtain ⟨hv, h1, h2⟩ := h.hh
  have g := fun b o v hc => c.2 b o v (hS b (cell_lt hc)) hc
  exact ⟨g _ _ _ h.fw, g _ _ _ h.fh, g _ _ _ h.fp, ⟨hv, g _ _ _ h1, h2.cells c hS⟩, h.n1, h.n2, h.m1, h.m2, h.p1, h.p2, h.hl, h.hb⟩
theorem Fld.cells {S : Nat → Prop} {w w' : World} {B n m : Nat} {p : Int} {hs : List Int} (h : Fld w B n m p hs) (c : Cells S w w') (hS : ∀ b, b < w.heap.size → S b) : Fld w' B n m p hs := by
  obtain ⟨hv, h1, h2⟩ := h.at_.hh
  obtain ⟨mv, h3, h4⟩ := h.mm
  have g := fun b o v hc => c.2 b o v (hS b (cell_lt hc)) hc
  exact ⟨⟨g _ _ _ h.at_.fw, g _ _ _ h.at_.fh, g _ _ _ h.at_.fp, ⟨hv, g _ _ _ h1, h2.cells c hS⟩, h.at_.n1, h.at_.n2, h.at_.m1, h.at_.m2, h.at_.p1, h.at_.p2, h.at_.hl, h.at_.hb⟩, mv, g _ _ _ h3, h4.cells c hS⟩

theorem intK_at {w : World} {v : Value} {hs : List Int} (h : intK.Is w v hs) (h1 : 1 ≤ hs.length) : ∃ b o c, v = .slice (some ⟨b, o, none⟩) hs.length c ∧ b < w.heap.size ∧ ∀ i, i < hs.length → w.cell? ⟨b, o + i, none⟩ = some (.int .i64 (hA hs i)) := by
  obtain ⟨A, c, rfl, _, _, hr⟩ := h
  obtain ⟨b, o, rfl, hb, _⟩ := hr 0 (by omega)
  refine ⟨b, o, c, rfl, hb, fun i hi => ?_⟩
  obtain ⟨b', o', he, _, hc⟩ := hr i hi
  cases he
  have := hc 0 (.int .i64 hs[i]) rfl
  rw [hA, List.getElem?_eq_getElem hi]
  simpa [intK] using this

theorem at_lt {n m x y : Nat} (hx : x < n) (hy : y < m) : y * (n + 1) + x + (n + 1) + 1 < (n + 1) * (m + 1) := by
  have h : y * (n + 1) + (n + 1) ≤ m * (n + 1) := by
    rw [← Nat.succ_mul]
    exact Nat.mul_le_mul_right _ hy
  have e : (n + 1) * (m + 1) = m * (n + 1) + (n + 1) := by rw [Nat.mul_comm, Nat.succ_mul]
  omega

set_option maxRecDepth 100000 in
set_option maxHeartbeats 4000000 in
theorem corners_any (B n m : Nat) (p : Int) (hs : List Int) (x y : Nat) (w : World) (hF : FieldAt w B n m p hs) (hx : x < n) (hy : y < m) :
    Calls Try.prog 108 #[.pointer (some ⟨B, 0, none⟩), .int .i64 x, .int .i64 y] w fun e w' =>
      e = .returned (.agg #[.int .i64 (cor0 n hs x y), .int .i64 (cor1 n hs x y), .int .i64 (cor2 n hs x y), .int .i64 (cor3 n hs x y)]) ∧ Ext w w' := by
  obtain ⟨hv, c3, hI⟩ := hF.hh
  have c0 := hF.fw
  have hB := cell_lt c0
  have n2 := hF.n2
  have m2 := hF.m2
  have hlt := at_lt hx hy
  rw [← hF.hl] at hlt
  obtain ⟨b, o, c, rfl, hb, hcell⟩ := intK_at hI (by omega)
  have hmul : y * (n + 1) ≤ 22 * 24 := Nat.mul_le_mul (by omega) (by omega)
  obtain ⟨q, hq⟩ : ∃ q, q = y * (n + 1) := ⟨_, rfl⟩
  have C0 := Lib.hid (show cor0 n hs x y = hA hs (q + x) by rw [hq]; rfl)
  have C1 := Lib.hid (show cor1 n hs x y = hA hs (q + x + 1) by rw [hq]; rfl)
  have C2 := Lib.hid (show cor2 n hs x y = hA hs (q + x + (n + 1)) by rw [hq]; rfl)
  have C3 := Lib.hid (show cor3 n hs x y = hA hs (q + x + (n + 1) + 1) by rw [hq]; rfl)
  have e0 : (y : Int) * ((n : Int) + 1) = (q : Int) := by rw [hq]; simp
  rw [← hq] at hlt hmul
  obtain ⟨k0, hk0⟩ : ∃ k, k = q + x := ⟨_, rfl⟩
  obtain ⟨k1, hk1⟩ : ∃ k, k = k0 + 1 := ⟨_, rfl⟩
  obtain ⟨k2, hk2⟩ : ∃ k, k = k0 + (n + 1) := ⟨_, rfl⟩
  obtain ⟨k3, hk3⟩ : ∃ k, k = k2 + 1 := ⟨_, rfl⟩
  have f0 := hcell k0 (by omega)
  have f1 := hcell k1 (by omega)
  have f2 := hcell k2 (by omega)
  have f3 := hcell k3 (by omega)
  have l0 : k0 < hs.length := by omega
  have l1 : k1 < hs.length := by omega
  have l2 : k2 < hs.length := by omega
  have l3 : k3 < hs.length := by omega
  have hL : hs.length ≤ 600 := by
    rw [hF.hl]
    exact Nat.le_trans (Nat.mul_le_mul (show n + 1 ≤ 24 by omega) (show m + 1 ≤ 24 by omega)) (by decide)
  have e1 : (q : Int) + (x : Int) = (k0 : Int) := by omega
  have e2 : (k0 : Int) + 1 = (k1 : Int) := by omega
  have e3 : (k0 : Int) + ((n : Int) + 1) = (k2 : Int) := by omega
  have e4 : (k2 : Int) + 1 = (k3 : Int) := by omega
  rw [← hk0] at C0 C1 C2 C3
  rw [← hk1] at C1
  rw [← hk2] at C2 C3
  rw [← hk3] at C3
  have i1 : IntKind.i64.wrap ((k0 : Int)) = (k0 : Int) := IntWalk.i64_in _ (by omega)
  have i2 : IntKind.i64.wrap ((k1 : Int)) = (k1 : Int) := IntWalk.i64_in _ (by omega)
  have i3 : IntKind.i64.wrap ((k2 : Int)) = (k2 : Int) := IntWalk.i64_in _ (by omega)
  have i4 : IntKind.i64.wrap ((k3 : Int)) = (k3 : Int) := IntWalk.i64_in _ (by omega)
  have i5 : IntKind.i64.wrap ((q : Int)) = (q : Int) := IntWalk.i64_in _ (by omega)
  generalize hLL : hs.length = L at *
  clear hLL hk0 hk1 hk2 hk3 hq hcell hF hI
  refine (callsIn_wide (n := 3)).1 ?_
  refine callsIn_of_wp Try.func108 rfl trivial ?_ rfl
  simp only [Try.ntmps108, List.size_toArray, List.length_cons, List.length_nil, Nat.reduceAdd, Nat.reduceSub, Array.replicate_succ, Array.replicate_zero, List.push_toArray, List.append_toArray, List.nil_append, List.cons_append]
  gi_wp2
  refine lay_in (fun W => Ext w W ∧ W.cell? ⟨B, 0, none⟩ = some (.int .i64 ((n : Int) + 1)) ∧ W.cell? ⟨B, 3, none⟩ = some (.slice (some ⟨b, o, none⟩) L c) ∧ W.cell? ⟨b, o + k0, none⟩ = some (.int .i64 (hA hs k0)) ∧ W.cell? ⟨b, o + k1, none⟩ = some (.int .i64 (hA hs k1)) ∧ W.cell? ⟨b, o + k2, none⟩ = some (.int .i64 (hA hs k2)) ∧ W.cell? ⟨b, o + k3, none⟩ = some (.int .i64 (hA hs k3)) ∧
    W.cell? ⟨w.heap.size, 0, none⟩ = some (.int .i64 0) ∧ W.cell? ⟨w.heap.size, 1, none⟩ = some (.int .i64 0) ∧ W.cell? ⟨w.heap.size, 2, none⟩ = some (.int .i64 0) ∧ W.cell? ⟨w.heap.size, 3, none⟩ = some (.int .i64 0) ∧
    W.frozen? ⟨w.heap.size, 0, none⟩ = false ∧ W.frozen? ⟨w.heap.size, 1, none⟩ = false ∧ W.frozen? ⟨w.heap.size, 2, none⟩ = false ∧ W.frozen? ⟨w.heap.size, 3, none⟩ = false) ⟨by (repeat' (first | with_reducible exact Ext.refl _ | with_reducible apply Ext.alloc | with_reducible apply Ext.drew | with_reducible apply Ext.drewN | with_reducible refine Ext.setCell ?_ ?_ _ | with_reducible apply Ext.step | with_reducible assumption | with_reducible exact Nat.le_refl _ | (simp; done) | (simp; omega))), by go_cell, by go_cell, by go_cell, by go_cell, by go_cell, by go_cell, by go_cell, by go_cell, by go_cell, by go_cell, by go_simp, by go_simp, by go_simp, by go_simp⟩ ?_
  rintro W ⟨X, z0, z3, y0, y1, y2, y3, r0, r1, r2, r3, s0, s1, s2, s3⟩
  have HX := Lib.hid X
  have g0 := But.cells (D := []) z0 (by simp)
  have g3 := But.cells (D := []) z3 (by simp)
  have v0 := But.cells (D := []) y0 (by simp)
  have v1 := But.cells (D := []) y1 (by simp)
  have v2 := But.cells (D := []) y2 (by simp)
  have v3 := But.cells (D := []) y3 (by simp)
  clear z0 z3 y0 y1 y2 y3 c0 c3 f0 f1 f2 f3 X
  refine wpIn_region_pull [] 46 [0, 1, 2, 3, 4, 5, 6, 7, 8, 9, 10, 11, 12, 13, 14, 15, 16, 17, 18, 19, 20, 21, 22, 23, 24, 25, 26, 27, 28, 29, 30, 31, 32, 33, 34, 35, 36, 37, 38, 39, 40, 41, 42, 43, 44, 45] [] (by kernel_rfl) (by kernel_rfl) ?_
  repeat (refine wpQD_step (by rfl) (fun _ _ _ => trivial) (fun K hK => ?_); go_simp; refine hK _ ?_; clear hK K)
  refine wpQD_nil ?_
  refine wpMD_nil ?_
  intro w3 x3
  have X3 := Lib.hid (HX.out.trans x3)
  replace s0 := x3.frozen r0 s0
  replace s1 := x3.frozen r1 s1
  replace s2 := x3.frozen r2 s2
  replace s3 := x3.frozen r3 s3
  replace r0 := x3.cell_some r0
  replace r1 := x3.cell_some r1
  replace r2 := x3.cell_some r2
  replace r3 := x3.cell_some r3
  have hl3 := cell_lt r0
  clear x3 HX e0 e1 e2 e3 e4 i1 i2 i3 i4 i5
  simp only [List.drop_succ_cons, List.drop_zero]
  gi_wp2
  have hset := set4 r0 r1 r2 r3 (.int .i64 (hA hs k0)) (.int .i64 (hA hs k1)) (.int .i64 (hA hs k2)) (.int .i64 (hA hs k3))
  have X4 : Ext w _ := ((((X3.out.setCell (p := ⟨w.heap.size, 0, none⟩) (Nat.le_refl _) (.int .i64 (hA hs k0))).setCell (p := ⟨w.heap.size, 1, none⟩) (Nat.le_refl _) (.int .i64 (hA hs k1))).setCell (p := ⟨w.heap.size, 2, none⟩) (Nat.le_refl _) (.int .i64 (hA hs k2))).setCell (p := ⟨w.heap.size, 3, none⟩) (Nat.le_refl _) (.int .i64 (hA hs k3)))
  generalize (((w3.setCell ⟨w.heap.size, 0, none⟩ (.int .i64 (hA hs k0))).setCell ⟨w.heap.size, 1, none⟩ (.int .i64 (hA hs k1))).setCell ⟨w.heap.size, 2, none⟩ (.int .i64 (hA hs k2))).setCell ⟨w.heap.size, 3, none⟩ (.int .i64 (hA hs k3)) = W4 at *
  obtain ⟨t0, t1, t2, t3⟩ := hset
  exact bodyPost_ret (v := .agg #[.int .i64 (hA hs k0), .int .i64 (hA hs k1), .int .i64 (hA hs k2), .int .i64 (hA hs k3)]) (by simp [results, Try.results108, go_sem, t0, t1, t2, t3]) rfl ⟨by rw [C0.out, C1.out, C2.out, C3.out], X4⟩

theorem EK.Own.shape {α : Type} {K : EK α} {B : Nat} {w : World} {v : Value} {xs : List α} (h : K.Own B w v xs) : ∃ A k c, v = .slice A k c := by
  rcases h.2 with ⟨rfl, _⟩ | ⟨g, cap, _, rfl, _⟩
  · exact ⟨_, _, _, rfl⟩
  · exact ⟨_, _, _, rfl⟩
theorem cor_bd {w : World} {B n m : Nat} {p : Int} {hs : List Int} (h : FieldAt w B n m p hs) (x y : Nat) :
    (-100 ≤ cor0 n hs x y ∧ cor0 n hs x y ≤ 100) ∧ (-100 ≤ cor1 n hs x y ∧ cor1 n hs x y ≤ 100) ∧ (-100 ≤ cor2 n hs x y ∧ cor2 n hs x y ≤ 100) ∧ (-100 ≤ cor3 n hs x y ∧ cor3 n hs x y ≤ 100) := ⟨h.hb _, h.hb _, h.hb _, h.hb _⟩
/-- A field of an elder world lies on. -/
theorem Acc.field {α : Type} {K : EK α} {w W0 W : World} {Bx off : Nat} {ans : List α} (h : Acc K W0 Bx off ans W) {B n m : Nat} {p : Int} {hs : List Int} (hF : FieldAt w B n m p hs) (x : Ext w W0) (hb : w.heap.size ≤ Bx) : FieldAt W B n m p hs :=
  hF.ext (h.but.below x (by simpa using hb))
theorem Acc.fld {α : Type} {K : EK α} {w W0 W : World} {Bx off : Nat} {ans : List α} (h : Acc K W0 Bx off ans W) {B n m : Nat} {p : Int} {hs : List Int} (hF : Fld w B n m p hs) (x : Ext w W0) (hb : w.heap.size ≤ Bx) : Fld W B n m p hs :=
  hF.ext (h.but.below x (by simpa using hb))

/-- What a round over the cells is told. -/
def cellEnc (n N : Nat) (x : Fin N) : Array Value := #[.int .i64 (cx n x.val), .int .i64 (cy n x.val)]
def RangeTo (N : Nat) (J : List (Fin N) → World → Prop) (c : Nat) (W : World) : Prop := ∃ pre : List (Fin N), pre.map Fin.val = List.range c ∧ J pre W

set_option maxRecDepth 100000 in
set_option maxHeartbeats 4000000 in
theorem cells1_in (F : Fence) (nn : Nat) (h8 : F.fn 109) (hro : F.round = none) (hnn : 1 ≤ nn) (l Bs Bf Bx off B0 n m : Nat) (hn1 : 1 ≤ n) (hn : n ≤ 23) (hm : m ≤ 23) (hs1 : Bs < B0) (hs2 : Bs ≠ Bx) (hf1 : Bf < B0) (hf2 : Bf ≠ Bx ∨ 2 ≤ off)
    (J Jx : List (Fin (m * n)) → World → Prop)
    (hY : ∀ pre x W, J pre W → pre.length < m * n → YieldAt F (nn - 1) Try.prog l (cellEnc n (m * n) x) W fun e W' =>
      (e = .returned (.bool true) ∧ J (pre ++ [x]) W' ∧ KpX Bx off B0 W W') ∨ (e = .returned (.bool false) ∧ Jx (pre ++ [x]) W'))
    (W : World) (c0 : W.cell? ⟨Bs, 0, none⟩ = some (.pointer (some ⟨Bf, 0, none⟩))) (c1 : W.cell? ⟨Bf, 0, none⟩ = some (.int .i64 ((n : Int) + 1))) (c2 : W.cell? ⟨Bf, 1, none⟩ = some (.int .i64 ((m : Int) + 1))) (h0 : J [] W) :
    CallsIn F nn Try.prog 109 #[.func (.yield l) #[] #[], .pointer (some ⟨Bs, 0, none⟩)] W fun e W' => (∃ v, e = .returned v) ∧
      ((∃ ys, ys.map Fin.val = List.range (m * n) ∧ J ys W') ∨ (∃ pre, True ∧ Jx pre W')) := by
  refine callsIn_of_wp Try.func109 rfl h8 ?_ hro
  simp only [Try.ntmps109, List.size_toArray, List.length_cons, List.length_nil, Nat.reduceAdd, Nat.reduceSub, Array.replicate_succ, Array.replicate_zero, List.push_toArray, List.append_toArray, List.nil_append, List.cons_append]
  gi_wp2
  gi_loopw [11, 3, 4] (fun i _ _ wr => ∃ k : Nat, k ≤ m ∧ i = .int .i64 k ∧ RangeTo (m * n) J (k * n) wr ∧ KpX Bx off B0 W wr)
    (fun i _ _ _ => m - (intOf i).toNat)
  case atStart => exact ⟨0, Nat.zero_le _, rfl, ⟨[], by simp, h0⟩, fun _ _ _ _ _ h => h⟩
  case round =>
    obtain ⟨k, hk, rfl, hJ, hkp⟩ := hrel
    by_cases hlt : k < m
    · have d0 := hkp Bs 0 _ hs1 (.inl hs2) c0
      have d1 := hkp Bf 0 _ hf1 (by omega) c1
      have HJ := Lib.hid hJ
      have HK := Lib.hid hkp
      clear hJ hkp
      gi_wp2
      obtain ⟨wo, rfl⟩ : ∃ wo : World, wo = wr := ⟨_, rfl⟩
      gi_loopw [20, 4] (fun i _ wr => ∃ j : Nat, j ≤ n ∧ i = .int .i64 j ∧ RangeTo (m * n) J (k * n + j) wr ∧ KpX Bx off B0 W wr)
        (fun i _ _ => n - (intOf i).toNat)
      case atStart => exact ⟨0, Nat.zero_le _, rfl, HJ.out, HK.out⟩
      case round =>
        obtain ⟨j, hj, rfl, ⟨pre, hpre, hJ⟩, hkp⟩ := hrel
        by_cases hjl : j < n
        · have hlen : pre.length = k * n + j := by
            have := congrArg List.length hpre
            simpa using this
          have hlt2 : k * n + j < m * n := by
            have : (k + 1) * n ≤ m * n := Nat.mul_le_mul_right _ hlt
            rw [Nat.succ_mul] at this
            omega
          obtain ⟨fn, tmps, assign, body, hy, hR⟩ := hY pre ⟨k * n + j, hlt2⟩ wr hJ (by omega)
          simp only [cellEnc, cx_at hjl, cy_at hjl] at hy
          have HKP := Lib.hid hkp
          have HPRE := Lib.hid hpre
          have HR := Lib.hid hR
          clear hlen hpre hkp hR hJ
          gi_wp2
          refine HR.out.mono ?_
          rintro e W3 (⟨rfl, hJ3, hk3⟩ | ⟨rfl, hJx3⟩)
          · have HJ3 := Lib.hid hJ3
            have HK3 := Lib.hid hk3
            clear hJ3 hk3
            gi_wp2
            go_roundw
            case rel => exact ⟨j + 1, by omega, by simp, ⟨_, by rw [List.map_append, HPRE.out, ← Nat.add_assoc, List.range_succ]; rfl, HJ3.out⟩, HKP.out.trans HK3.out⟩
            case measure => simp [intOf]; omega
          · have HJ3 := Lib.hid hJx3
            clear hJx3
            gi_wp2
            refine bodyPost_ret (results_none rfl _ _ _) rfl ?_
            exact ⟨⟨_, rfl⟩, .inr ⟨_, trivial, HJ3.out⟩⟩
        · obtain rfl : j = n := by omega
          have HPJ := Lib.hid (show RangeTo (m * j) J ((k + 1) * j) wr from ⟨pre, by rw [hpre, Nat.succ_mul], hJ⟩)
          have HKP := Lib.hid hkp
          clear hpre hJ hkp
          gi_wp2
          go_roundw
          case rel => exact ⟨k + 1, by omega, by simp, HPJ.out, HKP.out⟩
          case measure => simp [intOf]; omega
    · obtain rfl : k = m := by omega
      obtain ⟨pre, hpre, hJ⟩ := hJ
      have HPRE := Lib.hid hpre
      have HJ := Lib.hid hJ
      clear hpre hJ
      gi_wp2
      go_end0
      exact ⟨⟨_, rfl⟩, .inl ⟨_, HPRE.out, HJ.out⟩⟩

theorem cells_stops (F : Fence) (nn : Nat) (h8 : F.fn 109) (hro : F.round = none) (hnn : 1 ≤ nn) (Bs Bf Bx off n m : Nat) (hn1 : 1 ≤ n) (hn : n ≤ 23) (hm : m ≤ 23) (w : World) (hs2 : Bs ≠ Bx) (hf2 : Bf ≠ Bx ∨ 2 ≤ off)
    (c0 : w.cell? ⟨Bs, 0, none⟩ = some (.pointer (some ⟨Bf, 0, none⟩))) (c1 : w.cell? ⟨Bf, 0, none⟩ = some (.int .i64 ((n : Int) + 1))) (c2 : w.cell? ⟨Bf, 1, none⟩ = some (.int .i64 ((m : Int) + 1))) :
    SeqStopsK F nn Try.prog 109 #[.pointer (some ⟨Bs, 0, none⟩)] (cellEnc n (m * n)) (KpX Bx off w.heap.size) (fun ys => ys.map Fin.val = List.range (m * n)) (fun _ => True) (m * n) w := fun l J Jx W hW _ _ hY h0 =>
  cells1_in F nn h8 hro hnn l Bs Bf Bx off w.heap.size n m hn1 hn hm (cell_lt c0) hs2 (cell_lt c1) hf2 J Jx hY W ((hW.cell (p := ⟨Bs, 0, none⟩) (cell_lt c0)).trans c0) ((hW.cell (p := ⟨Bf, 0, none⟩) (cell_lt c1)).trans c1) ((hW.cell (p := ⟨Bf, 1, none⟩) (cell_lt c2)).trans c2) h0

theorem cells_in (F : Fence) (n : Nat) (h5 : F.fn 77) (hro : F.round = none) (a : Option Addr) (w : World) :
    CallsIn F n Try.prog 77 #[.pointer a] w fun e w' => e = .returned (.func (.func 109) #[] #[.pointer (some ⟨w.heap.size, 0, none⟩)]) ∧ w' = w.alloc (.cells #[.pointer a] 123) := by
  refine callsIn_of_wp Try.func77 rfl h5 ?_ hro
  simp only [Try.ntmps77, List.size_toArray, List.length_cons, List.length_nil, Nat.reduceAdd, Nat.reduceSub, Array.replicate_succ, Array.replicate_zero, List.push_toArray, List.append_toArray, List.nil_append, List.cons_append]
  gi_wp2
  go_ret
  exact ⟨rfl, rfl⟩
end
section
/- LOpen: light.open: a surface at work, or its error. Condition: the slice reads as a list. -/
open Go.RowKit Go.Shelf

attribute [local go_sem] Oper.semAt_some

abbrev surfV (W H P : Int) (hv : Value) : Value := .agg #[.int .i64 W, .int .i64 H, .int .i64 P, hv]
def surfB (W H P : Int) (hs : List Int) : Bool := inB 2 24 W && inB 2 24 H && inB 1 100 P && decide ((hs.length : Int) = W * H) && allB (-100) 100 hs
def surfE (W H P : Int) (hs : List Int) : Int := if surfB W H P hs then 0 else 60

theorem intK_isI {w : World} {v : Value} {hs : List Int} (h : intK.Is w v hs) : IsI w v hs := by
  obtain ⟨A, c, rfl, h0, hc, hr⟩ := h
  refine ⟨A, c, rfl, h0, hc, ⟨rfl, by omega, fun k hk => ?_⟩⟩
  obtain ⟨b, o, hA, hb, hcell⟩ := hr k hk
  refine ⟨b, o, hA, hb, ?_⟩
  have := hcell 0 (.int .i64 hs[k]) rfl
  rw [List.getElem?_eq_getElem hk]
  simpa [intK] using this
theorem isI_intK {w : World} {v : Value} {hs : List Int} (h : IsI w v hs) : intK.Is w v hs := by
  obtain ⟨A, c, rfl, h0, hc, hr⟩ := h
  refine ⟨A, c, rfl, h0, hc, fun k hk => ?_⟩
  obtain ⟨b, o, hA, hb, hcell⟩ := hr.at_ k hk
  refine ⟨b, o, hA, hb, fun i u hu => ?_⟩
  match i with
  | 0 =>
    have e : u = .int .i64 hs[k] := by simpa [intK] using hu.symm
    rw [List.getElem?_eq_getElem hk] at hcell
    rw [e]
    simpa [intK] using hcell
  | i + 1 => simp [intK] at hu

theorem lfrom_list (hv : Value) (hs : List Int) (lo hi : Int) (w : World) (h : intK.Is w hv hs) :
    Calls Try.prog 64 #[.int .i64 lo, .int .i64 hi, hv] w fun e w' => e = .returned (.bool (allB lo hi hs)) ∧ Ext w w' := by
  obtain ⟨A, c, rfl, _, _, hr⟩ := intK_isI h
  exact lfrom_any A _ c hs lo hi w hr

theorem surfB_iff {W H P : Int} {hs : List Int} : surfB W H P hs = true ↔ (2 ≤ W ∧ W ≤ 24) ∧ (2 ≤ H ∧ H ≤ 24) ∧ (1 ≤ P ∧ P ≤ 100) ∧ (hs.length : Int) = W * H ∧ allB (-100) 100 hs = true := by
  simp [surfB, inB, and_assoc]

def OpenBad (w : World) (e : Ending) (w' : World) : Prop := e = .returned (.tuple #[.pointer none, .int .i64 60]) ∧ Ext w w'
set_option maxRecDepth 100000 in
set_option maxHeartbeats 4000000 in
theorem open_bad (W H P : Int) (hv : Value) (hs : List Int) (w : World) (hI : intK.Is w hv hs) (hb : surfB W H P hs = false) :
    Calls Try.prog 72 #[surfV W H P hv] w (OpenBad w) := by
  have hl := hI.len
  unfold maxLen at hl
  have HI := Lib.hid fun (W0 : World) (x : Ext w W0) => lfrom_list hv hs (-100) 100 W0 (hI.ext x)
  obtain ⟨A, c, rfl, _⟩ := hI
  generalize hL : hs.length = L at *
  have HL := Lib.hid hL
  clear hL
  have HB := Lib.hid hb
  clear hb
  cases h1 : (inB 2 24 W && inB 2 24 H)
  · go_enter Try.func72, Try.ntmps72
    go_wp2_with fail
    refine (lfrom_two _ W H _ _ _ _ (by go_cell) (by go_cell)).mono ?_
    rintro e _ ⟨rfl, hx⟩
    obtain ⟨δ, rfl⟩ : Ext (w.alloc (.cells #[.int .i64 W, .int .i64 H, .int .i64 P, .slice A L c] 37)) _ := Ext.trans (by (repeat' (first | with_reducible exact Ext.refl _ | with_reducible apply Ext.alloc | with_reducible apply Ext.drew | with_reducible apply Ext.drewN | with_reducible refine Ext.setCell ?_ ?_ _ | with_reducible apply Ext.step | with_reducible assumption | with_reducible exact Nat.le_refl _ | (simp; done) | (simp; omega)))) hx
    clear hx
    try (have hs0 := δ.lt (w.heap.size) (by first | (simp; done) | (simp; omega)))
    go_wp2_with fail
    go_ret2
    exact ⟨rfl, by (repeat' (first | with_reducible exact Ext.refl _ | with_reducible apply Ext.alloc | with_reducible apply Ext.drew | with_reducible apply Ext.drewN | with_reducible refine Ext.setCell ?_ ?_ _ | with_reducible apply Ext.step | with_reducible assumption | with_reducible exact Nat.le_refl _ | (simp; done) | (simp; omega)))⟩
  cases h2 : inB 1 100 P
  · go_enter Try.func72, Try.ntmps72
    go_wp2_with fail
    refine (lfrom_two _ W H _ _ _ _ (by go_cell) (by go_cell)).mono ?_
    rintro e _ ⟨rfl, hx⟩
    obtain ⟨δ, rfl⟩ : Ext (w.alloc (.cells #[.int .i64 W, .int .i64 H, .int .i64 P, .slice A L c] 37)) _ := Ext.trans (by (repeat' (first | with_reducible exact Ext.refl _ | with_reducible apply Ext.alloc | with_reducible apply Ext.drew | with_reducible apply Ext.drewN | with_reducible refine Ext.setCell ?_ ?_ _ | with_reducible apply Ext.step | with_reducible assumption | with_reducible exact Nat.le_refl _ | (simp; done) | (simp; omega)))) hx
    clear hx
    try (have hs0 := δ.lt (w.heap.size) (by first | (simp; done) | (simp; omega)))
    go_wp2_with fail
    refine (lfrom_one _ P _ _ _ _ (by go_cell)).mono ?_
    rintro e _ ⟨rfl, hx⟩
    obtain ⟨δ, rfl⟩ : Ext (w.alloc (.cells #[.int .i64 W, .int .i64 H, .int .i64 P, .slice A L c] 37)) _ := Ext.trans (by (repeat' (first | with_reducible exact Ext.refl _ | with_reducible apply Ext.alloc | with_reducible apply Ext.drew | with_reducible apply Ext.drewN | with_reducible refine Ext.setCell ?_ ?_ _ | with_reducible apply Ext.step | with_reducible assumption | with_reducible exact Nat.le_refl _ | (simp; done) | (simp; omega)))) hx
    clear hx
    try (have hs0 := δ.lt (w.heap.size) (by first | (simp; done) | (simp; omega)))
    go_wp2_with fail
    go_ret2
    exact ⟨rfl, by (repeat' (first | with_reducible exact Ext.refl _ | with_reducible apply Ext.alloc | with_reducible apply Ext.drew | with_reducible apply Ext.drewN | with_reducible refine Ext.setCell ?_ ?_ _ | with_reducible apply Ext.step | with_reducible assumption | with_reducible exact Nat.le_refl _ | (simp; done) | (simp; omega)))⟩
  have h1' := h1
  rw [Bool.and_eq_true, inB_iff, inB_iff] at h1'
  obtain ⟨⟨a1, a2⟩, b1, b2⟩ := h1'
  obtain ⟨m1, m2⟩ := mul_bd (a := W) (b := H) (A := 24) (B := 24) (by omega) a2 (by omega) b2
  cases h3 : decide ((L : Int) = W * H)
  · have hne : ((L : Int) != W * H) = true := by simpa using h3
    have h3' : ((L : Int) == W * H) = false := by simpa using h3
    clear h3
    go_enter Try.func72, Try.ntmps72
    go_wp2_with fail
    refine (lfrom_two _ W H _ _ _ _ (by go_cell) (by go_cell)).mono ?_
    rintro e _ ⟨rfl, hx⟩
    obtain ⟨δ, rfl⟩ : Ext (w.alloc (.cells #[.int .i64 W, .int .i64 H, .int .i64 P, .slice A L c] 37)) _ := Ext.trans (by (repeat' (first | with_reducible exact Ext.refl _ | with_reducible apply Ext.alloc | with_reducible apply Ext.drew | with_reducible apply Ext.drewN | with_reducible refine Ext.setCell ?_ ?_ _ | with_reducible apply Ext.step | with_reducible assumption | with_reducible exact Nat.le_refl _ | (simp; done) | (simp; omega)))) hx
    clear hx
    try (have hs0 := δ.lt (w.heap.size) (by first | (simp; done) | (simp; omega)))
    go_wp2_with fail
    refine (lfrom_one _ P _ _ _ _ (by go_cell)).mono ?_
    rintro e _ ⟨rfl, hx⟩
    obtain ⟨δ, rfl⟩ : Ext (w.alloc (.cells #[.int .i64 W, .int .i64 H, .int .i64 P, .slice A L c] 37)) _ := Ext.trans (by (repeat' (first | with_reducible exact Ext.refl _ | with_reducible apply Ext.alloc | with_reducible apply Ext.drew | with_reducible apply Ext.drewN | with_reducible refine Ext.setCell ?_ ?_ _ | with_reducible apply Ext.step | with_reducible assumption | with_reducible exact Nat.le_refl _ | (simp; done) | (simp; omega)))) hx
    clear hx
    try (have hs0 := δ.lt (w.heap.size) (by first | (simp; done) | (simp; omega)))
    go_wp2_with fail
    go_ret2
    exact ⟨rfl, by (repeat' (first | with_reducible exact Ext.refl _ | with_reducible apply Ext.alloc | with_reducible apply Ext.drew | with_reducible apply Ext.drewN | with_reducible refine Ext.setCell ?_ ?_ _ | with_reducible apply Ext.step | with_reducible assumption | with_reducible exact Nat.le_refl _ | (simp; done) | (simp; omega)))⟩
  have hne : ((L : Int) != W * H) = false := by simpa using h3
  have h3' : ((L : Int) == W * H) = true := by simpa using h3
  have H3 := Lib.hid h3
  clear h3
  cases h4 : allB (-100) 100 hs
  · go_enter Try.func72, Try.ntmps72
    go_wp2_with fail
    refine (lfrom_two _ W H _ _ _ _ (by go_cell) (by go_cell)).mono ?_
    rintro e _ ⟨rfl, hx⟩
    obtain ⟨δ, rfl⟩ : Ext (w.alloc (.cells #[.int .i64 W, .int .i64 H, .int .i64 P, .slice A L c] 37)) _ := Ext.trans (by (repeat' (first | with_reducible exact Ext.refl _ | with_reducible apply Ext.alloc | with_reducible apply Ext.drew | with_reducible apply Ext.drewN | with_reducible refine Ext.setCell ?_ ?_ _ | with_reducible apply Ext.step | with_reducible assumption | with_reducible exact Nat.le_refl _ | (simp; done) | (simp; omega)))) hx
    clear hx
    try (have hs0 := δ.lt (w.heap.size) (by first | (simp; done) | (simp; omega)))
    go_wp2_with fail
    refine (lfrom_one _ P _ _ _ _ (by go_cell)).mono ?_
    rintro e _ ⟨rfl, hx⟩
    obtain ⟨δ, rfl⟩ : Ext (w.alloc (.cells #[.int .i64 W, .int .i64 H, .int .i64 P, .slice A L c] 37)) _ := Ext.trans (by (repeat' (first | with_reducible exact Ext.refl _ | with_reducible apply Ext.alloc | with_reducible apply Ext.drew | with_reducible apply Ext.drewN | with_reducible refine Ext.setCell ?_ ?_ _ | with_reducible apply Ext.step | with_reducible assumption | with_reducible exact Nat.le_refl _ | (simp; done) | (simp; omega)))) hx
    clear hx
    try (have hs0 := δ.lt (w.heap.size) (by first | (simp; done) | (simp; omega)))
    go_wp2_with fail
    refine (HI.out _ (by (repeat' (first | with_reducible exact Ext.refl _ | with_reducible apply Ext.alloc | with_reducible apply Ext.drew | with_reducible apply Ext.drewN | with_reducible refine Ext.setCell ?_ ?_ _ | with_reducible apply Ext.step | with_reducible assumption | with_reducible exact Nat.le_refl _ | (simp; done) | (simp; omega))))).mono ?_
    rintro e _ ⟨rfl, hx⟩
    obtain ⟨δ, rfl⟩ : Ext (w.alloc (.cells #[.int .i64 W, .int .i64 H, .int .i64 P, .slice A L c] 37)) _ := Ext.trans (by (repeat' (first | with_reducible exact Ext.refl _ | with_reducible apply Ext.alloc | with_reducible apply Ext.drew | with_reducible apply Ext.drewN | with_reducible refine Ext.setCell ?_ ?_ _ | with_reducible apply Ext.step | with_reducible assumption | with_reducible exact Nat.le_refl _ | (simp; done) | (simp; omega)))) hx
    clear hx
    try (have hs0 := δ.lt (w.heap.size) (by first | (simp; done) | (simp; omega)))
    go_wp2_with fail
    go_ret2
    exact ⟨rfl, by (repeat' (first | with_reducible exact Ext.refl _ | with_reducible apply Ext.alloc | with_reducible apply Ext.drew | with_reducible apply Ext.drewN | with_reducible refine Ext.setCell ?_ ?_ _ | with_reducible apply Ext.step | with_reducible assumption | with_reducible exact Nat.le_refl _ | (simp; done) | (simp; omega)))⟩
  · exact absurd HB.out (by simp [surfB, h1, h2, h4, HL.out, H3.out])

/-- The surface is at work. -/
def OpenGood (n m : Nat) (P : Int) (hs : List Int) (w : World) (e : Ending) (w' : World) : Prop := ∃ B, e = .returned (.tuple #[.pointer (some ⟨B, 0, none⟩), .int .i64 0]) ∧ Fld w' B n m P hs ∧ w.heap.size ≤ B ∧ Ext w w'

theorem hA_bd {hs : List Int} (h : allB (-100) 100 hs = true) (i : Nat) : -100 ≤ hA hs i ∧ hA hs i ≤ 100 := by
  unfold hA
  rcases Nat.lt_or_ge i hs.length with hi | hi
  · rw [List.getElem?_eq_getElem hi]
    exact inB_iff.1 (List.all_eq_true.1 h _ (List.getElem_mem hi))
  · rw [List.getElem?_eq_none hi]
    decide

set_option maxRecDepth 100000 in
set_option maxHeartbeats 8000000 in
theorem open_good (n m : Nat) (P : Int) (hv : Value) (hs : List Int) (w : World) (hI : intK.Is w hv hs) (hb : surfB ((n : Int) + 1) ((m : Int) + 1) P hs = true) :
    Calls Try.prog 72 #[surfV ((n : Int) + 1) ((m : Int) + 1) P hv] w (OpenGood n m P hs w) := by
  obtain ⟨⟨a1, a2⟩, ⟨b1, b2⟩, ⟨p1, p2⟩, hlen, hall⟩ := surfB_iff.1 hb
  obtain ⟨m1, m2⟩ := mul_bd (a := (n : Int) + 1) (b := (m : Int) + 1) (A := 24) (B := 24) (by omega) a2 (by omega) b2
  have hl := hI.len
  unfold maxLen at hl
  have HII := Lib.hid hI
  have HI := Lib.hid fun (W0 : World) (x : Ext w W0) => (show Calls Try.prog 64 #[.int .i64 (-100), .int .i64 100, hv] W0 fun e w' => e = .returned (.bool true) ∧ Ext W0 w' by
    have := lfrom_list hv hs (-100) 100 W0 (hI.ext x)
    rwa [hall] at this)
  have HL := Lib.hid hlen
  have HA := Lib.hid hall
  obtain ⟨A, c, rfl, _⟩ := hI
  generalize hL : hs.length = L at *
  have HLL := Lib.hid hL
  have h1 : (inB 2 24 ((n : Int) + 1) && inB 2 24 ((m : Int) + 1)) = true := by simp [inB]; omega
  have h2 : inB 1 100 P = true := inB_iff.2 ⟨p1, p2⟩
  have h3 : ((L : Int) == ((n : Int) + 1) * ((m : Int) + 1)) = true := by simpa using hlen
  have h3' : ((L : Int) != ((n : Int) + 1) * ((m : Int) + 1)) = false := by simpa using hlen
  have H12 := Lib.hid fun (b : Nat) (W0 : World) (c0 : W0.cell? ⟨b, 0, none⟩ = some (.int .i64 ((n : Int) + 1))) (c1 : W0.cell? ⟨b, 1, none⟩ = some (.int .i64 ((m : Int) + 1))) => (show Calls Try.prog 64 #[.int .i64 2, .int .i64 24, .slice (some ⟨b, 0, none⟩) 2 2] W0 fun e w' => e = .returned (.bool true) ∧ Ext W0 w' by
    have := lfrom_two b _ _ 2 24 2 W0 c0 c1
    rwa [h1] at this)
  have H2 := Lib.hid fun (b : Nat) (W0 : World) (c0 : W0.cell? ⟨b, 0, none⟩ = some (.int .i64 P)) => (show Calls Try.prog 64 #[.int .i64 1, .int .i64 100, .slice (some ⟨b, 0, none⟩) 1 1] W0 fun e w' => e = .returned (.bool true) ∧ Ext W0 w' by
    have := lfrom_one b _ 1 100 1 W0 c0
    rwa [h2] at this)
  clear hL hlen hall hb h1 h2
  refine (callsIn_wide (n := 3)).1 ?_
  refine callsIn_of_wp_marks Try.func72 rfl trivial ?_ rfl
  simp only [Try.ntmps72, List.size_toArray, List.length_cons, List.length_nil, Nat.reduceAdd, Nat.reduceSub, Array.replicate_succ, Array.replicate_zero, List.push_toArray, List.append_toArray, List.nil_append, List.cons_append]
  have F1 : Fence.wide.fn 64 := trivial
  have F2 : Fence.wide.fn 108 := trivial
  gi_wp2
  refine (callsIn_wide.2 (H12.out _ _ (by go_cell) (by go_cell))).mono ?_
  rintro e _ ⟨rfl, hx⟩
  obtain ⟨δ, rfl⟩ : Ext (w.alloc (.cells #[.int .i64 ((n : Int) + 1), .int .i64 ((m : Int) + 1), .int .i64 P, .slice A L c] 37)) _ := Ext.trans (by (repeat' (first | with_reducible exact Ext.refl _ | with_reducible apply Ext.alloc | with_reducible apply Ext.drew | with_reducible apply Ext.drewN | with_reducible refine Ext.setCell ?_ ?_ _ | with_reducible apply Ext.step | with_reducible assumption | with_reducible exact Nat.le_refl _ | (simp; done) | (simp; omega)))) hx
  clear hx
  try (have hs0 := δ.lt (w.heap.size) (by first | (simp; done) | (simp; omega)))
  gi_wp2
  refine (callsIn_wide.2 (H2.out _ _ (by go_cell))).mono ?_
  rintro e _ ⟨rfl, hx⟩
  obtain ⟨δ, rfl⟩ : Ext (w.alloc (.cells #[.int .i64 ((n : Int) + 1), .int .i64 ((m : Int) + 1), .int .i64 P, .slice A L c] 37)) _ := Ext.trans (by (repeat' (first | with_reducible exact Ext.refl _ | with_reducible apply Ext.alloc | with_reducible apply Ext.drew | with_reducible apply Ext.drewN | with_reducible refine Ext.setCell ?_ ?_ _ | with_reducible apply Ext.step | with_reducible assumption | with_reducible exact Nat.le_refl _ | (simp; done) | (simp; omega)))) hx
  clear hx
  try (have hs0 := δ.lt (w.heap.size) (by first | (simp; done) | (simp; omega)))
  gi_wp2
  refine (callsIn_wide.2 (HI.out _ (by (repeat' (first | with_reducible exact Ext.refl _ | with_reducible apply Ext.alloc | with_reducible apply Ext.drew | with_reducible apply Ext.drewN | with_reducible refine Ext.setCell ?_ ?_ _ | with_reducible apply Ext.step | with_reducible assumption | with_reducible exact Nat.le_refl _ | (simp; done) | (simp; omega)))))).mono ?_
  rintro e W9 ⟨rfl, x9⟩
  have z0 : W9.cell? ⟨w.heap.size, 0, none⟩ = some (.int .i64 ((n : Int) + 1)) := x9.cell_some (by go_cell)
  have z1 : W9.cell? ⟨w.heap.size, 1, none⟩ = some (.int .i64 ((m : Int) + 1)) := x9.cell_some (by go_cell)
  have z2 : W9.cell? ⟨w.heap.size, 2, none⟩ = some (.int .i64 P) := x9.cell_some (by go_cell)
  have z3 : W9.cell? ⟨w.heap.size, 3, none⟩ = some (.slice A L c) := x9.cell_some (by go_cell)
  have X9 : Ext w W9 := Ext.trans (by (repeat' (first | with_reducible exact Ext.refl _ | with_reducible apply Ext.alloc | with_reducible apply Ext.drew | with_reducible apply Ext.drewN | with_reducible refine Ext.setCell ?_ ?_ _ | with_reducible apply Ext.step | with_reducible assumption | with_reducible exact Nat.le_refl _ | (simp; done) | (simp; omega)))) x9
  have HX9 := Lib.hid X9
  have hz := cell_lt z0
  clear x9 X9
  have F3 : Fence.wide.fn 77 := trivial
  gi_wp2
  refine (cells_in Fence.wide 2 trivial rfl _ _).mono ?_
  rintro e _ ⟨rfl, rfl⟩
  gi_wp2
  have X9 := HX9.out
  refine lay_in (fun W => Ext w W ∧ W.heap.size = W9.heap.size + 3 ∧ W.cell? ⟨W9.heap.size, 0, none⟩ = some (.int .i64 ((n : Int) + 1)) ∧ W.cell? ⟨W9.heap.size, 1, none⟩ = some (.int .i64 ((m : Int) + 1)) ∧ W.cell? ⟨W9.heap.size, 2, none⟩ = some (.int .i64 P) ∧
    W.cell? ⟨W9.heap.size, 3, none⟩ = some (.slice A L c) ∧ W.cell? ⟨W9.heap.size, 4, none⟩ = some (.slice none 0 0) ∧ W.frozen? ⟨W9.heap.size, 4, none⟩ = false ∧ W.cell? ⟨W9.heap.size + 1, 0, none⟩ = some (.pointer (some ⟨W9.heap.size, 0, none⟩)) ∧ W.cell? ⟨W9.heap.size + 1 + 1, 0, none⟩ = some (.pointer (some ⟨W9.heap.size, 0, none⟩)))
    ⟨by (repeat' (first | with_reducible exact Ext.refl _ | with_reducible apply Ext.alloc | with_reducible apply Ext.drew | with_reducible apply Ext.drewN | with_reducible refine Ext.setCell ?_ ?_ _ | with_reducible apply Ext.step | with_reducible assumption | with_reducible exact Nat.le_refl _ | (simp; done) | (simp; omega))), by simp, by go_cell, by go_cell, by go_cell, by go_cell, by go_cell, by go_simp, by go_cell, by go_cell⟩ ?_
  rintro W0 ⟨X0, hs0, b0, b1, b2, b3, b4, g4, bp, bs⟩
  have hle := HX9.out.bel.size
  have hFA : FieldAt W0 W9.heap.size n m P hs := ⟨b0, b1, b2, ⟨_, b3, HII.out.ext X0⟩, by omega, by omega, by omega, by omega, p1, p2, by rw [HLL.out]; have := HL.out; rw [← Int.natCast_inj]; simpa using this, hA_bd HA.out⟩
  have HFA := Lib.hid hFA
  have HX0 := Lib.hid X0
  have hn2 := hFA.n2
  have hm2 := hFA.m2
  have hn1 := hFA.n1
  clear X9 hFA X0 z0 z1 z2 z3 hz m1 m2 h3 h3'
  refine wpIn_rangeFunc_acc (K := intK) (Bx := W9.heap.size) (off := 4) (N := m * n) (fun j => midC n hs (cx n j) (cy n j)) rfl (by decide) (gf := 109) (lb := #[.pointer (some ⟨W9.heap.size + 1 + 1, 0, none⟩)]) rfl trivial (enters_of Try.func109 (by kernel_rfl) rfl)
    (cells_stops Fence.wide 2 trivial rfl (by decide) (W9.heap.size + 1 + 1) W9.heap.size W9.heap.size 4 n m hn1 hn2 hm2 W0 (by omega) (by omega) bs b0 b1) (fun _ => rfl) b4 g4 ?a1 ?assign ?body ?done
  case assign =>
    intro l x W K hK
    simp only [cellEnc]
    gi_wp2
    exact hK
  case body =>
    intro l ans x W sv hlen hA hc ho
    have k0 := hA.cell b0 (.inr (by decide))
    have k1 := hA.cell b1 (.inr (by decide))
    have k2 := hA.cell b2 (.inr (by decide))
    have k3 := hA.cell b3 (.inr (by decide))
    have kp := hA.cell bp (.inl (by omega))
    have hFW : FieldAt W W9.heap.size n m P hs := ⟨k0, k1, k2, ⟨_, k3, hA.is (HII.out.ext HX0.out) (fun a ha => by have := HII.out.blk (by rw [HFA.out.hl]; exact Nat.mul_pos (by omega) (by omega)) a ha; omega)⟩, hn1, hn2, HFA.out.m1, hm2, p1, p2, HFA.out.hl, HFA.out.hb⟩
    have hcx : cx n x.val < n := cx_lt hn1
    have hcy : cy n x.val < m := cy_lt x.isLt
    have HCO := Lib.hid (corners_any W9.heap.size n m P hs (cx n x.val) (cy n x.val) W hFW hcx hcy)
    obtain ⟨md, hmd⟩ : ∃ z, z = midC n hs (cx n x.val) (cy n x.val) := ⟨_, rfl⟩
    show Code.wpIn _ _ _ _ (AccPost intK W0 W9.heap.size 4 W sv (ans ++ [midC n hs (cx n x.val) (cy n x.val)])) _ _
    rw [← hmd]
    unfold midC at hmd
    have cb0 := HFA.out.hb (cy n x.val * (n + 1) + cx n x.val)
    have cb1 := HFA.out.hb (cy n x.val * (n + 1) + cx n x.val + 1)
    have cb2 := HFA.out.hb (cy n x.val * (n + 1) + cx n x.val + (n + 1))
    have cb3 := HFA.out.hb (cy n x.val * (n + 1) + cx n x.val + (n + 1) + 1)
    change -100 ≤ cor0 n hs (cx n x.val) (cy n x.val) ∧ cor0 n hs (cx n x.val) (cy n x.val) ≤ 100 at cb0
    change -100 ≤ cor1 n hs (cx n x.val) (cy n x.val) ∧ cor1 n hs (cx n x.val) (cy n x.val) ≤ 100 at cb1
    change -100 ≤ cor2 n hs (cx n x.val) (cy n x.val) ∧ cor2 n hs (cx n x.val) (cy n x.val) ≤ 100 at cb2
    change -100 ≤ cor3 n hs (cx n x.val) (cy n x.val) ∧ cor3 n hs (cx n x.val) (cy n x.val) ≤ 100 at cb3
    generalize cor0 n hs (cx n x.val) (cy n x.val) = r0 at *
    generalize cor1 n hs (cx n x.val) (cy n x.val) = r1 at *
    generalize cor2 n hs (cx n x.val) (cy n x.val) = r2 at *
    generalize cor3 n hs (cx n x.val) (cy n x.val) = r3 at *
    generalize cx n x.val = xx at *
    generalize cy n x.val = yy at *
    have HMD := Lib.hid hmd
    have HAA := Lib.hid hA
    have HO := Lib.hid ho
    have HC := Lib.hid hc
    clear hmd hA ho hc hFW k0 k1 k2 k3
    have hWs := HAA.out.but.size
    gi_wp2
    refine (CallsIn.inRound l (callsIn_wide.2 HCO.out)).mono ?_
    rintro e W1 ⟨rfl, x1⟩
    have HX1 := Lib.hid x1
    have hp1 := x1.cell_some kp
    have hc1 := x1.cell_some HC.out
    have hw1 := x1.bel.size
    clear x1 kp
    gi_wp2
    have X1 := HX1.out
    refine lay_in (fun Wc => Ext W Wc ∧ Wc.heap.size = W1.heap.size + 1 ∧ Wc.cell? ⟨W1.heap.size, 0, none⟩ = some (.int .i64 r0) ∧ Wc.cell? ⟨W1.heap.size, 1, none⟩ = some (.int .i64 r1) ∧ Wc.cell? ⟨W1.heap.size, 2, none⟩ = some (.int .i64 r2) ∧ Wc.cell? ⟨W1.heap.size, 3, none⟩ = some (.int .i64 r3) ∧
      Wc.cell? ⟨W9.heap.size + 1, 0, none⟩ = some (.pointer (some ⟨W9.heap.size, 0, none⟩)) ∧ Wc.cell? ⟨W9.heap.size, 4, none⟩ = some sv) ⟨by (repeat' (first | with_reducible exact Ext.refl _ | with_reducible apply Ext.alloc | with_reducible apply Ext.drew | with_reducible apply Ext.drewN | with_reducible refine Ext.setCell ?_ ?_ _ | with_reducible apply Ext.step | with_reducible assumption | with_reducible exact Nat.le_refl _ | (simp; done) | (simp; omega))), by simp, by go_cell, by go_cell, by go_cell, by go_cell, (X1.alloc _).cell_some (HAA.out.cell bp (.inl (by omega))), (X1.alloc _).cell_some HC.out⟩ ?_
    rintro Wc ⟨Xc, hsc, y0, y1, y2, y3, yp, ym⟩
    have hnot : ∀ b, b < W0.heap.size ∨ W.heap.size ≤ b → b ∉ sv.ownBlock.toList := fun b hb => notin_own (fun g hg => by have := HO.out.lt g hg; omega)
    have q0 := But.cells (D := sv.ownBlock.toList) y0 (hnot _ (.inr (by omega)))
    have q1 := But.cells (D := sv.ownBlock.toList) y1 (hnot _ (.inr (by omega)))
    have q2 := But.cells (D := sv.ownBlock.toList) y2 (hnot _ (.inr (by omega)))
    have q3 := But.cells (D := sv.ownBlock.toList) y3 (hnot _ (.inr (by omega)))
    have qp := But.cells (D := sv.ownBlock.toList) yp (hnot _ (.inl (by omega)))
    have qm := But.cells (D := sv.ownBlock.toList) ym (hnot _ (.inl (by omega)))
    have i1 : IntKind.i64.wrap (r0 + r1) = r0 + r1 := IntWalk.i64_in _ (by omega)
    have i2 : IntKind.i64.wrap (r0 + r1 + r2) = r0 + r1 + r2 := IntWalk.i64_in _ (by omega)
    have i3 : IntKind.i64.wrap (r0 + r1 + r2 + r3) = r0 + r1 + r2 + r3 := IntWalk.i64_in _ (by omega)
    have HXc := Lib.hid Xc
    have HYM := Lib.hid ym
    clear y0 y1 y2 y3 yp ym hp1 hc1 X1 Xc hnot HX1
    refine wpIn_region_pull sv.ownBlock.toList 18 [0, 1, 2, 3, 4, 5, 6, 7, 8, 9, 10, 11, 12, 13, 14, 15] [16, 17] (by kernel_rfl) (by kernel_rfl) ?_
    repeat (refine wpQD_step (by rfl) (fun _ _ _ => trivial) (fun K hK => ?_); go_simp; refine hK _ ?_; clear hK K)
    refine wpQD_nil ?_
    refine wpMD_step (by rfl) (fun _ _ _ => trivial) (fun δ K hK => ?_)
    go_simp
    refine ⟨((Ext.refl _).alloc _).but, hK _ _ ?_⟩
    clear hK K
    have Xd : Ext W δ.wd := HXc.out.trans ⟨δ, rfl⟩
    refine EK.app_mid (K := intK) (B := W0.heap.size) (xs := ans) (by rfl) rfl (.tmp 54) (.tmp 66) rfl δ.wd.heap.size 1 (r0 + r1 + r2 + r3) rfl rfl (fun i u hu => cell_new hu) (HO.out.ext (Xd.alloc _)) (Nat.le_trans hWs (Xd.alloc _).bel.size) (by have := Nat.mul_le_mul hm2 hn2; omega) ?_
    intro v' w2 w3 o3 x2 g3
    rw [← HMD.out] at o3
    obtain ⟨Av, kv, cv, rfl⟩ := o3.shape
    refine wpMD_nil ?_
    intro w4 x4
    have e2 := ((Xd.alloc _).trans x2).cell_some HC.out
    have e3 := g3.cell e2 (fun e => by have := HO.out.lt _ e.symm; simp at this; omega)
    have f3 : w3.frozen? ⟨W9.heap.size, 4, none⟩ = false := by
      rw [← ((Xd.alloc _).trans x2).frozen HC.out HAA.out.fr]
      exact World.frozen?_of_block (g3.block W9.heap.size (cell_lt e2) (fun e => by have := HO.out.lt _ e.symm; omega))
    have f4 := x4.frozen e3 f3
    have e4 := x4.cell_some e3
    have HX2 := Lib.hid ((Xd.alloc _).trans x2)
    have HX4 := Lib.hid x4
    have HG3 := Lib.hid g3
    have HO3 := Lib.hid o3
    clear e2 e3 f3 x2 x4 g3 o3 qp qm q0 q1 q2 q3 i1 i2 i3
    have l4 := cell_lt e4
    simp only [List.drop_succ_cons, List.drop_zero]
    gi_wp2
    exact ⟨_, _, _, _, HX2.out, HG3.out, HO3.out, HX4.out, Ext.refl _⟩
  case done =>
    intro D W sv hD hA hc ho hK
    have kp := hA.cell bp (.inl (by omega))
    have k0 := hA.cell b0 (.inr (by decide))
    have k1 := hA.cell b1 (.inr (by decide))
    have k2 := hA.cell b2 (.inr (by decide))
    have k3 := hA.cell b3 (.inr (by decide))
    have hFW : FieldAt W W9.heap.size n m P hs := ⟨k0, k1, k2, ⟨_, k3, hA.is (HII.out.ext HX0.out) (fun a ha => by have := HII.out.blk (by rw [HFA.out.hl]; exact Nat.mul_pos (by omega) (by omega)) a ha; omega)⟩, hn1, hn2, HFA.out.m1, hm2, p1, p2, HFA.out.hl, HFA.out.hb⟩
    have HFW := Lib.hid hFW
    have HO := Lib.hid ho
    have HAA := Lib.hid hA
    have HK := Lib.hid hK
    have HC := Lib.hid hc
    clear hFW hA ho k0 k1 k2 k3 hc hK
    gi_wp2
    refine leaves_marks [D] W (by simp) (mark_one HK.out) (fun W' hW => ⟨_, results_tmp2 rfl _ _ _, W9.heap.size, rfl, ⟨HFW.out.cells (hW.cells (mark_one HK.out)) (fun _ _ => trivial), sv, hW.cell (mark_one HK.out) HC.out, (HO.out.put hW (mark_one HK.out)).is⟩, hle, hW.ext (HAA.out.but.below HX0.out (by simpa using hle)) (by have := HX0.out.bel.size; simp; omega)⟩)
end
open Go.RowKit

def tiltK : EK (Int × Int) := ⟨23, 40, 2, fun x => [.int .i64 x.1, .int .i64 x.2], .agg #[.int .i64 0, .int .i64 0], 16, Try.underlying40, by kernel_rfl, rfl, by decide, by decide, fun _ => rfl, by simp [Value.oneCell']⟩
def shadeK : EK (Int × Int) := ⟨27, 57, 2, fun x => [.int .i64 x.1, .int .i64 x.2], .agg #[.int .i64 0, .int .i64 0], 16, Try.underlying57, by kernel_rfl, rfl, by decide, by decide, fun _ => rfl, by simp [Value.oneCell']⟩
def boolK : EK Bool := ⟨4, 52, 1, fun x => [.bool x], .bool false, 1, Try.underlying52, by kernel_rfl, rfl, by decide, by decide, fun _ => rfl, by simp [Value.oneCell']⟩
def lightK : EK (Int × Int × Int) := ⟨25, 70, 3, fun x => [.int .i64 x.1, .int .i64 x.2.1, .int .i64 x.2.2], .agg #[.int .i64 0, .int .i64 0, .int .i64 0], 24, Try.underlying70, by kernel_rfl, rfl, by decide, by decide, fun _ => rfl, by simp [Value.oneCell']⟩

/-- What makes a slice of its own. -/
def RetE {α : Type} (K : EK α) (w : World) (xs : List α) (e : Ending) (w' : World) : Prop := ∃ v, e = .returned v ∧ K.Own w.heap.size w' v xs ∧ Ext w w'
/-- .. with an error number. -/
def RetEE {α : Type} (K : EK α) (w : World) (xs : List α) (k : Int) (e : Ending) (w' : World) : Prop := ∃ v, e = .returned (.tuple #[v, .int .i64 k]) ∧ K.Own w.heap.size w' v xs ∧ Ext w w'

end Go.Proofs.Ytlljhimaopnbfaa
