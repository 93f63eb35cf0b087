/- The law's twin of a work. Condition: the cuts read as a list. -/
import Derived.Test.YtgeapenglcohfaaGAppD
import Derived.Test.YtgeapenglcohfaaGWkP
import Derived.Deep.Cut
namespace Go.Proofs.Ytgeapenglcohfaa
open Go.RowKit

section
variable {α : Type} {K : EK α}
theorem flat_put : ∀ (xs : List α) (j i : Nat) (y : α) (u : Value) (h : j < xs.length) (_ : i < K.k) (_ : K.enc y = (K.enc xs[j]).set i u), (xs.set j y).flatMap K.enc = (xs.flatMap K.enc).set (j * K.k + i) u
  | x :: xs, 0, i, y, u, _, hi, hy => by
    have hl : i < (K.enc x).length := by rw [K.len]; exact hi
    simp only [List.set_cons_zero, List.flatMap_cons, Nat.zero_mul, Nat.zero_add]
    rw [List.set_append_left _ _ hl]
    simp only [List.getElem_cons_zero] at hy
    rw [hy]
  | x :: xs, j + 1, i, y, u, h, hi, hy => by
    have ih := flat_put xs j i y u (by simpa using h) hi (by simpa using hy)
    simp only [List.set_cons_succ, List.flatMap_cons]
    rw [ih, List.set_append_right _ _ (by rw [K.len, Nat.succ_mul]; omega)]
    congr 2
    rw [K.len, Nat.succ_mul]
    omega
theorem EK.Own.putI {B : Nat} {w : World} {g c N : Nat} {xs : List α} (h : K.Own B w (.slice (some ⟨g, 0, none⟩) N c) xs) (hl : xs.length = N) {j i : Nat} (hj : j < xs.length) (hi : i < K.k) (y : α) (u : Value) (hy : K.enc y = (K.enc xs[j]).set i u) :
    K.Own B (w.setCell ⟨g, j * K.k + i, none⟩ u) (.slice (some ⟨g, 0, none⟩) N c) (xs.set j y) := by
  subst hl
  have := (World.ownsRow.stored h (j * K.k + i) u).1
  rw [← flat_put xs j i y u hj hi hy] at this
  simpa [EK.Own] using this
theorem own_lit2 {w : World} {o1 o2 : Obj} : K.Own w.heap.size (((w.alloc o1).alloc o2).alloc (.cells #[] K.ty)) (.slice (some ⟨w.heap.size + 1 + 1, 0, none⟩) 0 0) [] := by
  have := EK.Own.lit (K := K) (B := w.heap.size) ((w.alloc o1).alloc o2) #[] [] rfl (by simp; omega) (Nat.zero_le _)
  simpa using this
end

/-- The cuts of a twin: in blocks of its own, no two in the same one. -/
structure TwinM (k : WkT) (B : Nat) (w0 w : World) (v : Value) (Ts : List CutR) (j : Nat) : Prop where
  own : cutK.Own B w v Ts
  len : Ts.length = k.cuts.length
  rest : ∀ q (h : q < Ts.length) (h' : q < k.cuts.length), Ts[q].2 = k.cuts[q].2
  done : ∀ q (h : q < Ts.length) (h' : q < k.cuts.length), q < j → spotK.Own B w (rowV Ts[q].1) k.cuts[q].1
  old : ∀ q (h : q < Ts.length) (h' : q < k.cuts.length), j ≤ q → spotK.Is w0 (rowV Ts[q].1) k.cuts[q].1
  dist : ∀ p q (h : p < Ts.length) (h' : q < Ts.length), p < j → q < j → p ≠ q → (rowV Ts[p].1).ownBlock = none ∨ (rowV Ts[p].1).ownBlock ≠ (rowV Ts[q].1).ownBlock
theorem TwinM.ext {k : WkT} {B : Nat} {w0 w w' : World} {v : Value} {Ts : List CutR} {j : Nat} (h : TwinM k B w0 w v Ts j) (x : Ext w w') : TwinM k B w0 w' v Ts j :=
  ⟨h.own.ext x, h.len, h.rest, fun q a b c => (h.done q a b c).ext x, h.old, h.dist⟩
theorem TwinM.cuts {k : WkT} {B : Nat} {w0 w : World} {v : Value} {Ts : List CutR} (h : TwinM k B w0 w v Ts k.cuts.length) : CutsIs w v k.cuts :=
  ⟨Ts, h.own.is, h.len, fun q a b => ⟨(h.done q a b b).is, h.rest q a b⟩⟩

theorem spot_cut_ne : spotK.ty ≠ cutK.ty := by decide
/-- One more of the cuts' spots are copied. -/
theorem TwinM.step {k : WkT} {B : Nat} {w0 w w1 : World} {g c N : Nat} {Ts : List CutR} {j : Nat} (h : TwinM k B w0 w (.slice (some ⟨g, 0, none⟩) N c) Ts j) (hN : Ts.length = N) (hj : j < Ts.length) (hjk : j < k.cuts.length) (T1 : RowT) (x : Ext w w1)
    (ho : spotK.Own w.heap.size w1 (rowV T1) k.cuts[j].1) (hB : B ≤ w.heap.size) : TwinM k B w0 (w1.setCell ⟨g, j * 3, none⟩ (rowV T1)) (.slice (some ⟨g, 0, none⟩) N c) (Ts.set j (T1, Ts[j].2)) (j + 1) := by
  have e : ∀ q (hq : q < (Ts.set j (T1, Ts[j].2)).length), (Ts.set j (T1, Ts[j].2))[q] = if j = q then (T1, Ts[j].2) else Ts[q]'(by simpa using hq) := fun q hq => List.getElem_set ..
  have ho1 := h.own.ext x
  have hne : ∀ {B' : Nat} {v : Value} {xs : List (Int × Int)}, spotK.Own B' w1 v xs → spotK.Own B' (w1.setCell ⟨g, j * 3, none⟩ (rowV T1)) v xs := fun {B' v xs} hs => hs.oth (by
    have := own_ne hs ho1 spot_cut_ne
    simpa [Value.ownBlock] using this)
  refine ⟨?_, by simpa using h.len, fun q a b => ?_, fun q a b hq => ?_, fun q a b hq => ?_, fun p q a b hp hq hpq => ?_⟩
  · have := ho1.putI hN (j := j) (i := 0) hj (by decide) (T1, Ts[j].2) (rowV T1) rfl
    rw [Nat.add_zero] at this
    exact this
  · rw [e]
    split
    · rename_i hjq
      subst hjq
      exact h.rest j hj b
    · exact h.rest q (by simpa using a) b
  · rw [e]
    split
    · rename_i hjq
      subst hjq
      exact (hne ho).mono hB
    · exact hne ((h.done q (by simpa using a) b (by omega)).ext x)
  · rw [e, if_neg (by omega)]
    exact h.old q (by simpa using a) b (by omega)
  · have ha : p < Ts.length := by simpa using a
    have hb : q < Ts.length := by simpa using b
    have hlk := h.len
    rw [e, e]
    have key : ∀ p (ha : p < Ts.length), p < j → ∀ r, (rowV Ts[p].1).ownBlock = some r → r < w.heap.size := fun p ha hp r hr => ((h.done p ha (by omega) hp).lt r hr).2
    have keyj : ∀ r, (rowV T1).ownBlock = some r → w.heap.size ≤ r := fun r hr => (ho.lt r hr).1
    by_cases hpj : j = p
    · rw [if_pos hpj, if_neg (by omega)]
      cases hr : (rowV T1).ownBlock with
      | none => exact .inl rfl
      | some r =>
        refine .inr fun he => ?_
        have h1 := keyj r hr
        have h2 := key q hb (by omega) r he.symm
        omega
    · rw [if_neg hpj]
      by_cases hqj : j = q
      · rw [if_pos hqj]
        cases hr : (rowV Ts[p].1).ownBlock with
        | none => exact .inl rfl
        | some r =>
          refine .inr fun he => ?_
          have h1 := key p ha (by omega) r hr
          have h2 := keyj r he.symm
          omega
      · rw [if_neg hqj]
        exact h.dist p q ha hb (by omega) (by omega) hpq
/-- A cell of a block is stored. -/
theorem BoxAt.setCell {b : Nat} {cs : Array Value} {T : TypeId} {W : World} (h : BoxAt b cs T W) (i : Nat) (v : Value) : BoxAt b (cs.setIfInBounds i v) T (W.setCell ⟨b, i, none⟩ v) := by
  rw [setCell_eq_setRow W b i cs T (0, 0) v h]
  exact h.setRow _
theorem BoxAt.setOther {b : Nat} {cs : Array Value} {T : TypeId} {W : World} (h : BoxAt b cs T W) {p : Addr} (hp : b ≠ p.block) (v : Value) : BoxAt b cs T (W.setCell p v) := (heap_setCell_other W p b v hp).trans h
theorem twin_len {B : Nat} {w : World} {A : Option Addr} {k c n : Nat} {Ts : List CutR} (h : cutK.Own B w (.slice A k c) Ts) (hn : Ts.length = n) : k = n := by
  obtain ⟨_, _, he, _⟩ := h.is
  simp only [Value.slice.injEq] at he
  omega
theorem twin_boxes {w w3 : World} {cs ds : Array Value} {T S U : TypeId} (b3 : Below w.heap.size (((w.alloc (.cells cs T)).alloc (.cells ds S)).alloc (.cells #[] U)) w3) (g3 : (((w.alloc (.cells cs T)).alloc (.cells ds S)).alloc (.cells #[] U)).grownBy w3 (Value.slice (some ⟨w.heap.size + 1 + 1, 0, none⟩) 0 0).ownBlock) :
    BoxAt w.heap.size cs T w3 ∧ BoxAt (w.heap.size + 1) ds S w3 ∧ Ext w w3 := by
  have h1 : BoxAt w.heap.size cs T (((w.alloc (.cells cs T)).alloc (.cells ds S)).alloc (.cells #[] U)) := ((BoxAt.new w cs T).ext (((Ext.refl _).alloc _).alloc _))
  have h2 : BoxAt (w.heap.size + 1) ds S (((w.alloc (.cells cs T)).alloc (.cells ds S)).alloc (.cells #[] U)) := by
    have := (BoxAt.new (w.alloc (.cells cs T)) ds S).ext ((Ext.refl _).alloc (.cells #[] U))
    simpa using this
  refine ⟨(g3.block _ h1.lt (by simp [Value.ownBlock] <;> omega)).trans h1, (g3.block _ h2.lt (by simp [Value.ownBlock])).trans h2, ?_⟩
  exact Ext.below (((Ext.refl w).alloc _).alloc _ |>.alloc _) b3 (Nat.le_refl _)

theorem but_grown' {b : Nat} {W W' : World} (h : But [b] W W') : W.grownBy W' (some b) :=
  ⟨h.os, h.tape, h.output, h.size, fun i hi hne => h.block i hi (by simpa using fun e => hne (by rw [e]))⟩
/-- A struct of another type is stored whole: the twin's cuts stay. -/
theorem TwinM.row {k : WkT} {B b : Nat} {w0 w w' : World} {v : Value} {Ts : List CutR} {j : Nat} {cs : Array Value} {T : TypeId} (h : TwinM k B w0 w v Ts j) (hb : BoxAt b cs T w) (h1 : cutK.ty ≠ T) (h2 : spotK.ty ≠ T) (x : But [b] w w') : TwinM k B w0 w' v Ts j :=
  ⟨h.own.kept (but_grown' x) (.inr (h.own.box_ne hb h1)), h.len, h.rest, fun q a c d => (h.done q a c d).kept (but_grown' x) (.inr ((h.done q a c d).box_ne hb h2)), h.old, h.dist⟩

set_option maxRecDepth 100000 in
set_option maxHeartbeats 4000000 in
theorem twin_any (k : WkT) (v : Value) (w : World) (hI : CutsIs w v k.cuts) (hl : k.cuts.length ≤ 1000) (hsl : ∀ c ∈ k.cuts, c.1.length ≤ 1000) :
    Calls Try.prog 34 #[k.val v] w fun e w' => ∃ v' Ts, e = .returned (k.val v') ∧ TwinM k w.heap.size w w' v' Ts k.cuts.length ∧ Ext w w' := by
  have hI' := hI
  obtain ⟨Ts0, hTs, hTl, hTq⟩ := hI'
  have HTS := Lib.hid hTs
  obtain ⟨A, c, hv, h0, hc, -⟩ := hTs
  rw [hTl] at hv hc
  subst hv
  have HTQ := Lib.hid hTq
  have HTL := Lib.hid hTl
  obtain ⟨n, hn⟩ : ∃ n, n = k.cuts.length := ⟨_, rfl⟩
  rw [← hn] at HTS HTL hl hc ⊢
  have HN := Lib.hid hn
  clear hI hTq hTl hn h0
  have hsum : ([] : List CutR).length + Ts0.length ≤ 1000000000 := by rw [HTL.out]; simp; omega
  have HSM := Lib.hid hsum
  clear hsum
  go_enter Try.func34, Try.ntmps34
  go_wp2_with (at_builtin; refine EK.appAll (K := cutK) (B := w.heap.size) (xs := []) rfl (.tmp 4) (.tmp 6) rfl rfl rfl (HTS.out.ext (by (repeat' (first | with_reducible exact Ext.refl _ | with_reducible apply Ext.alloc | with_reducible apply Ext.drew | with_reducible apply Ext.drewN | with_reducible refine Ext.setCell ?_ ?_ _ | with_reducible apply Ext.step | with_reducible assumption | with_reducible exact Nat.le_refl _ | (simp; done) | (simp; omega))))) own_lit2 (by simp; omega) HSM.out ?_; intro v' w3 o3 b3 g3; have HO3 := Lib.hid (show cutK.Own w.heap.size w3 v' Ts0 by simpa using o3); have HW3 := Lib.hid (show BoxAt w.heap.size #[.int .i64 k.tip, .int .i64 k.num, .int .i64 k.den, .int .i64 k.bite, .int .i64 k.slack, .int .i64 k.wall, .int .i64 k.deepest, .int .i64 k.play, .int .i64 k.fx, .int .i64 k.fy, .int .i64 k.fh, .int .i64 k.fd, .slice A n c] 59 w3 ∧ BoxAt (w.heap.size + 1) #[.int .i64 0, .int .i64 0, .int .i64 0, .int .i64 0, .int .i64 0, .int .i64 0, .int .i64 0, .int .i64 0, .int .i64 0, .int .i64 0, .int .i64 0, .int .i64 0, .slice none 0 0] 59 w3 ∧ Ext w w3 from twin_boxes b3 g3); obtain ⟨Av, kv, cv, rfl⟩ := own_shapeW o3; obtain rfl : kv = n := twin_len HO3.out HTL.out; have hz12 := HW3.out.1.cell (i := 12) rfl; have hf12 := frozen_of_row w3 w.heap.size 12 _ _ HW3.out.1; have lz := cell_lt hz12; clear o3 b3 g3)
  have hne : w.heap.size ≠ w.heap.size + 1 := by omega
  have hown4 := HO3.out.oth (g := w.heap.size) (o := 12) (u := .slice Av kv cv) (.inr (HO3.out.box_ne HW3.out.1 (by decide)))
  have HT4 := Lib.hid (show TwinM k w.heap.size w (w3.setCell ⟨w.heap.size, 12, none⟩ (.slice Av kv cv)) (.slice Av kv cv) Ts0 0 from ⟨hown4, by rw [HTL.out, HN.out], fun q a b => (HTQ.out q a b).2, fun q a b hq => absurd hq (by omega), fun q a b _ => (HTQ.out q a b).1, fun p q _ _ hp => absurd hp (by omega)⟩)
  have hb4 : BoxAt w.heap.size #[.int .i64 k.tip, .int .i64 k.num, .int .i64 k.den, .int .i64 k.bite, .int .i64 k.slack, .int .i64 k.wall, .int .i64 k.deepest, .int .i64 k.play, .int .i64 k.fx, .int .i64 k.fy, .int .i64 k.fh, .int .i64 k.fd, .slice Av kv cv] 59 (w3.setCell ⟨w.heap.size, 12, none⟩ (.slice Av kv cv)) := HW3.out.1.setCell 12 _
  have HB4 := Lib.hid hb4
  clear hown4 hb4
  refine lay_wp (fun W => Ext w W ∧ BoxAt w.heap.size #[.int .i64 k.tip, .int .i64 k.num, .int .i64 k.den, .int .i64 k.bite, .int .i64 k.slack, .int .i64 k.wall, .int .i64 k.deepest, .int .i64 k.play, .int .i64 k.fx, .int .i64 k.fy, .int .i64 k.fh, .int .i64 k.fd, .slice Av kv cv] 59 W ∧ BoxAt (w.heap.size + 1) #[.int .i64 0, .int .i64 0, .int .i64 0, .int .i64 0, .int .i64 0, .int .i64 0, .int .i64 0, .int .i64 0, .int .i64 0, .int .i64 0, .int .i64 0, .int .i64 0, .slice none 0 0] 59 W ∧ TwinM k w.heap.size w W (.slice Av kv cv) Ts0 0) ⟨HW3.out.2.2.setCell (Nat.le_refl _) _, HB4.out, HW3.out.2.1.setOther (by simp) _, HT4.out⟩ ?_
  clear HT4 HB4 hz12 hf12 lz HW3 HO3 HSM
  clear w3
  rintro W4 ⟨x4, b4, z4, t4⟩
  have X4 := Lib.hid x4
  have B4 := Lib.hid b4
  have Z4 := Lib.hid z4
  have T4 := Lib.hid t4
  have hs4 := b4.lt
  clear x4 b4 z4 t4
  go_loopw [12] (fun iv wr => ∃ (j : Nat) (Ts : List CutR), j ≤ kv ∧ iv = .int .i64 j ∧ Ext w wr ∧ BoxAt w.heap.size #[.int .i64 k.tip, .int .i64 k.num, .int .i64 k.den, .int .i64 k.bite, .int .i64 k.slack, .int .i64 k.wall, .int .i64 k.deepest, .int .i64 k.play, .int .i64 k.fx, .int .i64 k.fy, .int .i64 k.fh, .int .i64 k.fd, .slice Av kv cv] 59 wr ∧ BoxAt (w.heap.size + 1) #[.int .i64 0, .int .i64 0, .int .i64 0, .int .i64 0, .int .i64 0, .int .i64 0, .int .i64 0, .int .i64 0, .int .i64 0, .int .i64 0, .int .i64 0, .int .i64 0, .slice none 0 0] 59 wr ∧ TwinM k w.heap.size w wr (.slice Av kv cv) Ts j) (fun iv _ => kv - (intOf iv).toNat)
  case atStart => exact ⟨0, Ts0, by omega, rfl, X4.out, B4.out, Z4.out, T4.out⟩
  case round =>
    obtain ⟨j, Ts, hj, rfl, hx, hb, hz, ht⟩ := hrel
    have HX := Lib.hid hx
    have HB := Lib.hid hb
    have HZ := Lib.hid hz
    have HT := Lib.hid ht
    have HLE := Lib.hid (show Ts.length = kv from twin_len ht.own rfl |>.symm)
    have hlb := hb.lt
    have h12 : wr.cell? ⟨w.heap.size, 12, none⟩ = some (.slice Av kv cv) := hb.cell rfl
    by_cases hlt : j < kv
    · have hjT : j < Ts.length := by rw [HLE.out]; exact hlt
      have hjk : j < k.cuts.length := by rw [← HN.out]; exact hlt
      obtain ⟨g, c', he, hg1, hg2, hcl, hfr⟩ := ht.own.slot hjT
      simp only [Value.slice.injEq] at he
      obtain ⟨rfl, -, rfl⟩ := he
      have HSP := Lib.hid (ht.old j hjT hjk (Nat.le_refl _))
      have d0 : wr.cell? ⟨g, j * 3, none⟩ = some (rowV Ts[j].1) := hcl 0 _ rfl
      have f0 := hfr (j * 3)
      have hgb : g ≠ w.heap.size := fun e => ht.own.box_ne hb (by decide) (by simp [Value.ownBlock, e])
      have hgz : g ≠ w.heap.size + 1 := fun e => ht.own.box_ne hz (by decide) (by simp [Value.ownBlock, e])
      have hlen := (HTQ.out j (by rw [HTL.out]; exact hlt) hjk)
      have hsl' := hsl _ (List.getElem_mem hjk)
      have HSL := Lib.hid hsl'
      obtain ⟨T, hT⟩ : ∃ T, T = Ts[j].1 := ⟨_, rfl⟩
      rw [← hT] at d0 HSP
      obtain ⟨T1, T2, T3⟩ := T
      simp only [rowV] at d0
      have hji : (j : Int) < (kv : Int) := by omega
      have q0 := But.cells (D := []) h12 (by simp)
      have r12 : ∀ δ : BExt wr, δ.wd.cell? ⟨w.heap.size, 12, none⟩ = some (.slice (some ⟨g, 0, none⟩) kv cv) := fun δ => Ext.cell_some ⟨δ, rfl⟩ h12
      clear hx hb hz ht hcl hfr hlen hsl' hT
      go_wp2_with fail
      refine (wpIn_wide (n := 3)).1 ?_
      refine wpIn_region_qmt (B := wr.heap.size) 11 [0, 1, 2, 4, 5, 6, 7, 8, 9] [3, 10] (Nat.le_refl _) (by kernel_rfl) (by kernel_rfl) ?_
      repeat (refine wpQ_step (by rfl) (fun _ _ _ => trivial) (fun K hK => ?_); go_simp; refine hK _ ?_; clear hK K)
      refine wpQ_nil ?_
      refine wpM_step (by rfl) (wanted_noneG rfl) (fun _ => rfl) (fun δ K hK => ?_)
      go_simp
      have X1 : Ext wr δ.wd := ⟨δ, rfl⟩
      refine ⟨(Below.refl _ _).alloc (Nat.le_refl _) _ |>.mono δ.bel.size, hK _ _ ?_⟩
      clear hK K
      refine EK.appAll_M (K := spotK) (B' := wr.heap.size) (v := .slice (some ⟨δ.wd.heap.size, 0, none⟩) 0 0) (xs := []) (by rfl) rfl (.tmp 18) (.tmp 24) rfl rfl rfl (HSP.out.ext ((HX.out.trans X1).alloc _)) (EK.Own.lit (K := spotK) δ.wd #[] [] rfl X1.bel.size (Nat.zero_le _)) (Nat.le_refl _) (X1.alloc _).bel.size (by have := HSL.out; simp; omega) ?_
      intro v1 w1 o1 b1
      refine wpM_nil ?_
      intro w2 x2
      have X3 : Ext wr w2 := ((X1.alloc _).below b1 (Nat.le_refl _)).trans x2
      obtain ⟨A1, k1, c1, rfl⟩ := own_shapeW o1
      have HST := Lib.hid (HT.out.step HLE.out hjT hjk (A1, k1, c1) X3 (by simpa [rowV] using o1.ext x2) (by have := HX.out.bel.size; omega))
      have HX3 := Lib.hid X3
      have HB3 := Lib.hid ((HB.out.ext X3).setOther (p := ⟨g, j * 3, none⟩) (Ne.symm hgb) (.slice A1 k1 c1))
      have HZ3 := Lib.hid ((HZ.out.ext X3).setOther (p := ⟨g, j * 3, none⟩) (Ne.symm hgz) (.slice A1 k1 c1))
      have HE3 := Lib.hid (show Ext w (w2.setCell ⟨g, j * 3, none⟩ (.slice A1 k1 c1)) from (HX.out.trans X3).setCell hg1 _)
      replace f0 := X3.frozen d0 f0
      replace d0 := X3.cell_some d0
      have ld := cell_lt d0
      clear X1 X3 o1 b1 x2 q0 r12
      simp only [List.drop_succ_cons, List.drop_zero]
      gi_wp2
      go_wp2_with fail
      go_roundw
      case rel => exact ⟨j + 1, _, by omega, by go_num, HE3.out, HB3.out, HZ3.out, HST.out⟩
      case measure => simp [intOf]; omega
    · obtain rfl : j = kv := by omega
      have HTF := Lib.hid HT.out
      obtain ⟨h0, h1, h2, h3, h4, h5, h6, h7, h8, h9, h10, h11, h12'⟩ := WkAt.box (k := k) hb
      have lz := HZ.out.lt
      clear hx hb hz ht
      go_upto_region 7 with fail
      refine wp_region_lit ?_
      iterate 1 (refine wpList_plain (by rfl) (fun K hK => ?_); go_simp; refine hK _ _ ?_; clear hK K)
      refine wpList_store_row rfl 59 (.tmp 2) (.tmp 29) rfl (w.heap.size + 1) _ rfl rfl 59 #[.int .i64 0, .int .i64 0, .int .i64 0, .int .i64 0, .int .i64 0, .int .i64 0, .int .i64 0, .int .i64 0, .int .i64 0, .int .i64 0, .int .i64 0, .int .i64 0, .slice none 0 0] HZ.out (by kernel_rfl) rfl (by simp [Value.oneCell']) ?_
      refine lay_list (fun W => WkAt k (.slice Av j cv) (w.heap.size + 1) W ∧ TwinM k w.heap.size w W (.slice Av j cv) Ts j ∧ Ext w W) ⟨WkAt.box (k := k) (BoxAt.setRow HZ.out _), HTF.out.row HZ.out (by decide) (by decide) (setRow_but _ _ _), (setRow_but _ _ _).below HX.out (by simp)⟩ ?_
      rintro W ⟨⟨g0, g1, g2, g3, g4, g5, g6, g7, g8, g9, g10, g11, g12⟩, ht, hx⟩
      have HTT := Lib.hid ht
      have HXX := Lib.hid hx
      clear ht hx h0 h1 h2 h3 h4 h5 h6 h7 h8 h9 h10 h11 h12'
      go_wp2_with fail
      refine bodyPost_ret (v := k.val (.slice Av j cv)) (by simp [results, Try.results34, go_sem, WkT.val, g0, g1, g2, g3, g4, g5, g6, g7, g8, g9, g10, g11, g12]) rfl ?_
      exact ⟨_, Ts, rfl, HTT.out, HXX.out⟩
end Go.Proofs.Ytgeapenglcohfaa
