/- read.Find of a valid picture: a function of what found yields. Condition: the picture lies there, valid; read.Check says so. -/
/- Slices of heads, and pictures; read.valid and read.Check of any picture. Condition: so named. -/
import Derived.Test.YtkjgcmdabelohaaGreatMFound
import Derived.Test.YtkjgcmdabelohaaGreatMSymP
import Derived.Test.YtkjgcmdabelohaaGreatMKind
import Derived.Test.YtkjgcmdabelohaaGreatPFits
namespace Go.Proofs.YtkjgcmdabelohaaGreat
open Go.RowKit Go.ChangeMaps

attribute [local go_sem] Oper.semAt_some

def fndK : EK FoundT := ⟨57, 47, 5, fun x => [.int .i64 x.1, .int .i64 x.2.1, .int .i64 x.2.2.1, .int .i64 x.2.2.2.1, .int .i64 x.2.2.2.2], .agg #[.int .i64 0, .int .i64 0, .int .i64 0, .int .i64 0, .int .i64 0], 40, Tryz.underlying47, by kernel_rfl, rfl, by decide, by decide, fun _ => rfl, by simp [Value.oneCell']⟩
noncomputable def findE (p : PicT) : Int := if 400 < (foundL p).length then 4 else if (foundL p).length = 0 then 6 else 0
noncomputable def findL (p : PicT) : List FoundT := if findE p = 0 then foundL p else []
theorem found_in (F : Fence) (nn : Nat) (h5 : F.fn 36) (hro : F.round = none) (p : PicT) (hb ho hn hc : Nat) (Av : Option Addr) (nv cv : Nat) (w : World) :
    CallsIn F nn Tryz.prog 36 #[.agg (picC p hb ho hn hc (.slice Av nv cv))] w fun e w' => e = .returned (.func (.func 62) #[] #[.pointer (some ⟨w.heap.size, 0, none⟩)]) ∧
      w' = w.alloc (.cells (picC p hb ho hn hc (.slice Av nv cv)) 28) := by
  refine callsIn_of_wp Tryz.func36 rfl h5 ?_ hro
  simp only [Tryz.ntmps36, List.size_toArray, List.length_cons, List.length_nil, Nat.reduceAdd, Nat.reduceSub, Array.replicate_succ, Array.replicate_zero, List.push_toArray, List.append_toArray, List.nil_append, List.cons_append]
  gi_wp2
  go_ret
  exact ⟨rfl, rfl⟩
theorem fnd_own {α : Type} {K : EK α} {B b0 : Nat} {A C : World} {v : Value} {xs : List α} (h : K.Own B A v xs) (k : Keep b0 v.ownBlock A C) : K.Own B C v xs := by
  refine ⟨h.1, ?_⟩
  rcases h.2 with h1 | ⟨g, cap, cur, h1, h2, h3, h4⟩
  · exact .inl h1
  · exact .inr ⟨g, cap, cur, h1, h2, (k.block g (Array.getElem?_eq_some_iff.1 h3).1 (.inr (by rw [h1]; rfl))).trans h3, h4⟩
theorem fnd_box {b b0 : Nat} {g : Option Nat} {cs : Array Value} {T : TypeId} {A C : World} (h : BoxAt b cs T A) (k : Keep b0 g A C) (hb : b < b0) : BoxAt b cs T C := (k.block b h.lt (.inl hb)).trans h

theorem fnd_ext {b0 : Nat} {g : Option Nat} {w A C : World} (x : Ext w A) (k : Keep b0 g A C) (hb : w.heap.size ≤ b0) : Ext w C :=
  .of ⟨k.os.trans x.bel.os, k.tape.trans x.bel.tape, k.output.trans x.bel.output, Nat.le_trans x.bel.size k.size, fun i hi => (k.block i (Nat.lt_of_lt_of_le hi x.bel.size) (.inl (Nat.lt_of_lt_of_le hi hb))).trans (x.bel.block i hi)⟩

/-- Behind c of what is found. -/
def FndI (p : PicT) (w0 : World) (B b2 b3 b5 c : Nat) (g : Option Nat) (A : World) : Prop :=
  (c ≤ 400 ∧ Ext w0 A) ∧ (BoxAt b2 #[.slice none 0 0] 47 A ∧ BoxAt b3 #[.int .i64 0] 33 A) ∧ ∃ u, g = u.ownBlock ∧ BoxAt b5 #[u] 47 A ∧ fndK.Own B A u ((foundL p).take c)
theorem fnd_ne {α : Type} {K : EK α} {B b : Nat} {w : World} {v : Value} {xs : List α} (h : K.Own B w v xs) (hb : b < B) : v.ownBlock = none ∨ v.ownBlock ≠ some b := by
  cases hv : v.ownBlock with
  | none => exact .inl rfl
  | some r => exact .inr fun e => by have := (h.lt r hv).1; cases e; omega
theorem box_put {b : Nat} {cs : Array Value} {T : TypeId} {Ds : List Nat} {W W' : World} {v : Value} (h : BoxAt b cs T W) (hW : PutAt Ds W W') (hb : b ∉ Ds) (hv : cs.toList[0]? = some v := by rfl) : W'.cell? ⟨b, 0, none⟩ = some v :=
  (show BoxAt b cs T W' from (hW.block b hb).trans h).cell (i := 0) hv
def FndX (p : PicT) (w0 : World) (b2 b3 : Nat) (A : World) : Prop := (400 < (foundL p).length ∧ Ext w0 A) ∧ BoxAt b2 #[.slice none 0 0] 47 A ∧ BoxAt b3 #[.int .i64 4] 33 A

set_option maxRecDepth 100000 in
set_option maxHeartbeats 16000000 in
theorem find_any (hb ho hn hc n : Nat) (rv : Value) (p : PicT) (w : World) (hH : HeadsAt w hb ho hn p.hs) (hR : readK.Is w rv p.rd) (hok : PicOk p n)
    (hck : ∀ W, Ext w W → Calls Tryz.prog 13 #[.agg (picC p hb ho hn hc rv)] W fun e w' => e = .returned (.int .i64 0) ∧ Ext W w') :
    Calls Tryz.prog 15 #[.agg (picC p hb ho hn hc rv)] w fun e w' => ∃ u, e = .returned (.tuple #[u, .int .i64 (findE p)]) ∧ fndK.Is w' u (findL p) ∧ Ext w w' := by
  obtain ⟨Av, nv, cv, rfl, -, -, -⟩ := hR.open_
  have HH := Lib.hid hH
  have HRR := Lib.hid hR
  have HOK := Lib.hid hok
  have HCK := Lib.hid hck
  have F63 : Fence.wide.fn 36 := trivial
  have F13 : Fence.wide.fn 13 := trivial
  have HFI := Lib.hid fun W' => found_in Fence.wide 4 trivial rfl p hb ho hn hc Av nv cv W'
  obtain ⟨pc, hpc⟩ : ∃ z, z = picC p hb ho hn hc (.slice Av nv cv) := ⟨_, rfl⟩
  clear hH hR hok hck hpc pc
  refine (callsIn_wide (n := 5)).1 ?_
  refine callsIn_of_wp_marks Tryz.func15 rfl trivial ?_ rfl
  simp only [Tryz.ntmps15, List.size_toArray, List.length_cons, List.length_nil, Nat.reduceAdd, Nat.reduceSub, Array.replicate_succ, Array.replicate_zero, List.push_toArray, List.append_toArray, List.nil_append, List.cons_append]
  gi_wp2
  refine lay_callsI (fun W => BoxAt w.heap.size (picC p hb ho hn hc (.slice Av nv cv)) 28 W ∧ BoxAt (w.heap.size + 1) #[.slice none 0 0] 47 W ∧ BoxAt (w.heap.size + 1 + 1) #[.int .i64 0] 33 W ∧ Ext w W) ⟨((BoxAt.new w _ _).ext ((Ext.refl _).alloc _)).ext ((Ext.refl _).alloc _), ?_, ?_, by (repeat' (first | with_reducible exact Ext.refl _ | with_reducible apply Ext.alloc | with_reducible apply Ext.drew | with_reducible apply Ext.drewN | with_reducible refine Ext.setCell ?_ ?_ _ | with_reducible apply Ext.step | with_reducible assumption | with_reducible exact Nat.le_refl _ | (simp; done) | (simp; omega)))⟩ ?_
  · have := BoxAt.new (w.alloc (.cells (picC p hb ho hn hc (.slice Av nv cv)) 28)) #[.slice none 0 0] 47
    simp only [World.size_alloc] at this
    exact this.ext ((Ext.refl _).alloc _)
  · have := BoxAt.new ((w.alloc (.cells (picC p hb ho hn hc (.slice Av nv cv)) 28)).alloc (.cells #[.slice none 0 0] 47)) #[.int .i64 0] 33
    simp only [World.size_alloc] at this
    exact this
  rintro W0 ⟨bx1, bx2, bx3, x0⟩
  refine (callsIn_wide.2 (HCK.out _ x0)).mono ?_
  rintro e W1 ⟨rfl, x1⟩
  have HX1 := Lib.hid (x0.trans x1)
  have HB1 := Lib.hid (bx1.ext x1)
  have HB2 := Lib.hid (bx2.ext x1)
  have HB3 := Lib.hid (bx3.ext x1)
  obtain ⟨b1, hb1⟩ : ∃ b, b = w.heap.size := ⟨_, rfl⟩
  rw [← hb1] at HB1 HB2 HB3 ⊢
  have HBE := Lib.hid hb1
  clear x0 x1 bx1 bx2 bx3 hb1
  have c0 := HB1.out.cell (i := 0) rfl
  have c1 := HB1.out.cell (i := 1) rfl
  have c2 := HB1.out.cell (i := 2) rfl
  have c3 := HB1.out.cell (i := 3) rfl
  have c4 := HB1.out.cell (i := 4) rfl
  have c5 := HB1.out.cell (i := 5) rfl
  have l0 := cell_lt c0
  gi_wp2
  refine (HFI.out _).mono ?_
  rintro e Wf ⟨rfl, hwf⟩
  have HB5 := Lib.hid (show BoxAt W1.heap.size #[.slice none 0 0] 47 Wf from by rw [hwf]; exact (BoxAt.new W1 _ _).ext ((Ext.refl _).alloc _))
  have HBP := Lib.hid (show BoxAt (W1.heap.size + 1) (picC p hb ho hn hc (.slice Av nv cv)) 28 Wf from by
    rw [hwf]
    have := BoxAt.new (W1.alloc (.cells #[.slice none 0 0] 47)) (picC p hb ho hn hc (.slice Av nv cv)) 28
    simp only [World.size_alloc] at this
    exact this)
  have xf : Ext W1 Wf := by rw [hwf]; exact ((Ext.refl _).alloc _).alloc _
  have hsf : Wf.heap.size = W1.heap.size + 1 + 1 := by rw [hwf]; simp
  have HXF := Lib.hid xf
  have HSF := Lib.hid hsf
  have hw1 := HX1.out.bel.size
  have h23 := HB3.out.lt
  obtain ⟨b5, hb5⟩ : ∃ b, b = W1.heap.size := ⟨_, rfl⟩
  simp only [World.size_alloc]
  rw [← hb5] at HB5 HBP ⊢
  have HB5E := Lib.hid hb5
  have hlt5 : b1 + 1 + 1 < b5 := by omega
  have hpf : b5 + 1 < Wf.heap.size := by omega
  clear hwf xf hsf c0 c1 c2 c3 c4 c5 l0 hb5
  gi_wp2
  refine wpIn_range_g (N := (foundL p).length) (fndEnc p) (FndI p w Wf.heap.size (b1 + 1) (b1 + 1 + 1) b5) (FndX p w (b1 + 1) (b1 + 1 + 1)) [b5, b1 + 1, b1 + 1 + 1] (fun r => Wf.heap.size ≤ r) none rfl (by decide) (gf := 62) (lb := #[.pointer (some ⟨b5 + 1, 0, none⟩)]) rfl trivial (enters_of Tryz.func62 (by kernel_rfl) rfl)
    (found_seq 4 (by decide) [b5, b1 + 1, b1 + 1 + 1] (fun r => Wf.heap.size ≤ r) (b5 + 1) hb ho hn hc n (.slice Av nv cv) p w Wf (HX1.out.trans HXF.out) ⟨?dD1, ?dD2⟩ ⟨by omega, fun r h => Nat.le_trans (HX1.out.trans HXF.out).bel.size h⟩ HBP.out HH.out HRR.out HOK.out) ?hps ?hD ?hIk ?hIg ?hXk ?h0 ?Ax ?hAx ?assign ?body ?done ?stop
  case dD1 =>
    simp only [List.mem_cons, List.not_mem_nil, or_false]
    omega
  case dD2 =>
    intro d h
    have := HBE.out
    simp only [List.mem_cons, List.not_mem_nil, or_false] at h
    omega
  case hps =>
    rintro x g args A ⟨f, -, rfl⟩
    rfl
  case hD =>
    intro d h
    simp only [List.mem_cons, List.not_mem_nil, or_false] at h
    omega
  case hIk =>
    rintro c g A E ⟨⟨h1, hx⟩, ⟨h2, h3⟩, u, rfl, h4, h5⟩ hk
    exact ⟨⟨h1, fnd_ext hx hk (HX1.out.trans HXF.out).bel.size⟩, ⟨fnd_box h2 hk (by omega), fnd_box h3 hk (by omega)⟩, u, rfl, fnd_box h4 hk (by omega), fnd_own h5 hk⟩
  case hIg =>
    rintro c g A ⟨-, -, u, rfl, -, h5⟩ r e
    exact own_blockN h5 (by rw [e]; simp)
  case hXk =>
    rintro A E ⟨⟨h1, hx⟩, h2, h3⟩ hk
    exact ⟨⟨h1, fnd_ext hx hk (HX1.out.trans HXF.out).bel.size⟩, fnd_box h2 hk (by omega), fnd_box h3 hk (by omega)⟩
  case h0 => exact ⟨⟨by omega, HX1.out.trans HXF.out⟩, ⟨HB2.out.ext HXF.out, HB3.out.ext HXF.out⟩, _, rfl, HB5.out, EK.Own.nil _ _⟩
  case Ax => exact fun x g a' Z => ∃ f b6, (foundL p)[x]? = some f ∧ BoxAt b6 #[.int .i64 f.1, .int .i64 f.2.1, .int .i64 f.2.2.1, .int .i64 f.2.2.2.1, .int .i64 f.2.2.2.2] 57 Z ∧ a' = { tmps := #[.agg (picC p hb ho hn hc (.slice Av nv cv)), .pointer (some ⟨b1, 0, none⟩), .pointer (some ⟨b1 + 1, 0, none⟩), .pointer (some ⟨b1 + 1 + 1, 0, none⟩), .int .i64 0, .pointer (some ⟨b5, 0, none⟩), .pointer (some ⟨b6, 0, none⟩), .agg (picC p hb ho hn hc (.slice Av nv cv)), .int .i64 0, .int .i64 0, .bool false, undef, .agg (picC p hb ho hn hc (.slice Av nv cv)), .func (.func 62) #[] #[.pointer (some ⟨b5 + 1, 0, none⟩)], fndV f, undef, undef, undef, undef, undef, undef, undef, undef, undef, undef, undef], defers := [] }
  case hAx =>
    rintro x g a' Z l' o' hl' ⟨r, hr⟩ ⟨f, b6, h1, h2, h3⟩
    refine ⟨f, b6, h1, (World.putObj_heap_other ?_).trans h2, h3⟩
    rintro rfl
    rw [h2] at hr
    cases hr
  case assign =>
    rintro l2 x g args A K hx - ⟨f, hf, rfl⟩ hsz hK
    gi_wp2
    refine hK _ _ (by (repeat' (first | with_reducible exact Ext.refl _ | with_reducible apply Ext.alloc | with_reducible apply Ext.drew | with_reducible apply Ext.drewN | with_reducible refine Ext.setCell ?_ ?_ _ | with_reducible apply Ext.step | with_reducible assumption | with_reducible exact Nat.le_refl _ | (simp; done) | (simp; omega)))) ⟨f, A.heap.size, hf, BoxAt.new A _ _, ?_⟩
    rfl
  case body =>
    rintro l2 x g a' Z hl2 ⟨r2, hr2⟩ hx ⟨⟨h400, hxz⟩, ⟨hz2, hz3⟩, u, rfl, hz5, hu⟩ ⟨f, b6, hf, hb6, rfl⟩
    obtain ⟨Au, nu, cu, rfl⟩ := hu.shape
    have HU := Lib.hid hu
    have HZ := Lib.hid (And.intro hz5 (And.intro hz2 hz3))
    have HXL := Lib.hid (show (foundL p).take (x + 1) = (foundL p).take x ++ [f] by rw [List.take_add_one, hf]; rfl)
    have hxl : ((foundL p).take x).length = x := by rw [List.length_take]; omega
    have HLE := Lib.hid (show ((foundL p).take x).length ≤ 1000000000 by omega)
    have HLX := Lib.hid hxl
    have hzs : Wf.heap.size ≤ Z.heap.size := Nat.le_trans hl2 (Nat.le_of_lt (Array.getElem?_eq_some_iff.1 hr2).1)
    have d5 := hz5.cell (i := 0) rfl
    have e0 := hb6.cell (i := 0) rfl
    have e1 := hb6.cell (i := 1) rfl
    have e2 := hb6.cell (i := 2) rfl
    have e3 := hb6.cell (i := 3) rfl
    have e4 := hb6.cell (i := 4) rfl
    have l5 := cell_lt d5
    have l6 := cell_lt e0
    obtain ⟨fa, fb, fc, fd, fe⟩ := f
    simp only at e0 e1 e2 e3 e4
    have HXN := Lib.hid hx
    have HXZ := Lib.hid hxz
    have HOW := Lib.hid (show ∀ d, d ∈ (Value.slice Au nu cu).ownBlock.toList ++ [b5, b1 + 1, b1 + 1 + 1] → w.heap.size ≤ d from fun d hd => by
      have := HBE.out
      rcases List.mem_append.1 hd with h | h
      · exact Nat.le_trans (HX1.out.trans HXF.out).bel.size (own_blockN HU.out h).1
      · simp only [List.mem_cons, List.not_mem_nil, or_false] at h
        omega)
    clear hxz hz5 hz2 hz3 hu hb6 hf hxl hr2 hx
    by_cases h8 : x = 400
    · have h4 : 400 < x + 1 := by omega
      gi_wp2_with (gi_at_builtin; refine EK.app_in_at (K := fndK) (B := Wf.heap.size) (xs := (foundL p).take x) rfl (.tmp 15) (.tmp 17) rfl Z.heap.size 1 (fa, fb, fc, fd, fe) rfl rfl (fun ii u hu => cell_new hu) (HU.out.ext ((Ext.refl _).alloc _)) (by simp; omega) HLE.out ?_; intro v' w3 o3 g3 t3; obtain ⟨A3, n3, c3, rfl⟩ := o3.shape; have hn3 := own_len fndK o3; rw [List.length_append, HLX.out] at hn3; simp only [List.length_cons, List.length_nil] at hn3; have h9 : (400 : Int) < (n3 : Int) := (by omega); have h9b : 400 < n3 := (by omega); have k3 := app_keep g3 t3; have HK3 := Lib.hid k3; have HO3 := Lib.hid o3; have xal : Ext Z (Z.alloc (.cells #[.int .i64 fa, .int .i64 fb, .int .i64 fc, .int .i64 fd, .int .i64 fe] 57)) := (Ext.refl Z).alloc _; have hno : ∀ b, b < Wf.heap.size → b ∉ (Value.slice Au nu cu).ownBlock.toList := fun b hb e => (by have := (own_blockN HU.out e).1; omega); have HZ5 := Lib.hid ((HZ.out.1.ext xal).but k3.1 (hno b5 (by omega))); have HZ2 := Lib.hid ((HZ.out.2.1.ext xal).but k3.1 (hno (b1 + 1) (by omega))); have HZ3 := Lib.hid ((HZ.out.2.2.ext xal).but k3.1 (hno (b1 + 1 + 1) (by omega))); have d7 := HZ5.out.cell (i := 0) rfl; have f7 := frozen_of_row _ _ 0 _ _ HZ5.out; have d8 := HZ2.out.cell (i := 0) rfl; have f8 := frozen_of_row _ _ 0 _ _ HZ2.out; have d9 := HZ3.out.cell (i := 0) rfl; have f9 := frozen_of_row _ _ 0 _ _ HZ3.out; have l7 := cell_lt d7; have l8 := cell_lt d8; have l9 := cell_lt d9; have HBU := Lib.hid (show But ((Value.slice Au nu cu).ownBlock.toList ++ [b5, b1 + 1, b1 + 1 + 1]) Z w3 from (xal.but (D := _)).trans (but_mono k3.1 (fun d hd => List.mem_append.2 (.inl hd)))); have HNX := Lib.hid (show Nxt Z (Value.slice Au nu cu).ownBlock (Value.slice A3 n3 c3).ownBlock from (Nxt.refl _ _).trans xal.bel.size k3.2); clear o3 g3 t3 k3 hn3 xal hno d5 e0 e1 e2 e3 e4 l5 l6)
      have hbt := ((HBU.out.setCell (p := ⟨b5, 0, none⟩) (by simp) (.slice A3 n3 c3)).setCell (p := ⟨b1 + 1, 0, none⟩) (by simp) (.slice none 0 0)).setCell (p := ⟨b1 + 1 + 1, 0, none⟩) (by simp) (.int .i64 4)
      refine ⟨hbt, ⟨by have := HXN.out; omega, hbt.below HXZ.out HOW.out⟩, ?_, ?_⟩
      · exact ((HZ2.out.setOther (p := ⟨b5, 0, none⟩) (by show b1 + 1 ≠ b5; omega) _).setCell 0 (.slice none 0 0)).setOther (p := ⟨b1 + 1 + 1, 0, none⟩) (by show b1 + 1 ≠ b1 + 1 + 1; omega) _
      · exact ((HZ3.out.setOther (p := ⟨b5, 0, none⟩) (by show b1 + 1 + 1 ≠ b5; omega) _).setOther (p := ⟨b1 + 1, 0, none⟩) (by show b1 + 1 + 1 ≠ b1 + 1; omega) _).setCell 0 (.int .i64 4)
    · have h4 : ¬ 400 < x + 1 := by omega
      gi_wp2_with (gi_at_builtin; refine EK.app_in_at (K := fndK) (B := Wf.heap.size) (xs := (foundL p).take x) rfl (.tmp 15) (.tmp 17) rfl Z.heap.size 1 (fa, fb, fc, fd, fe) rfl rfl (fun ii u hu => cell_new hu) (HU.out.ext ((Ext.refl _).alloc _)) (by simp; omega) HLE.out ?_; intro v' w3 o3 g3 t3; obtain ⟨A3, n3, c3, rfl⟩ := o3.shape; have hn3 := own_len fndK o3; rw [List.length_append, HLX.out] at hn3; simp only [List.length_cons, List.length_nil] at hn3; have h9 : ¬ (400 : Int) < (n3 : Int) := (by omega); have h9b : ¬ 400 < n3 := (by omega); have k3 := app_keep g3 t3; have HK3 := Lib.hid k3; have HO3 := Lib.hid o3; have xal : Ext Z (Z.alloc (.cells #[.int .i64 fa, .int .i64 fb, .int .i64 fc, .int .i64 fd, .int .i64 fe] 57)) := (Ext.refl Z).alloc _; have hno : ∀ b, b < Wf.heap.size → b ∉ (Value.slice Au nu cu).ownBlock.toList := fun b hb e => (by have := (own_blockN HU.out e).1; omega); have HZ5 := Lib.hid ((HZ.out.1.ext xal).but k3.1 (hno b5 (by omega))); have HZ2 := Lib.hid ((HZ.out.2.1.ext xal).but k3.1 (hno (b1 + 1) (by omega))); have HZ3 := Lib.hid ((HZ.out.2.2.ext xal).but k3.1 (hno (b1 + 1 + 1) (by omega))); have d7 := HZ5.out.cell (i := 0) rfl; have f7 := frozen_of_row _ _ 0 _ _ HZ5.out; have d8 := HZ2.out.cell (i := 0) rfl; have f8 := frozen_of_row _ _ 0 _ _ HZ2.out; have d9 := HZ3.out.cell (i := 0) rfl; have f9 := frozen_of_row _ _ 0 _ _ HZ3.out; have l7 := cell_lt d7; have l8 := cell_lt d8; have l9 := cell_lt d9; have HBU := Lib.hid (show But ((Value.slice Au nu cu).ownBlock.toList ++ [b5, b1 + 1, b1 + 1 + 1]) Z w3 from (xal.but (D := _)).trans (but_mono k3.1 (fun d hd => List.mem_append.2 (.inl hd)))); have HNX := Lib.hid (show Nxt Z (Value.slice Au nu cu).ownBlock (Value.slice A3 n3 c3).ownBlock from (Nxt.refl _ _).trans xal.bel.size k3.2); clear o3 g3 t3 k3 hn3 xal hno d5 e0 e1 e2 e3 e4 l5 l6)
      have hbt := HBU.out.setCell (p := ⟨b5, 0, none⟩) (by simp) (.slice A3 n3 c3)
      refine ⟨hbt, _, HNX.out, ⟨by omega, hbt.below HXZ.out HOW.out⟩, ⟨?_, ?_⟩, _, rfl, HZ5.out.setCell 0 _, ?_⟩
      · exact HZ2.out.setOther (p := ⟨b5, 0, none⟩) (by show b1 + 1 ≠ b5; omega) _
      · exact HZ3.out.setOther (p := ⟨b5, 0, none⟩) (by show b1 + 1 + 1 ≠ b5; omega) _
      · rw [HXL.out]
        refine HO3.out.kept (grown_set _ _ _ _) ?_
        cases hv : (Value.slice A3 n3 c3).ownBlock with
        | none => exact .inl rfl
        | some r => exact .inr fun e => by have := (HO3.out.lt r hv).1; cases e; omega
  case done =>
    rintro M g A hM ⟨⟨h400, hxa⟩, ⟨h2, h3⟩, u, rfl, h5, hu⟩ hmark
    obtain ⟨Au, nu, cu, rfl⟩ := hu.shape
    have hn := own_len fndK hu
    rw [List.take_of_length_le (Nat.le_refl _)] at hu hn
    have HU := Lib.hid hu
    have HZ := Lib.hid (And.intro h2 h3)
    have HMK := Lib.hid hmark
    have HN := Lib.hid hn
    have HXA := Lib.hid hxa
    have hwf := (HX1.out.trans HXF.out).bel.size
    have d5 := h5.cell (i := 0) rfl
    have d2 := h2.cell (i := 0) rfl
    have d3 := h3.cell (i := 0) rfl
    have f2 := frozen_of_row _ _ 0 _ _ h2
    have f3 := frozen_of_row _ _ 0 _ _ h3
    have l5 := cell_lt d5
    have l2 := cell_lt d2
    have l3 := cell_lt d3
    clear h2 h3 h5 hu hmark hn hxa
    by_cases hz : nu = 0
    · have hz1 : (nu : Int) = 0 := by omega
      have HE := Lib.hid (show findE p = 6 by unfold findE; rw [← HN.out, if_neg (by omega), if_pos hz])
      have HL := Lib.hid (show findL p = [] by unfold findL; rw [if_neg (by rw [HE.out]; decide)])
      gi_wp2
      refine leaves_marks [M] _ (by simp) (mark_one ?_) (fun W' hW => ?_)
      · rw [heap_setCell_other _ _ _ _ (by show M ≠ b1 + 1 + 1; omega), heap_setCell_other _ _ _ _ (by show M ≠ b1 + 1; omega)]
        exact HMK.out
      · have r2 : W'.cell? ⟨b1 + 1, 0, none⟩ = some (.slice none 0 0) := box_put ((HZ.out.1.setCell 0 (.slice none 0 0)).setOther (p := ⟨b1 + 1 + 1, 0, none⟩) (by show b1 + 1 ≠ b1 + 1 + 1; omega) (.int .i64 6)) hW (by simp; omega)
        have r3 : W'.cell? ⟨b1 + 1 + 1, 0, none⟩ = some (.int .i64 6) := box_put ((HZ.out.2.setOther (p := ⟨b1 + 1, 0, none⟩) (by show b1 + 1 + 1 ≠ b1 + 1; omega) (.slice none 0 0)).setCell 0 (.int .i64 6)) hW (by simp; omega)
        refine ⟨.tuple #[.slice none 0 0, .int .i64 6], by simp [results, Tryz.results15, go_sem, r2, r3], _, by rw [HE.out], by rw [HL.out]; exact EK.Is.nil _, ?_⟩
        have hb := HBE.out
        exact hW.ext ((HXA.out.setCell (p := ⟨b1 + 1, 0, none⟩) (by show w.heap.size ≤ b1 + 1; omega) _).setCell (p := ⟨b1 + 1 + 1, 0, none⟩) (by show w.heap.size ≤ b1 + 1 + 1; omega) _) (fun d hd => by rw [List.mem_singleton] at hd; omega)
    · have hz1 : ¬ (nu : Int) = 0 := by omega
      have HE := Lib.hid (show findE p = 0 by unfold findE; rw [← HN.out, if_neg (by have := HN.out; omega), if_neg hz])
      have HL := Lib.hid (show findL p = foundL p by unfold findL; rw [if_pos HE.out])
      gi_wp2
      refine leaves_marks [M] _ (by simp) (mark_one ?_) (fun W' hW => ?_)
      · rw [heap_setCell_other _ _ _ _ (by show M ≠ b1 + 1 + 1; omega), heap_setCell_other _ _ _ _ (by show M ≠ b1 + 1; omega)]
        exact HMK.out
      · have r2 : W'.cell? ⟨b1 + 1, 0, none⟩ = some (.slice Au nu cu) := box_put ((HZ.out.1.setCell 0 (.slice Au nu cu)).setOther (p := ⟨b1 + 1 + 1, 0, none⟩) (by show b1 + 1 ≠ b1 + 1 + 1; omega) (.int .i64 0)) hW (by simp; omega)
        have r3 : W'.cell? ⟨b1 + 1 + 1, 0, none⟩ = some (.int .i64 0) := box_put ((HZ.out.2.setOther (p := ⟨b1 + 1, 0, none⟩) (by show b1 + 1 + 1 ≠ b1 + 1; omega) (.slice Au nu cu)).setCell 0 (.int .i64 0)) hW (by simp; omega)
        have hb := HBE.out
        have ho2 := (HU.out.kept (grown_set A (b1 + 1) 0 (.slice Au nu cu)) (fnd_ne HU.out (by omega))).kept (grown_set _ (b1 + 1 + 1) 0 (.int .i64 0)) (fnd_ne HU.out (by omega))
        refine ⟨.tuple #[.slice Au nu cu, .int .i64 0], by simp [results, Tryz.results15, go_sem, r2, r3], _, by rw [HE.out], ?_, ?_⟩
        · rw [HL.out]
          refine (ho2.butN (D := [M]) ⟨hW.os, hW.tape, hW.output, Nat.le_of_eq hW.size.symm, fun i _ hd => hW.block i hd⟩ (fun g hg e => ?_)).is
          rw [List.mem_singleton] at e
          subst e
          obtain ⟨o, h3, h4⟩ := (own_blockN HU.out (e := g) (by rw [hg]; simp)).2
          rw [HMK.out] at h3
          cases h3
          cases h4
        · exact hW.ext ((HXA.out.setCell (p := ⟨b1 + 1, 0, none⟩) (by show w.heap.size ≤ b1 + 1; omega) _).setCell (p := ⟨b1 + 1 + 1, 0, none⟩) (by show w.heap.size ≤ b1 + 1 + 1; omega) _) (fun d hd => by rw [List.mem_singleton] at hd; omega)
  case stop =>
    rintro M A hM ⟨⟨h4, hxa⟩, h2, h3⟩ hmark
    have hwf := (HX1.out.trans HXF.out).bel.size
    have HE := Lib.hid (show findE p = 4 by unfold findE; rw [if_pos h4])
    have HL := Lib.hid (show findL p = [] by unfold findL; rw [if_neg (by rw [HE.out]; decide)])
    refine leaves_marks [M] _ (by simp) (mark_one hmark) (fun W' hW => ?_)
    have r2 : W'.cell? ⟨b1 + 1, 0, none⟩ = some (.slice none 0 0) := box_put h2 hW (by simp; omega)
    have r3 : W'.cell? ⟨b1 + 1 + 1, 0, none⟩ = some (.int .i64 4) := box_put h3 hW (by simp; omega)
    exact ⟨.tuple #[.slice none 0 0, .int .i64 4], by simp [results, Tryz.results15, go_sem, r2, r3], _, by rw [HE.out], by rw [HL.out]; exact EK.Is.nil _, hW.ext hxa (fun d hd => by rw [List.mem_singleton] at hd; omega)⟩
end Go.Proofs.YtkjgcmdabelohaaGreat

namespace Go.Proofs.YtkjgcmdabelohaaGreat
open Go.RowKit

/-- Heads: two slices each. -/
def headK : EK (RowH × RowH) := ⟨46, 25, 2, fun x => [rowH x.1, rowH x.2], .agg #[.slice none 0 0, .slice none 0 0], 48, Tryz.underlying25, by kernel_rfl, rfl, by decide, by decide, fun _ => rfl, by simp [Value.oneCell', rowH]⟩
def HdsIs (w : World) (v : Value) (hs : List (List Int × List Int)) : Prop :=
  ∃ Ts, headK.Is w v Ts ∧ Ts.length = hs.length ∧ ∀ q (h : q < Ts.length) (h' : q < hs.length), IsI w (rowH Ts[q].1) hs[q].1 ∧ IsI w (rowH Ts[q].2) hs[q].2
theorem HdsIs.ext {w w' : World} {v : Value} {hs : List (List Int × List Int)} (h : HdsIs w v hs) (x : Ext w w') : HdsIs w' v hs := by
  obtain ⟨Ts, h1, h2, h3⟩ := h
  exact ⟨Ts, h1.ext x, h2, fun q a b => ⟨(h3 q a b).1.ext x, (h3 q a b).2.ext x⟩⟩
theorem HdsIs.open_ {w : World} {v : Value} {hs : List (List Int × List Int)} (h : HdsIs w v hs) : ∃ A n c, v = .slice A n c ∧ hs.length = n ∧ n ≤ 9223372036854775807 ∧
    ∀ i (hi : i < hs.length), ∃ b o Ta Tb, A = some ⟨b, o, none⟩ ∧ w.cell? ⟨b, o + i * 2, none⟩ = some (rowH Ta) ∧ w.cell? ⟨b, o + i * 2 + 1, none⟩ = some (rowH Tb) ∧ IsI w (rowH Ta) hs[i].1 ∧ IsI w (rowH Tb) hs[i].2 := by
  obtain ⟨Ts, h1, h2, h3⟩ := h
  obtain ⟨A, n, c, rfl, hn, -, hr, hm⟩ := h1.open_
  refine ⟨A, n, c, rfl, by rw [← h2, hn], hm, fun i hi => ?_⟩
  have hi' : i < Ts.length := by omega
  obtain ⟨b, o, hA, -, hc⟩ := hr i hi'
  exact ⟨b, o, _, _, hA, hc 0 _ rfl, hc 1 _ rfl, (h3 i hi' hi).1, (h3 i hi' hi).2⟩

/-- A picture, valid or not. -/
structure PicR where
  hs : List (List Int × List Int)
  tl : Int
  tu : Int
  al : Int
  au : Int
  rd : List (Int × Int × Int × Int)
abbrev PicR.val (p : PicR) (hv rv : Value) : Value := .agg #[hv, .int .i64 p.tl, .int .i64 p.tu, .int .i64 p.al, .int .i64 p.au, rv]
structure PicRIs (w : World) (hv rv : Value) (p : PicR) : Prop where
  hs : HdsIs w hv p.hs
  rd : readK.Is w rv p.rd
theorem PicRIs.ext {w w' : World} {hv rv : Value} {p : PicR} (h : PicRIs w hv rv p) (x : Ext w w') : PicRIs w' hv rv p := ⟨h.hs.ext x, h.rd.ext x⟩
/-- It is valid; its heads have n steps. -/
structure PicV (p : PicR) (n : Nat) : Prop where
  h4 : 1 ≤ p.hs.length ∧ p.hs.length ≤ 4
  fine : ∀ h ∈ p.hs, Fine h.1 h.2 ∧ h.1.length = n
  t : 1 ≤ p.tl ∧ p.tl ≤ p.tu ∧ p.tu ≤ 16
  a : -1000 ≤ p.al ∧ p.al ≤ p.au ∧ p.au ≤ 1000 ∧ p.au - p.al ≤ 40
  rl : 1 ≤ p.rd.length ∧ p.rd.length ≤ 60
  rd : ∀ r ∈ p.rd, ReadOk n r
def PicR.toT (p : PicR) : PicT := ⟨p.hs, p.tl.toNat, p.tu.toNat, p.al, p.au, p.rd⟩
theorem PicV.ok {p : PicR} {n : Nat} (h : PicV p n) : PicOk p.toT n := by
  have h4 := h.h4
  have ht := h.t
  have hl : n ≤ 96 ∧ 3 ≤ n := by
    obtain ⟨q, hq⟩ : ∃ q, q ∈ p.hs := ⟨_, List.getElem_mem (show 0 < p.hs.length by omega)⟩
    obtain ⟨h1, h2⟩ := h.fine q hq
    have := h1.hi
    have := h1.lo
    omega
  refine ⟨by omega, h4, h.fine, ?_, h.a, h.rl.2, fun r hr => ?_⟩
  · show 1 ≤ p.tl.toNat ∧ p.tl.toNat ≤ p.tu.toNat ∧ p.tu.toNat ≤ 16
    omega
  · obtain ⟨h1, h2, h3, h5, h6⟩ := h.rd r hr
    unfold RdOk
    omega
theorem PicV.val {p : PicR} {n : Nat} (h : PicV p n) (hb ho hn hc : Nat) (rv : Value) : p.val (.slice (some ⟨hb, ho, none⟩) hn hc) rv = .agg (picC p.toT hb ho hn hc rv) := by
  have := h.t
  unfold PicR.val picC PicR.toT
  simp only
  rw [Int.toNat_of_nonneg (show 0 ≤ p.tl by omega), Int.toNat_of_nonneg (show 0 ≤ p.tu by omega)]
theorem fine_of {f b : List Int} (h1 : checkE f = 0) (h2 : rubberE b f.length = 0) : Fine f b := by
  refine fine_iff.1 ?_
  unfold bothE
  have : checkB f = true := by
    unfold checkE at h1
    by_cases e : checkB f = true
    · exact e
    · rw [if_neg e] at h1
      exact absurd h1 (by decide)
  rw [if_pos this]
  exact h2
end Go.Proofs.YtkjgcmdabelohaaGreat
