/- LightExamples: the law's walk. No condition. -/
import Derived.Test.YtlljhimaopnbfaaLAliv
import Derived.Test.YtlljhimaopnbfaaLCarv
import Derived.Test.YtlljhimaopnbfaaLFlash
import Derived.Test.YtlljhimaopnbfaaLShs
import Derived.Test.YtlljhimaopnbfaaLLat
import Derived.Test.YtlljhimaopnbfaaGTwinP
import Derived.Deep.Cut
namespace Go.Proofs.Ytlljhimaopnbfaa
open Go.RowKit

theorem own_offL {α : Type} {K : EK α} {B g : Nat} {w : World} {v : Value} {xs : List α} (h : K.Own B w v xs) (hg : g < B) : v.ownBlock = none ∨ v.ownBlock ≠ some g := by
  cases hv : v.ownBlock with
  | none => exact .inl rfl
  | some r =>
    refine .inr fun e => ?_
    have := (h.lt r hv).1
    simp only [Option.some.injEq] at e
    omega
/-- A cut in new memory, another block turned. -/
theorem cutsIs_one {w W : World} {B g : Nat} {A : Option Addr} {k c : Nat} {xs : List (Int × Int)} (p : Int) (b : Bool) (hx : spotK.Own B w (.slice A k c) xs)
    (hB : g < B) (hg : g < w.heap.size) (hb : But [g] (w.alloc (.cells #[.slice A k c, .int .i64 p, .bool b] 106)) W) :
    CutsIs W (.slice (some ⟨w.heap.size, 0, none⟩) 1 1) [(xs, p, b)] := by
  have hl : cutK.Own w.heap.size (w.alloc (.cells #[.slice A k c, .int .i64 p, .bool b] 106)) (.slice (some ⟨w.heap.size, 0, none⟩) 1 1) [((A, k, c), p, b)] :=
    EK.Own.lit (K := cutK) w _ [((A, k, c), p, b)] rfl (Nat.le_refl _) (by simp [maxLen])
  refine ⟨[((A, k, c), p, b)], (hl.kept (but_grown' hb) (own_offL hl hg)).is, rfl, fun q h h' => ?_⟩
  have hx' := hx.ext ((Ext.refl w).alloc (.cells #[.slice A k c, .int .i64 p, .bool b] 106))
  obtain rfl : q = 0 := by simp at h; omega
  exact ⟨(hx'.kept (but_grown' hb) (own_offL hx' hB)).is, rfl⟩
def groovyK : WkT := ⟨0, 1, 1, 100, 0, 1, 0, 0, 0, 0, 0, 0, [([(0, 5), (50, 5)], 4, false)]⟩
def GroovyR (w : World) (e : Ending) (w' : World) : Prop := ∃ v, e = .returned (groovyK.val v) ∧ CutsIs w' v groovyK.cuts ∧ Ext w w'
set_option maxHeartbeats 8000000 in
set_option maxRecDepth 100000 in
theorem groovy_any (w : World) : Calls Try.prog 63 #[] w (GroovyR w) := by
  have HB := Lib.hid (BoxAt.new w #[.int .i64 0, .int .i64 0, .int .i64 0, .int .i64 0, .int .i64 0, .int .i64 0, .int .i64 0, .int .i64 0, .int .i64 0, .int .i64 0, .int .i64 0, .int .i64 0, .slice none 0 0] 79)
  go_enter Try.func63, Try.ntmps63
  go_upto_region 1 with fail
  refine lay_wp (fun W => BoxAt w.heap.size #[.int .i64 0, .int .i64 0, .int .i64 0, .int .i64 0, .int .i64 0, .int .i64 0, .int .i64 0, .int .i64 0, .int .i64 0, .int .i64 0, .int .i64 0, .int .i64 0, .slice none 0 0] 79 W ∧ Ext w W ∧ W.heap.size = w.heap.size + 1) ⟨HB.out, (Ext.refl _).alloc _, by simp⟩ ?_
  rintro W1 ⟨b1, x1, h1⟩
  have HB1 := Lib.hid b1
  have HX1 := Lib.hid x1
  have HC := Lib.hid fun (W : World) (hb : But [w.heap.size] ((W1.alloc (.cells #[.int .i64 0, .int .i64 5, .int .i64 50, .int .i64 5] 76)).alloc (.cells #[.slice (some ⟨W1.heap.size, 0, none⟩) 2 2, .int .i64 4, .bool false] 106)) W) => (show CutsIs W (.slice (some ⟨W1.heap.size + 1, 0, none⟩) 1 1) groovyK.cuts from by
    have := cutsIs_one (w := W1.alloc (.cells #[.int .i64 0, .int .i64 5, .int .i64 50, .int .i64 5] 76)) (W := W) (g := w.heap.size) 4 false (EK.Own.lit (K := spotK) (B := W1.heap.size) W1 #[.int .i64 0, .int .i64 5, .int .i64 50, .int .i64 5] [(0, 5), (50, 5)] rfl (Nat.le_refl _) (by simp [maxLen])) (by omega) (by simp; omega) hb
    rw [show (W1.alloc (.cells #[.int .i64 0, .int .i64 5, .int .i64 50, .int .i64 5] 76)).heap.size = W1.heap.size + 1 by simp] at this
    exact this)
  have hs1 := b1.lt
  clear b1 x1 HB h1
  refine wp_region_lit ?_
  iterate 7 (refine wpList_plain (by rfl) (fun K hK => ?_); go_simp; refine hK _ _ ?_; clear hK K)
  refine wpList_store_row rfl 79 (.tmp 0) (.tmp 7) rfl w.heap.size _ rfl rfl 79 #[.int .i64 0, .int .i64 0, .int .i64 0, .int .i64 0, .int .i64 0, .int .i64 0, .int .i64 0, .int .i64 0, .int .i64 0, .int .i64 0, .int .i64 0, .int .i64 0, .slice none 0 0] (HB1.out.ext (((Ext.refl _).alloc _).alloc _)) (by kernel_rfl) rfl (by simp [Value.oneCell']) ?_
  refine lay_list (fun W => WkAt groovyK (.slice (some ⟨W1.heap.size + 1, 0, none⟩) 1 1) w.heap.size W ∧ CutsIs W (.slice (some ⟨W1.heap.size + 1, 0, none⟩) 1 1) groovyK.cuts ∧ Ext w W) ⟨WkAt.box (k := groovyK) (BoxAt.setRow (HB1.out.ext (((Ext.refl _).alloc _).alloc _)) _), HC.out _ (setRow_but _ _ _), (setRow_but _ _ _).below ((HX1.out.alloc _).alloc _) (by simp)⟩ ?_
  rintro W ⟨⟨h0, h1, h2, h3, h4, h5, h6, h7, h8, h9, h10, h11, h12⟩, hc, hx⟩
  have HCC := Lib.hid hc
  have HXX := Lib.hid hx
  simp only [groovyK] at h0 h1 h2 h3 h4 h5 h6 h7 h8 h9 h10 h11
  clear hc hx
  go_wp2_with fail
  refine bodyPost_ret (v := groovyK.val (.slice (some ⟨W1.heap.size + 1, 0, none⟩) 1 1)) (by simp [results, Try.results63, go_sem, groovyK, h0, h1, h2, h3, h4, h5, h6, h7, h8, h9, h10, h11, h12]) rfl ?_
  exact ⟨_, rfl, HCC.out, HXX.out⟩
theorem lightK_nil (w : World) : lightK.Is w (.slice none 0 0) [] := (EK.Own.nil (K := lightK) 0 w).is

set_option maxRecDepth 100000 in
set_option maxHeartbeats 16000000 in
theorem lawExamplesL_any (w : World) : Calls Try.prog 20 #[] w fun e w' => e = .returned (.bool true) ∧ Ext w w' := by
  have HRA := Lib.hid fun W : World => ramp_any W
  have HGR := Lib.hid fun W : World => groovy_any W
  have HAL := Lib.hid fun W : World => light_alive W
  have HB1 := Lib.hid fun (W : World) => (show Calls Try.prog 21 #[tiltV 8 0, .int .i64 1, lightV 1 0 1] W fun e w' => e = .returned (.tuple #[shadeV 0 1, .int .i64 0]) ∧ Ext W w' from by
    have := Bright_any 8 0 1 1 0 1 W
    rwa [brightV, show brightN 8 0 1 1 0 1 = 0 by decide +kernel, show brightD 8 0 1 1 0 1 = 1 by decide +kernel, show brightE 8 0 1 1 0 1 = 0 by decide +kernel] at this)
  have HSH := Lib.hid fun (hv : Value) (W : World) (h : intK.Is W hv rampH) => (show Calls Try.prog 35 #[surfV 3 2 1 hv, lightV 1 0 2] W (RetEE boolK W [false, false] 0) from by
    have := shadows_any 3 2 1 hv rampH 1 0 2 W h
    rwa [show shadowsL 3 2 1 rampH 1 0 2 = [false, false] by decide +kernel, show shadE 3 2 1 rampH 1 0 2 = 0 by decide +kernel] at this)
  have HSI := Lib.hid fun (hv : Value) (W : World) (h : intK.Is W hv rampH) => (show Calls Try.prog 35 #[surfV 3 2 1 hv, lightV 2 0 1] W (RetEE boolK W [true, false] 0) from by
    have := shadows_any 3 2 1 hv rampH 2 0 1 W h
    rwa [show shadowsL 3 2 1 rampH 2 0 1 = [true, false] by decide +kernel, show shadE 3 2 1 rampH 2 0 1 = 0 by decide +kernel] at this)
  have HSW := Lib.hid fun (v : Value) (W : World) (h : lightK.Is W v [(1, 1, 1), (1, 0, 1)]) => (show Calls Try.prog 51 #[tiltV 3 0, tiltV 0 3, .int .i64 1, v] W (RetEE intK W [1] 0) from by
    have := Shows_any 3 0 0 3 1 v [(1, 1, 1), (1, 0, 1)] W h
    rwa [show showsL 3 0 0 3 1 [(1, 1, 1), (1, 0, 1)] = [1] by decide +kernel, show showsE 3 0 0 3 1 [(1, 1, 1), (1, 0, 1)] = 0 by decide +kernel] at this)
  have HLT := Lib.hid fun (v : Value) (W : World) (h : boolK.Is W v [true, false]) => (show Calls Try.prog 49 #[v, tiltV 3 0, tiltV 0 3] W (RetEE tiltK W [(3, 0), (0, 3)] 0) from by
    have := Latent_any v [true, false] 3 0 0 3 W h
    rwa [show latL [true, false] 3 0 0 3 = [(3, 0), (0, 3)] by decide +kernel, show latE [true, false] 3 0 0 3 = 0 by decide +kernel] at this)
  have HCA := Lib.hid fun (v : Value) (W : World) (h : CutsIs W v groovyK.cuts) => (show Calls Try.prog 47 #[groovyK.val v, V2 10 0, .int .i64 2, .int .i64 2, .int .i64 6] W (CarvRet W 2 6 2 0 [0, 0, -1, -1, -3, -3, -3, -3, -1, -1, 0, 0]) from by
    have := Carve_any groovyK v 10 0 2 2 6 W h
    rwa [show carveL groovyK 10 0 2 2 6 = [0, 0, -1, -1, -3, -3, -3, -3, -1, -1, 0, 0] by decide +kernel, show carveE groovyK 10 0 2 2 6 = 0 by decide +kernel] at this)
  have HCB := Lib.hid fun (v : Value) (W : World) (h : CutsIs W v groovyK.cuts) => (show Calls Try.prog 47 #[groovyK.val v, V2 9999 0, .int .i64 2, .int .i64 2, .int .i64 2] W (CarvRet W 0 0 0 6 []) from by
    have := Carve_any groovyK v 9999 0 2 2 2 W h
    rwa [show carveL groovyK 9999 0 2 2 2 = [] by decide +kernel, show carveE groovyK 9999 0 2 2 2 = 6 by decide +kernel] at this)
  have HFN := Lib.hid fun (hv : Value) (W : World) (h : intK.Is W hv rampH) => (show Calls Try.prog 44 #[surfV 3 2 1 hv, .slice none 0 0] W (RetEE intK W [] 4) from by
    have := Flash_any 3 2 1 hv rampH (.slice none 0 0) [] W h (lightK_nil W)
    rwa [show flashL 3 2 1 rampH [] = [] by decide +kernel, show flashE 3 2 1 rampH [] = 4 by decide +kernel] at this)
  have HRD := Lib.hid fun (v : Value) (W : World) (h : shadeK.Is W v [(1, 2)]) => (show Calls Try.prog 53 #[v] W (RetEE boolK W [] 6) from by
    have := Read_any v [(1, 2)] W h
    rwa [show readL [(1, 2)] = [] by decide +kernel, show readE [(1, 2)] = 6 by decide +kernel] at this)
  have HFL := Lib.hid fun (hv v : Value) (W : World) (h : intK.Is W hv rampH) (h' : lightK.Is W v [(1, 0, 1), (0, 0, 1), (-4, 0, 1)]) => (show Calls Try.prog 44 #[surfV 3 2 1 hv, v] W (RetEE intK W [1, 2] 0) from by
    have := Flash_any 3 2 1 hv rampH v [(1, 0, 1), (0, 0, 1), (-4, 0, 1)] W h h'
    rwa [show flashL 3 2 1 rampH [(1, 0, 1), (0, 0, 1), (-4, 0, 1)] = [1, 2] by decide +kernel, show flashE 3 2 1 rampH [(1, 0, 1), (0, 0, 1), (-4, 0, 1)] = 0 by decide +kernel] at this)
  have HCK := Lib.hid fun (W : World) => (show Calls Try.prog 29 #[surfV 0 0 0 (.slice none 0 0)] W fun e w' => e = .returned (.int .i64 60) ∧ Ext W w' from by
    have := checkS_any 0 0 0 (.slice none 0 0) [] W (EK.Own.nil (K := intK) 0 W).is
    rwa [show surfE 0 0 0 [] = 60 by decide +kernel] at this)
  have HCL := Lib.hid fun (W : World) => (show Calls Try.prog 31 #[lightV 0 0 0] W fun e w' => e = .returned (.int .i64 61) ∧ Ext W w' from by
    have := checkLight_any 0 0 0 W
    rwa [show lightE 0 0 0 = 61 by decide +kernel] at this)
  go_enter Try.func20, Try.ntmps20
  have HX0 := Lib.hid (Ext.refl w)
  go_wp2_with fail
  refine (HAL.out _).mono ?_
  rintro e w1 ⟨rfl, x'⟩
  have x : Ext w w1 := x'
  replace HX0 := Lib.hid (HX0.out.trans x)
  clear x x'
  go_wp2_with fail
  refine (HB1.out _).mono ?_
  rintro e w2 ⟨rfl, x'⟩
  have x : Ext w1 w2 := x'
  replace HX0 := Lib.hid (HX0.out.trans x)
  clear x x'
  have BX := Lib.hid (BoxAt.new w2 #[.int .i64 0, .int .i64 1] 27)
  go_wp2_with fail
  refine (HRA.out _).mono ?_
  rintro e w3 ⟨hv, rfl, hi, x'⟩
  have x : Ext w2 w3 := Ext.trans ((Ext.refl _).alloc _) x'
  replace HX0 := Lib.hid (HX0.out.trans x)
  replace BX := Lib.hid (BX.out.ext x')
  clear x x'
  go_wp2_with fail
  refine (HSH.out _ _ hi).mono ?_
  rintro e w4 ⟨v, rfl, o, x'⟩
  have x : Ext w3 w4 := x'
  replace BX := Lib.hid (BX.out.ext x)
  replace HX0 := Lib.hid (HX0.out.trans x)
  obtain ⟨Ab, kb, cb, rfl⟩ := o.shape
  have Ib := Lib.hid o.is
  clear o
  clear hi
  clear x x'
  go_wp2_with fail
  refine (HRA.out _).mono ?_
  rintro e w5 ⟨hv, rfl, hi, x'⟩
  have x : Ext w4 w5 := x'
  replace BX := Lib.hid (BX.out.ext x)
  replace Ib := Lib.hid (Ib.out.ext x)
  replace HX0 := Lib.hid (HX0.out.trans x)
  clear x x'
  go_wp2_with fail
  refine (HSI.out _ _ hi).mono ?_
  rintro e w6 ⟨v, rfl, o, x'⟩
  have x : Ext w5 w6 := x'
  replace BX := Lib.hid (BX.out.ext x)
  replace Ib := Lib.hid (Ib.out.ext x)
  replace HX0 := Lib.hid (HX0.out.trans x)
  obtain ⟨Ac, kc, cc, rfl⟩ := o.shape
  have Ic := Lib.hid o.is
  clear o
  clear hi
  clear x x'
  go_wp2_with fail
  have HSL := Lib.hid (EK.Own.lit (K := lightK) (B := w6.heap.size) w6 #[.int .i64 1, .int .i64 1, .int .i64 1, .int .i64 1, .int .i64 0, .int .i64 1] [(1, 1, 1), (1, 0, 1)] rfl (Nat.le_refl _) (by decide)).is
  refine (HSW.out _ _ HSL.out).mono ?_
  rintro e w7 ⟨v, rfl, o, x'⟩
  have x : Ext w6 w7 := Ext.trans ((Ext.refl _).alloc _) x'
  replace BX := Lib.hid (BX.out.ext x)
  replace Ib := Lib.hid (Ib.out.ext x)
  replace Ic := Lib.hid (Ic.out.ext x)
  replace HX0 := Lib.hid (HX0.out.trans x)
  obtain ⟨Ad, kd, cd, rfl⟩ := o.shape
  have Id := Lib.hid o.is
  clear o
  clear HSL
  clear x x'
  go_wp2_with fail
  have HSL := Lib.hid (EK.Own.lit (K := boolK) (B := w7.heap.size) w7 #[.bool true, .bool false] [true, false] rfl (Nat.le_refl _) (by decide)).is
  refine (HLT.out _ _ HSL.out).mono ?_
  rintro e w8 ⟨v, rfl, o, x'⟩
  have x : Ext w7 w8 := Ext.trans ((Ext.refl _).alloc _) x'
  replace BX := Lib.hid (BX.out.ext x)
  replace Ib := Lib.hid (Ib.out.ext x)
  replace Ic := Lib.hid (Ic.out.ext x)
  replace Id := Lib.hid (Id.out.ext x)
  replace HX0 := Lib.hid (HX0.out.trans x)
  obtain ⟨Am, km, cm, rfl⟩ := o.shape
  have Im := Lib.hid o.is
  clear o
  clear HSL
  clear x x'
  go_wp2_with fail
  refine (HGR.out _).mono ?_
  rintro e w9 ⟨gv, rfl, hi, x'⟩
  have x : Ext w8 w9 := x'
  replace BX := Lib.hid (BX.out.ext x)
  replace Ib := Lib.hid (Ib.out.ext x)
  replace Ic := Lib.hid (Ic.out.ext x)
  replace Id := Lib.hid (Id.out.ext x)
  replace Im := Lib.hid (Im.out.ext x)
  replace HX0 := Lib.hid (HX0.out.trans x)
  clear x x'
  go_wp2_with fail
  refine (HCA.out _ _ hi).mono ?_
  rintro e w10 ⟨v, rfl, o, x'⟩
  have x : Ext w9 w10 := x'
  replace BX := Lib.hid (BX.out.ext x)
  replace Ib := Lib.hid (Ib.out.ext x)
  replace Ic := Lib.hid (Ic.out.ext x)
  replace Id := Lib.hid (Id.out.ext x)
  replace Im := Lib.hid (Im.out.ext x)
  replace HX0 := Lib.hid (HX0.out.trans x)
  obtain ⟨As, ks, cs, rfl⟩ := o.shape
  have Is := Lib.hid o.is
  clear o
  clear hi
  clear x x'
  have Is_ := Is
  clear Is
  have BS := Lib.hid (BoxAt.new w10 #[.int .i64 2, .int .i64 6, .int .i64 2, .slice As ks cs] 37)
  go_wp2_with fail
  refine (HGR.out _).mono ?_
  rintro e w11 ⟨gv, rfl, hi, x'⟩
  have x : Ext w10 w11 := Ext.trans ((Ext.refl _).alloc _) x'
  replace BX := Lib.hid (BX.out.ext x)
  replace Ib := Lib.hid (Ib.out.ext x)
  replace Ic := Lib.hid (Ic.out.ext x)
  replace Id := Lib.hid (Id.out.ext x)
  replace Im := Lib.hid (Im.out.ext x)
  replace Is_ := Lib.hid (Is_.out.ext x)
  replace HX0 := Lib.hid (HX0.out.trans x)
  replace BS := Lib.hid (BS.out.ext x')
  clear x x'
  go_wp2_with fail
  refine (HCB.out _ _ hi).mono ?_
  rintro e w12 ⟨v, rfl, o, x'⟩
  have x : Ext w11 w12 := x'
  replace BX := Lib.hid (BX.out.ext x)
  replace Ib := Lib.hid (Ib.out.ext x)
  replace Ic := Lib.hid (Ic.out.ext x)
  replace Id := Lib.hid (Id.out.ext x)
  replace Im := Lib.hid (Im.out.ext x)
  replace Is_ := Lib.hid (Is_.out.ext x)
  replace BS := Lib.hid (BS.out.ext x)
  replace HX0 := Lib.hid (HX0.out.trans x)
  obtain ⟨Aq, kq, cq, rfl⟩ := o.shape
  clear o hi
  clear x x'
  go_wp2_with fail
  refine (HRA.out _).mono ?_
  rintro e w13 ⟨hv, rfl, hi, x'⟩
  have x : Ext w12 w13 := Ext.trans ((Ext.refl _).alloc _) x'
  replace BX := Lib.hid (BX.out.ext x)
  replace Ib := Lib.hid (Ib.out.ext x)
  replace Ic := Lib.hid (Ic.out.ext x)
  replace Id := Lib.hid (Id.out.ext x)
  replace Im := Lib.hid (Im.out.ext x)
  replace Is_ := Lib.hid (Is_.out.ext x)
  replace BS := Lib.hid (BS.out.ext x)
  replace HX0 := Lib.hid (HX0.out.trans x)
  clear x x'
  go_wp2_with fail
  refine (HFN.out _ _ hi).mono ?_
  rintro e w14 ⟨v, rfl, o, x'⟩
  have x : Ext w13 w14 := x'
  replace BX := Lib.hid (BX.out.ext x)
  replace Ib := Lib.hid (Ib.out.ext x)
  replace Ic := Lib.hid (Ic.out.ext x)
  replace Id := Lib.hid (Id.out.ext x)
  replace Im := Lib.hid (Im.out.ext x)
  replace Is_ := Lib.hid (Is_.out.ext x)
  replace BS := Lib.hid (BS.out.ext x)
  replace HX0 := Lib.hid (HX0.out.trans x)
  obtain ⟨Al, kl, cl, rfl⟩ := o.shape
  clear o hi
  clear x x'
  go_wp2_with fail
  have HSL := Lib.hid (EK.Own.lit (K := shadeK) (B := w14.heap.size) w14 #[.int .i64 1, .int .i64 2] [(1, 2)] rfl (Nat.le_refl _) (by decide)).is
  refine (HRD.out _ _ HSL.out).mono ?_
  rintro e w15 ⟨v, rfl, o, x'⟩
  have x : Ext w14 w15 := Ext.trans ((Ext.refl _).alloc _) x'
  replace BX := Lib.hid (BX.out.ext x)
  replace Ib := Lib.hid (Ib.out.ext x)
  replace Ic := Lib.hid (Ic.out.ext x)
  replace Id := Lib.hid (Id.out.ext x)
  replace Im := Lib.hid (Im.out.ext x)
  replace Is_ := Lib.hid (Is_.out.ext x)
  replace BS := Lib.hid (BS.out.ext x)
  replace HX0 := Lib.hid (HX0.out.trans x)
  obtain ⟨An, kn, cn, rfl⟩ := o.shape
  clear o HSL
  clear x x'
  go_wp2_with fail
  refine (HRA.out _).mono ?_
  rintro e w16 ⟨hv, rfl, hi, x'⟩
  have x : Ext w15 w16 := x'
  replace BX := Lib.hid (BX.out.ext x)
  replace Ib := Lib.hid (Ib.out.ext x)
  replace Ic := Lib.hid (Ic.out.ext x)
  replace Id := Lib.hid (Id.out.ext x)
  replace Im := Lib.hid (Im.out.ext x)
  replace Is_ := Lib.hid (Is_.out.ext x)
  replace BS := Lib.hid (BS.out.ext x)
  replace HX0 := Lib.hid (HX0.out.trans x)
  clear x x'
  go_wp2_with fail
  have HSL := Lib.hid (EK.Own.lit (K := lightK) (B := w16.heap.size) w16 #[.int .i64 1, .int .i64 0, .int .i64 1, .int .i64 0, .int .i64 0, .int .i64 1, .int .i64 (-4), .int .i64 0, .int .i64 1] [(1, 0, 1), (0, 0, 1), (-4, 0, 1)] rfl (Nat.le_refl _) (by decide)).is
  refine (HFL.out _ _ _ (hi.ext ((Ext.refl _).alloc _)) HSL.out).mono ?_
  rintro e w17 ⟨v, rfl, o, x'⟩
  have x : Ext w16 w17 := Ext.trans ((Ext.refl _).alloc _) x'
  replace BX := Lib.hid (BX.out.ext x)
  replace Ib := Lib.hid (Ib.out.ext x)
  replace Ic := Lib.hid (Ic.out.ext x)
  replace Id := Lib.hid (Id.out.ext x)
  replace Im := Lib.hid (Im.out.ext x)
  replace Is_ := Lib.hid (Is_.out.ext x)
  replace BS := Lib.hid (BS.out.ext x)
  replace HX0 := Lib.hid (HX0.out.trans x)
  obtain ⟨Ap, kp, cp, rfl⟩ := o.shape
  have Ip := Lib.hid o.is
  clear o
  clear HSL hi
  clear x x'
  have b0 := BX.out.cell (i := 0) rfl
  have b1 := BX.out.cell (i := 1) rfl
  have lb := cell_lt b0
  go_wp2_with fail
  have HSL := Lib.hid (EK.Own.lit (K := boolK) (B := w17.heap.size) w17 #[.bool false, .bool false] [false, false] rfl (Nat.le_refl _) (by decide)).is
  have C := sameBools_any _ _ _ _ _ (Ib.out.ext ((Ext.refl _).alloc _)) HSL.out
  rw [decide_eq_true rfl] at C
  refine (C).mono ?_
  rintro e w18 ⟨rfl, x'⟩
  have x : Ext w17 w18 := Ext.trans ((Ext.refl _).alloc _) x'
  replace BX := Lib.hid (BX.out.ext x)
  replace Ib := Lib.hid (Ib.out.ext x)
  replace Ic := Lib.hid (Ic.out.ext x)
  replace Id := Lib.hid (Id.out.ext x)
  replace Im := Lib.hid (Im.out.ext x)
  replace Is_ := Lib.hid (Is_.out.ext x)
  replace BS := Lib.hid (BS.out.ext x)
  replace Ip := Lib.hid (Ip.out.ext x)
  replace HX0 := Lib.hid (HX0.out.trans x)
  clear C HSL b0 b1 lb
  clear x x'
  go_wp2_with fail
  have HSL := Lib.hid (EK.Own.lit (K := boolK) (B := w18.heap.size) w18 #[.bool true, .bool false] [true, false] rfl (Nat.le_refl _) (by decide)).is
  have C := sameBools_any _ _ _ _ _ (Ic.out.ext ((Ext.refl _).alloc _)) HSL.out
  rw [decide_eq_true rfl] at C
  refine (C).mono ?_
  rintro e w19 ⟨rfl, x'⟩
  have x : Ext w18 w19 := Ext.trans ((Ext.refl _).alloc _) x'
  replace BX := Lib.hid (BX.out.ext x)
  replace Ib := Lib.hid (Ib.out.ext x)
  replace Ic := Lib.hid (Ic.out.ext x)
  replace Id := Lib.hid (Id.out.ext x)
  replace Im := Lib.hid (Im.out.ext x)
  replace Is_ := Lib.hid (Is_.out.ext x)
  replace BS := Lib.hid (BS.out.ext x)
  replace Ip := Lib.hid (Ip.out.ext x)
  replace HX0 := Lib.hid (HX0.out.trans x)
  clear C HSL
  clear x x'
  go_wp2_with fail
  have HSL := Lib.hid (EK.Own.lit (K := intK) (B := w19.heap.size) w19 #[.int .i64 1] [1] rfl (Nat.le_refl _) (by decide)).is
  have C := sameInts_any _ _ _ _ _ (Id.out.ext ((Ext.refl _).alloc _)) HSL.out
  rw [decide_eq_true rfl] at C
  refine (C).mono ?_
  rintro e w20 ⟨rfl, x'⟩
  have x : Ext w19 w20 := Ext.trans ((Ext.refl _).alloc _) x'
  replace BX := Lib.hid (BX.out.ext x)
  replace Ib := Lib.hid (Ib.out.ext x)
  replace Ic := Lib.hid (Ic.out.ext x)
  replace Id := Lib.hid (Id.out.ext x)
  replace Im := Lib.hid (Im.out.ext x)
  replace Is_ := Lib.hid (Is_.out.ext x)
  replace BS := Lib.hid (BS.out.ext x)
  replace Ip := Lib.hid (Ip.out.ext x)
  replace HX0 := Lib.hid (HX0.out.trans x)
  clear C HSL
  clear x x'
  go_wp2_with fail
  have HSL := Lib.hid (EK.Own.lit (K := tiltK) (B := w20.heap.size) w20 #[.int .i64 3, .int .i64 0, .int .i64 0, .int .i64 3] [(3, 0), (0, 3)] rfl (Nat.le_refl _) (by decide)).is
  have C := sameTilts_any _ _ _ _ _ (Im.out.ext ((Ext.refl _).alloc _)) HSL.out
  rw [decide_eq_true rfl] at C
  refine (C).mono ?_
  rintro e w21 ⟨rfl, x'⟩
  have x : Ext w20 w21 := Ext.trans ((Ext.refl _).alloc _) x'
  replace BX := Lib.hid (BX.out.ext x)
  replace Ib := Lib.hid (Ib.out.ext x)
  replace Ic := Lib.hid (Ic.out.ext x)
  replace Id := Lib.hid (Id.out.ext x)
  replace Im := Lib.hid (Im.out.ext x)
  replace Is_ := Lib.hid (Is_.out.ext x)
  replace BS := Lib.hid (BS.out.ext x)
  replace Ip := Lib.hid (Ip.out.ext x)
  replace HX0 := Lib.hid (HX0.out.trans x)
  clear C HSL
  clear x x'
  have s3 := BS.out.cell (i := 3) rfl
  have l3 := cell_lt s3
  go_wp2_with fail
  have HSL := Lib.hid (EK.Own.lit (K := intK) (B := w21.heap.size) w21 #[.int .i64 0, .int .i64 0, .int .i64 (-1), .int .i64 (-1), .int .i64 (-3), .int .i64 (-3), .int .i64 (-3), .int .i64 (-3), .int .i64 (-1), .int .i64 (-1), .int .i64 0, .int .i64 0] [0, 0, -1, -1, -3, -3, -3, -3, -1, -1, 0, 0] rfl (Nat.le_refl _) (by decide)).is
  have C := sameInts_any _ _ _ _ _ (Is_.out.ext ((Ext.refl _).alloc _)) HSL.out
  rw [decide_eq_true rfl] at C
  refine (C).mono ?_
  rintro e w22 ⟨rfl, x'⟩
  have x : Ext w21 w22 := Ext.trans ((Ext.refl _).alloc _) x'
  replace BX := Lib.hid (BX.out.ext x)
  replace Ib := Lib.hid (Ib.out.ext x)
  replace Ic := Lib.hid (Ic.out.ext x)
  replace Id := Lib.hid (Id.out.ext x)
  replace Im := Lib.hid (Im.out.ext x)
  replace Is_ := Lib.hid (Is_.out.ext x)
  replace BS := Lib.hid (BS.out.ext x)
  replace Ip := Lib.hid (Ip.out.ext x)
  replace HX0 := Lib.hid (HX0.out.trans x)
  clear C HSL s3 l3
  clear x x'
  go_wp2_with fail
  have HSL := Lib.hid (EK.Own.lit (K := intK) (B := w22.heap.size) w22 #[.int .i64 1, .int .i64 2] [1, 2] rfl (Nat.le_refl _) (by decide)).is
  have C := sameInts_any _ _ _ _ _ (Ip.out.ext ((Ext.refl _).alloc _)) HSL.out
  rw [decide_eq_true rfl] at C
  refine (C).mono ?_
  rintro e w23 ⟨rfl, x'⟩
  have x : Ext w22 w23 := Ext.trans ((Ext.refl _).alloc _) x'
  replace BX := Lib.hid (BX.out.ext x)
  replace Ib := Lib.hid (Ib.out.ext x)
  replace Ic := Lib.hid (Ic.out.ext x)
  replace Id := Lib.hid (Id.out.ext x)
  replace Im := Lib.hid (Im.out.ext x)
  replace Is_ := Lib.hid (Is_.out.ext x)
  replace BS := Lib.hid (BS.out.ext x)
  replace Ip := Lib.hid (Ip.out.ext x)
  replace HX0 := Lib.hid (HX0.out.trans x)
  clear C HSL
  clear x x'
  go_wp2_with fail
  refine (HCK.out _).mono ?_
  rintro e w24 ⟨rfl, x'⟩
  have x : Ext w23 w24 := x'
  replace BX := Lib.hid (BX.out.ext x)
  replace Ib := Lib.hid (Ib.out.ext x)
  replace Ic := Lib.hid (Ic.out.ext x)
  replace Id := Lib.hid (Id.out.ext x)
  replace Im := Lib.hid (Im.out.ext x)
  replace Is_ := Lib.hid (Is_.out.ext x)
  replace BS := Lib.hid (BS.out.ext x)
  replace Ip := Lib.hid (Ip.out.ext x)
  replace HX0 := Lib.hid (HX0.out.trans x)
  clear x x'
  go_wp2_with fail
  refine (HCL.out _).mono ?_
  rintro e w25 ⟨rfl, x'⟩
  have x : Ext w24 w25 := x'
  replace BX := Lib.hid (BX.out.ext x)
  replace Ib := Lib.hid (Ib.out.ext x)
  replace Ic := Lib.hid (Ic.out.ext x)
  replace Id := Lib.hid (Id.out.ext x)
  replace Im := Lib.hid (Im.out.ext x)
  replace Is_ := Lib.hid (Is_.out.ext x)
  replace BS := Lib.hid (BS.out.ext x)
  replace Ip := Lib.hid (Ip.out.ext x)
  replace HX0 := Lib.hid (HX0.out.trans x)
  clear x x'
  go_wp2_with fail
  go_ret
  exact ⟨rfl, HX0.out⟩
end Go.Proofs.Ytlljhimaopnbfaa
