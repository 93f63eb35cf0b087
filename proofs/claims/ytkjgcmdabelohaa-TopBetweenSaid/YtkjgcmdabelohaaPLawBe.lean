/- TopBetween: what the law's function returns. Condition: the program's slices read as lists; the noise and j lie in their types. -/
import Derived.Test.YtkjgcmdabelohaaRGal
import Derived.Test.YtkjgcmdabelohaaRTurns
import Derived.Test.YtkjgcmdabelohaaLSameB
import Derived.Test.YtkjgcmdabelohaaPSee
import Derived.Maps.AppendAt
import Derived.Test.YtkjgcmdabelohaaPAlv
namespace Go.Proofs.Ytkjgcmdabelohaa
section
/- PReb: read.Rebuild where there is a rosette. Condition: the lists are heights, the first below the other and below what can be ground. -/
open Go.RowKit

theorem isI_KP {w : World} {v : Value} {zs : List Int} (h : IsI w v zs) : intK.Is w v zs := by
  obtain ⟨A, c, rfl, h0, hc, hr⟩ := h
  refine ⟨A, c, rfl, h0, hc, fun j hj => ?_⟩
  obtain ⟨b, o, hA, hb, hcell⟩ := hr.at_ j hj
  refine ⟨b, o, hA, hb, fun i u hu => ?_⟩
  have hi : i = 0 := by
    have : i < (intK.enc zs[j]).length := (List.getElem?_eq_some_iff.1 hu).1
    simp [intK] at this
    omega
  subst hi
  simp only [intK, List.getElem?_cons_zero, Option.some.injEq] at hu
  subst hu
  rw [List.getElem?_eq_getElem hj] at hcell
  show w.cell? ⟨b, o + j * 1 + 0, none⟩ = _
  rw [Nat.mul_one, Nat.add_zero]
  exact hcell
def RebRet (w : World) (zs : List Int) (e : Ending) (w' : World) : Prop := ∃ r, e = .returned (.tuple #[r, .int .i64 0, .int .i64 0]) ∧ OwnI w.heap.size w' r zs ∧ Ext w w'

set_option maxRecDepth 100000 in
set_option maxHeartbeats 4000000 in
theorem rebuild_good (u v b : Value) (lo hi rub : List Int) (w : World) (hu : IsI w u lo) (hv : IsI w v hi) (hb : IsI w b rub) (hlo : checkB lo = true) (hf : Fine hi rub) (hle : LeL lo hi) (hge : LeL lo (liftL (underL hi rub) rub)) :
    Calls Try.prog 10 #[u, v, b] w (RebRet w (underL hi rub)) := by
  have hz := fine_iff.2 hf
  have HC := Lib.hid fun (W : World) (x : Ext w W) => check_good hlo W (hu.ext x)
  have HG := Lib.hid fun (W : World) (x : Ext w W) => (show Calls Try.prog 34 #[v, b] W (RetOE W (liftL (underL hi rub) rub) 0) from by
    have := Grind_any v b hi rub W (hv.ext x) (hb.ext x)
    rwa [fOr, if_pos hz, hz] at this)
  have HU := Lib.hid fun (W : World) (x : Ext w W) => (show Calls Try.prog 35 #[v, b] W (RetOE W (underL hi rub) 0) from by
    have := Under_any v b hi rub W (hv.ext x) (hb.ext x)
    rwa [fOr, if_pos hz, hz] at this)
  obtain ⟨A1, n, c1, rfl, hn1, -, hr1, hm1⟩ := (isI_KP hu).open_
  obtain ⟨A2, n2, c2, rfl, hn2, -, hr2, -⟩ := (isI_KP hv).open_
  obtain ⟨A3, n3, c3, rfl, hn3, -, -, -⟩ := (isI_KP hb).open_
  have h96 : n ≤ 96 := by have := (checkB_iff.1 hlo).2.1; omega
  obtain rfl : n = n2 := by have := hle.1; omega
  have HR1 := Lib.hid hr1
  have HR2 := Lib.hid hr2
  have HN1 := Lib.hid hn1
  have HN2 := Lib.hid hn2
  have HLE := Lib.hid hle
  have HGE := Lib.hid hge
  clear hu hv hb hz hr1 hr2 hn1 hn2 hn3 hlo hf hle hge
  go_enter Try.func10, Try.ntmps10
  go_wp2_with (first
    | (go_at_call 28; refine (HC.out _ (Ext.refl _)).mono ?_; rintro e w' ⟨rfl, rfl⟩))
  refine (HG.out _ (Ext.refl _)).mono ?_
  rintro e W1 ⟨gv, rfl, own1, x1⟩
  have HX1 := Lib.hid x1
  have HO1 := Lib.hid own1
  obtain ⟨Ag, ng, cg, rfl⟩ := (intK_own.2 own1).shape
  clear x1 own1
  go_wp2_with fail
  go_loopw [34] (fun iv W => ∃ i : Nat, i ≤ n ∧ iv = .int .i64 (i : Int) ∧ Ext W1 W) (fun iv _ => n - (intOf iv).toNat)
  case atStart => exact ⟨0, by omega, rfl, Ext.refl _⟩
  case round =>
    obtain ⟨i, hi', rfl, hx⟩ := hrel
    have HX := Lib.hid hx
    by_cases hlt : i < n
    · have hii : (i : Int) < (n : Int) := by omega
      have hil : i < lo.length := by rw [HN1.out]; exact hlt
      have hil2 : i < hi.length := by rw [HN2.out]; exact hlt
      obtain ⟨b1, o1, rfl, _, m0⟩ := ints_at HR1.out i hil
      obtain ⟨b2, o2, rfl, _, m1⟩ := ints_at HR2.out i hil2
      replace m0 := (HX1.out.trans hx).cell_some m0
      replace m1 := (HX1.out.trans hx).cell_some m1
      have lm := cell_lt m0
      have lm1 := cell_lt m1
      have hcmp := HLE.out.2 i hil
      rw [List.getElem?_eq_getElem hil, List.getElem?_eq_getElem hil2, Option.getD_some, Option.getD_some] at hcmp
      generalize lo[i] = x at *
      generalize hi[i] = y at *
      have hc : ¬ y < x := by omega
      clear hx hcmp
      go_wp2_with fail
      refine wp_region_bext (by kernel_rfl) (by kernel_rfl) ?_
      repeat (any_goals (go_big_quiet_step (fail)))
      all_goals refine wpQuiet_nil ?_
      all_goals rintro _ ⟨δ, rfl⟩
      go_wp2_with fail
      go_roundw
      case rel => exact ⟨i + 1, by omega, by go_num, HX.out.step _⟩
      case measure => simp [intOf]; omega
    · obtain rfl : n = i := by omega
      clear hx
      go_wp2_with fail
      obtain ⟨W2, rfl⟩ : ∃ z, z = wr := ⟨_, rfl⟩
      have HX2 := Lib.hid (HX1.out.trans HX.out)
      have HOG := Lib.hid ((intK_own.2 HO1.out).ext HX.out).is
      go_loopw [49] (fun iv W => ∃ i : Nat, i ≤ n ∧ iv = .int .i64 (i : Int) ∧ Ext W2 W) (fun iv _ => n - (intOf iv).toNat)
      case atStart => exact ⟨0, by omega, rfl, Ext.refl _⟩
      case round =>
        obtain ⟨i, hi', rfl, hx⟩ := hrel
        have HY := Lib.hid hx
        by_cases hlt : i < n
        · have hii : (i : Int) < (n : Int) := by omega
          have hil : i < lo.length := by rw [HN1.out]; exact hlt
          obtain ⟨b1, o1, rfl, _, m0⟩ := ints_at HR1.out i hil
          obtain ⟨A5, n5, c5, e5, hn5, -, hr5, -⟩ := HOG.out.open_
          simp only [Value.slice.injEq] at e5
          obtain ⟨rfl, rfl, rfl⟩ := e5
          have hil5 : i < (liftL (underL hi rub) rub).length := by have := HGE.out.1; omega
          have hgn : (i : Int) < (ng : Int) := by omega
          obtain ⟨b2, o2, rfl, _, m1⟩ := ints_at hr5 i hil5
          replace m0 := (HX2.out.trans hx).cell_some m0
          replace m1 := hx.cell_some m1
          have lm := cell_lt m0
          have lm1 := cell_lt m1
          have hcmp := HGE.out.2 i hil
          rw [List.getElem?_eq_getElem hil, List.getElem?_eq_getElem hil5, Option.getD_some, Option.getD_some] at hcmp
          generalize lo[i] = x at *
          generalize (liftL (underL hi rub) rub)[i] = y at *
          have hc : ¬ y < x := by omega
          clear hx hcmp hr5 hn5
          go_wp2_with fail
          refine wp_region_bext (by kernel_rfl) (by kernel_rfl) ?_
          repeat (any_goals (go_big_quiet_step (fail)))
          all_goals refine wpQuiet_nil ?_
          all_goals rintro _ ⟨δ, rfl⟩
          go_wp2_with fail
          go_roundw
          case rel => exact ⟨i + 1, by omega, by go_num, HY.out.step _⟩
          case measure => simp [intOf]; omega
        · obtain rfl : n = i := by omega
          have HXW := Lib.hid (HX2.out.trans hx)
          clear hx
          go_wp2_with fail
          refine (HU.out _ HXW.out).mono ?_
          rintro e W3 ⟨rv, rfl, own3, x3⟩
          obtain ⟨A6, n6, c6, rfl⟩ := (intK_own.2 own3).shape
          have HX3 := Lib.hid (HXW.out.trans x3)
          have HO3 := Lib.hid (intK_own.1 ((intK_own.2 own3).mono (B' := w.heap.size) HXW.out.bel.size))
          clear own3 x3
          go_wp2_with fail
          refine bodyPost_ret (v := .tuple #[.slice A6 n6 c6, .int .i64 0, .int .i64 0]) (by simp [results, Try.results10, go_sem]) rfl ?_
          exact ⟨_, rfl, HO3.out, HX3.out⟩
end
section
/- PBetP: TopBetween in plain words: what is rebuilt from one cut is no lower, and no higher than the noise allows. And: an append that tells where its block lies. No program. Condition: a valid program with a Throw of 1. -/
open Go.RowKit

section
variable {α : Type} {K : EK α} {F : Fence} {n : Nat}
/-- An append of one element among steps: the block is the old one, or new. -/
theorem EK.app_sAt {w : World} {ops : Array Oper} {T : Act → World → Prop} {i : Nat} {is : List (Nat × Bool)} {o : Oper} {a : Act} (h0 : ops[i]? = some o) (hgd : o.guard = none) (s x : Operand)
    (ho : o.op = .call { callee := .builtin .append, args := #[s, x], argTypes := #[K.st, K.st] })
    {B : Nat} {v : Value} {xs : List α} (b c : Nat) (y : α) (hs : a.eval s = v) (hx : a.eval x = .slice (some ⟨b, 0, none⟩) 1 c)
    (hcell : ∀ i u, (K.enc y)[i]? = some u → w.cell? ⟨b, i, none⟩ = some u) (hown : K.Own B w v xs) (hB : B ≤ w.heap.size) (hlen : xs.length ≤ 1000000000)
    (h : ∀ v' w1 w2, K.Own B w2 v' (xs ++ [y]) → Ext w w1 → w1.grownBy w2 v.ownBlock → (v'.ownBlock = v.ownBlock ∨ v'.ownBlock = some w1.heap.size) → wpSD v.ownBlock.toList F n Try.prog ops T is (a.put o.dst v') w2) : wpSD v.ownBlock.toList F n Try.prog ops T ((i, false) :: is) a w := by
  have key := wpMD_run (F := F) (n := n) (P := Try.prog) (D := v.ownBlock.toList) (Q := wpSD v.ownBlock.toList F n Try.prog ops T is) (is := []) h0 hgd (fun _ => by simp [Oper.about, ho, resolve, Target.leads, Sem.run_pure]) (a := a) (w := w) (fun w1 X => by
    obtain ⟨i0, hi, hz0, hz1, hz2⟩ := info_parts K.info
    have hsm := K.small
    obtain ⟨v', w2, hrun, r1, r2, _, r4⟩ := run_append_own_at (P := Try.prog) w1 B K.st o.type K.ty i0 K.z K.k K.bytes K.und hi hz0 hz1 hz2 K.hzs K.pos v _ _ (hown.ext X) ⟨b, 0, none⟩ 1 c (K.enc y) (by rw [K.len, Nat.one_mul]) (fun j u hj => by
      have := X.cell_some (hcell j u hj)
      simp only [Addr.add]
      split
      · rename_i h0; subst h0; exact this
      · simpa using this) (K.one y) (by simp only [maxLen]; omega) (Nat.le_trans (Nat.mul_le_mul (show xs.length + 1 ≤ 1000000001 by omega) hsm) (by decide)) (Nat.le_trans hB X.bel.size)
    refine ⟨v', w2, ?_, (But.refl _ w1).grown r2 (fun r e => .inl (by rw [e]; simp)), wpMD_nil (h v' w1 w2 (by simpa [EK.Own] using r1) X r2 r4)⟩
    simp [execOp, ho, resolve, invoke, builtin, hs, hx, hrun, Result.andThen])
  exact key
/-- Two slices of the call's own that do not share their block. -/
structure TwoI (B : Nat) (w : World) (u v : Value) (xs ys : List Int) : Prop where
  fst : intK.Own B w u xs
  snd : intK.Own B w v ys
  ne : ∀ r, u.ownBlock = some r → v.ownBlock ≠ some r
theorem TwoI.swap {B : Nat} {w : World} {u v : Value} {xs ys : List Int} (h : TwoI B w u v xs ys) : TwoI B w v u ys xs := ⟨h.snd, h.fst, fun r e e2 => h.ne r e2 e⟩
theorem TwoI.ext {B : Nat} {w w' : World} {u v : Value} {xs ys : List Int} (h : TwoI B w u v xs ys) (x : Ext w w') : TwoI B w' u v xs ys := ⟨h.fst.ext x, h.snd.ext x, h.ne⟩
theorem TwoI.grow {B : Nat} {w w1 w2 : World} {u u' v : Value} {xs ys zs : List Int} (h : TwoI B w u v xs ys) (x : Ext w w1) (g : w1.grownBy w2 u.ownBlock) (o : intK.Own B w2 u' zs) (hat : u'.ownBlock = u.ownBlock ∨ u'.ownBlock = some w1.heap.size) : TwoI B w2 u' v zs ys := by
  refine ⟨o, (h.snd.ext x).kept g ?_, fun r e e2 => ?_⟩
  · cases hv : v.ownBlock with
    | none => exact .inl rfl
    | some r => exact .inr fun e => h.ne r e.symm hv
  · rcases hat with h1 | h1
    · rw [h1] at e
      exact h.ne r e e2
    · rw [h1] at e
      obtain rfl : w1.heap.size = r := by simpa using e
      have := ((h.snd.ext x).lt _ e2).2
      omega
theorem TwoI.nil (B : Nat) (w : World) : TwoI B w (.slice none 0 0) (.slice none 0 0) [] [] := ⟨EK.Own.nil _ _, EK.Own.nil _ _, fun r e => by cases e⟩
end

def lowI (p : PrT) (N : Int) (i : Nat) : Int := min (max ((cutL p 0)[i]?.getD 0 - N - p.start) 0) 10000
def highI (p : PrT) (N : Int) (i : Nat) : Int := min ((cutL p 0)[i]?.getD 0 + N - p.start) 10000
def upTo (f : Nat → Int) (k : Nat) : List Int := (List.range k).map f
theorem upTo_succ (f : Nat → Int) (k : Nat) : upTo f (k + 1) = upTo f k ++ [f k] := by
  unfold upTo
  rw [List.range_succ, List.map_append]
  rfl
theorem upTo_len (f : Nat → Int) (k : Nat) : (upTo f k).length = k := by simp [upTo]
theorem upTo_at {f : Nat → Int} {k i : Nat} (h : i < k) : (upTo f k)[i]?.getD 0 = f i := by simp [upTo, h]
theorem seeL_one (p : PrT) (N : Int) : seeL p N 1 = rowS p N 0 := by simp [seeL]
theorem rowS_at {p : PrT} {N : Int} {j i : Nat} (h : i < (rowS p N j).length) : (rowS p N j)[i] = ((j : Int), (i : Int), (cutL p j)[i]?.getD 0 - N, (cutL p j)[i]?.getD 0 + N) := by simp [rowS]
section
variable {p : PrT} {N : Int}
theorem phase_zero (hg : Good p) : phaseZ p 0 = 0 := by
  have := hg.nums.c1
  unfold phaseZ
  simp [sumTo]
theorem cut_zero (hg : Good p) (ht : p.throw = 1) {i : Nat} (hi : i < p.ros.length) : (cutL p 0)[i]?.getD 0 = p.start + (liftL p.ros p.rub)[i]?.getD 0 := by
  have hn := hg.nums.n1
  rw [cutL_at hi, phase_zero hg, ht, Int.sub_zero, Int.emod_eq_of_lt (by omega) (by omega), Int.toNat_natCast]
  omega
theorem bet_facts (hg : Good p) (ht : p.throw = 1) (hN : 0 ≤ N ∧ N ≤ 255) : checkB (upTo (lowI p N) p.ros.length) = true ∧ Fine (upTo (highI p N) p.ros.length) p.rub ∧ LeL (upTo (lowI p N) p.ros.length) (upTo (highI p N) p.ros.length) ∧
    LeL p.ros (underL (upTo (highI p N) p.ros.length) p.rub) ∧ LeL (upTo (lowI p N) p.ros.length) (liftL (underL (upTo (highI p N) p.ros.length) p.rub) p.rub) ∧
    ∀ i, i < p.ros.length → (liftL (underL (upTo (highI p N) p.ros.length) p.rub) p.rub)[i]?.getD 0 ≤ (liftL p.ros p.rub)[i]?.getD 0 + N := by
  have hn := hg.nums
  have hf := hg.fine
  have hl : ∀ i, i < p.ros.length → (cutL p 0)[i]?.getD 0 = p.start + (liftL p.ros p.rub)[i]?.getD 0 := fun i hi => cut_zero hg ht hi
  have hh := hf.lift.hx
  have hlow : Hts (upTo (lowI p N) p.ros.length) := fun i => by
    by_cases hi : i < p.ros.length
    · rw [upTo_at hi]; unfold lowI; omega
    · rw [List.getElem?_eq_none (by rw [upTo_len]; omega), Option.getD_none]; omega
  have hhigh : Hts (upTo (highI p N) p.ros.length) := fun i => by
    by_cases hi : i < p.ros.length
    · rw [upTo_at hi]
      unfold highI
      rw [hl i hi]
      have := hh i
      omega
    · rw [List.getElem?_eq_none (by rw [upTo_len]; omega), Option.getD_none]; omega
  have hfine : Fine (upTo (highI p N) p.ros.length) p.rub := ⟨by rw [upTo_len]; exact hf.lo, by rw [upTo_len]; exact hf.hi, hf.odd, by rw [upTo_len]; exact hf.le, hf.le31, hhigh, hf.hy, hf.mid⟩
  have hlift : LeL (liftL p.ros p.rub) (upTo (highI p N) p.ros.length) := ⟨by rw [liftL_len, upTo_len], fun i hi => by
    rw [liftL_len] at hi
    rw [upTo_at hi]
    unfold highI
    rw [hl i hi]
    have := hh i
    omega⟩
  have hros : LeL p.ros (underL (upTo (highI p N) p.ros.length) p.rub) := (adjoint hf.b1 hf.n1 (by rw [upTo_len])).1 hlift
  have hfu : Fine (underL (upTo (highI p N) p.ros.length) p.rub) p.rub := hfine.under
  have hmono := lift_mono hf hfu hros
  refine ⟨checkB_iff.2 ⟨by rw [upTo_len]; exact hf.lo, by rw [upTo_len]; exact hf.hi, hts_of_all.2 hlow⟩, hfine, ⟨by rw [upTo_len, upTo_len], fun i hi => ?_⟩, hros, ⟨by rw [upTo_len, liftL_len, underL_len, upTo_len], fun i hi => ?_⟩, fun i hi => ?_⟩
  · rw [upTo_len] at hi
    rw [upTo_at hi, upTo_at hi]
    unfold lowI highI
    rw [hl i hi]
    have := hh i
    omega
  · rw [upTo_len] at hi
    have h1 := hmono.2 i (by rw [liftL_len]; exact hi)
    have h2 := hh i
    rw [upTo_at hi]
    refine Int.le_trans ?_ h1
    unfold lowI
    rw [hl i hi]
    omega
  · have h1 := (grind_le hfine).2 i (by rw [liftL_len, underL_len, upTo_len]; exact hi)
    rw [upTo_at hi] at h1
    refine Int.le_trans h1 ?_
    unfold highI
    rw [hl i hi]
    omega
/-- The program with the rebuilt rosette. -/
def rebP (p : PrT) (N : Int) : PrT := { p with ros := underL (upTo (highI p N) p.ros.length) p.rub }
theorem rebP_len : (rebP p N).ros.length = p.ros.length := by
  show (underL _ _).length = _
  rw [underL_len, upTo_len]
theorem reb_good (hg : Good p) (ht : p.throw = 1) (hN : 0 ≤ N ∧ N ≤ 255) : Good (rebP p N) := by
  obtain ⟨_, hf, _⟩ := bet_facts hg ht hN
  have hc : bothE (underL (upTo (highI p N) p.ros.length) p.rub) p.rub = 0 := fine_iff.2 hf.under
  refine ⟨fine_check hf.under, ?_, ?_⟩
  · show rubberB p.rub (rebP p N).ros.length = true
    rw [rebP_len]
    exact hg.rub
  · have := hg.fld
    unfold fldB at this ⊢
    rw [rebP_len]
    exact this
theorem reb_cut (hg : Good p) (ht : p.throw = 1) (hN : 0 ≤ N ∧ N ≤ 255) (j : Int) {k : Nat} (hk : k < p.ros.length) : p.ros[k]?.getD 0 ≤ (rebP p N).ros[k]?.getD 0 ∧ (cutL p j)[k]?.getD 0 ≤ (cutL (rebP p N) j)[k]?.getD 0 ∧ (cutL (rebP p N) j)[k]?.getD 0 ≤ (cutL p j)[k]?.getD 0 + N := by
  obtain ⟨_, hf, _, h4, _, h6⟩ := bet_facts hg ht hN
  have hn := hg.nums.n1
  have hmono := lift_mono hg.fine hf.under h4
  have hp : phaseZ (rebP p N) j = phaseZ p j := by unfold phaseZ; rw [rebP_len]; rfl
  have e1 := Int.emod_nonneg ((k : Int) - phaseZ p j) (show (p.ros.length : Int) ≠ 0 by omega)
  have e2 := Int.emod_lt_of_pos ((k : Int) - phaseZ p j) (show (0 : Int) < p.ros.length by omega)
  have hq : (((k : Int) - phaseZ p j) % (p.ros.length : Int)).toNat < p.ros.length := by omega
  refine ⟨h4.2 k hk, ?_⟩
  rw [cutL_at hk, cutL_at (by rw [rebP_len]; exact hk), hp, rebP_len]
  generalize (((k : Int) - phaseZ p j) % (p.ros.length : Int)).toNat = q at *
  have h1 := hmono.2 q (by rw [liftL_len]; exact hq)
  have h2 := h6 q hq
  have ht' : (rebP p N).throw = 1 := ht
  have hs : (rebP p N).start = p.start := rfl
  have ha : (rebP p N).adv = p.adv := rfl
  have hr : liftL (rebP p N).ros (rebP p N).rub = liftL (underL (upTo (highI p N) p.ros.length) p.rub) p.rub := rfl
  rw [ht', ht, hs, ha, hr]
  omega
end
end
open Go.RowKit

def greatB (p : PrT) : Bool := decide (120 < p.ros.length) || decide (120 < p.rub.length) || decide (20 < p.sh.length)
set_option maxRecDepth 100000 in
set_option maxHeartbeats 4000000 in
theorem great4_any (p : PrT) (v : PrV) (w : World) (h : PrIs w v p) : Calls Try.prog 7 #[p.val v] w fun e w' => e = .returned (.bool (greatB p)) ∧ Ext w w' := by
  have H1 := Lib.hid fun (W : World) (x : Ext w W) => Great_any v.r p.ros W (h.ros.ext x)
  have H2 := Lib.hid fun (W : World) (x : Ext w W) => Great_any v.b p.rub W (h.rub.ext x)
  obtain ⟨r, b, s⟩ := v
  obtain ⟨A1, n1, c1, rfl, -⟩ := h.ros.open_
  obtain ⟨A2, n2, c2, rfl, -⟩ := h.rub.open_
  obtain ⟨A3, n3, c3, rfl, -, hs, -⟩ := h.sh.open_
  have hl := hs.len
  have HR := Lib.hid (show greatB p = (decide (120 < p.ros.length) || decide (120 < p.rub.length) || decide (20 < n3)) by unfold greatB; rw [← hl])
  obtain ⟨ros, rub, st, th, ad, sh⟩ := p
  simp only at H1 H2 HR hl ⊢
  generalize greatB ⟨ros, rub, st, th, ad, sh⟩ = res at *
  have hb : (decide (20 < n3) : Bool) = decide ((20 : Int) < (n3 : Int)) := by
    rw [decide_eq_decide]; omega
  rw [hb] at HR
  generalize decide (120 < ros.length) = g1 at *
  generalize decide (120 < rub.length) = g2 at *
  clear h hs hl hb
  have HX := Lib.hid ((Ext.refl w).alloc (.cells #[.slice A1 n1 c1, .slice A2 n2 c2, .int .i64 st, .int .i64 th, .int .i64 ad, .slice A3 n3 c3] 24))
  cases g1
  · cases g2
    · by_cases h3 : (20 : Int) < (n3 : Int)
      · rw [decide_eq_true h3] at HR
        go_enter Try.func7, Try.ntmps7
        go_wp2_with (first
          | (go_at_call 27; refine (H1.out _ HX.out).mono ?_; rintro e w' ⟨rfl, rfl⟩)
          | (go_at_call 27; refine (H2.out _ HX.out).mono ?_; rintro e w' ⟨rfl, rfl⟩))
        go_ret
        exact ⟨ret_b HR.out.symm, HX.out⟩
      · rw [decide_eq_false h3] at HR
        go_enter Try.func7, Try.ntmps7
        go_wp2_with (first
          | (go_at_call 27; refine (H1.out _ HX.out).mono ?_; rintro e w' ⟨rfl, rfl⟩)
          | (go_at_call 27; refine (H2.out _ HX.out).mono ?_; rintro e w' ⟨rfl, rfl⟩))
        go_ret
        exact ⟨ret_b (by rw [HR.out, decide_eq_false (by omega)]; rfl), HX.out⟩
    · go_enter Try.func7, Try.ntmps7
      go_wp2_with (first
        | (go_at_call 27; refine (H1.out _ HX.out).mono ?_; rintro e w' ⟨rfl, rfl⟩)
        | (go_at_call 27; refine (H2.out _ HX.out).mono ?_; rintro e w' ⟨rfl, rfl⟩))
      go_ret
      exact ⟨ret_b HR.out.symm, HX.out⟩
  · go_enter Try.func7, Try.ntmps7
    go_wp2_with (first
      | (go_at_call 27; refine (H1.out _ HX.out).mono ?_; rintro e w' ⟨rfl, rfl⟩)
      | (go_at_call 27; refine (H2.out _ HX.out).mono ?_; rintro e w' ⟨rfl, rfl⟩))
    go_ret
    exact ⟨ret_b HR.out.symm, HX.out⟩

set_option maxRecDepth 100000 in
set_option maxHeartbeats 16000000 in
theorem lawBetween_any (p : PrT) (v : PrV) (N j : Int) (w : World) (h : PrIs w v p) (hN : 0 ≤ N ∧ N ≤ 255) (hj : -32768 ≤ j ∧ j ≤ 32767) :
    Calls Try.prog 3 #[p.val v, .int .u8 N, .int .i16 j] w fun e w' => e = .returned (.bool true) ∧ Ext w w' := by
  have HAL := Lib.hid fun (W : World) => alive09d_any W
  have HGR := Lib.hid fun (W : World) (x : Ext w W) => great4_any p v W (h.ext x)
  have HCH := Lib.hid fun (W : World) (x : Ext w W) => patCheck_any p v W (h.ext x)
  have HPI := Lib.hid h
  obtain ⟨ur, ub, us⟩ := v
  obtain ⟨A1, n, c1, rfl, -, hr1, -⟩ := h.ros.open_
  obtain ⟨A2, n2, c2, rfl, -, hr2, -⟩ := h.rub.open_
  obtain ⟨A3, n3, c3, rfl, -, hr3, -⟩ := h.sh.open_
  have hl1 := hr1.len
  obtain ⟨N1, N2⟩ := hN
  obtain ⟨j1, j2⟩ := hj
  have HB0 := Lib.hid (BoxAt.new w (p.cells ⟨.slice A1 n c1, .slice A2 n2 c2, .slice A3 n3 c3⟩) 24)
  have HR1 := Lib.hid hr1
  clear h hr1 hr2 hr3
  unfold PrT.val PrT.cells at *
  generalize hth0 : p.throw = th at *
  have HT0 := Lib.hid hth0
  clear hth0
  go_enter Try.func3, Try.ntmps3
  go_wp2_with fail
  refine (HAL.out _).mono ?_
  rintro e W1 ⟨rfl, x1⟩
  have HX1 := Lib.hid (((Ext.refl w).alloc _).trans x1)
  have HB1 := Lib.hid (HB0.out.ext x1)
  have c0 := HB1.out.cell (i := 0) rfl
  have d1 := HB1.out.cell (i := 1) rfl
  have d2 := HB1.out.cell (i := 2) rfl
  have d3 := HB1.out.cell (i := 3) rfl
  have d4 := HB1.out.cell (i := 4) rfl
  have d5 := HB1.out.cell (i := 5) rfl
  have lc := cell_lt c0
  clear x1
  go_wp2_with fail
  refine (HGR.out _ HX1.out).mono ?_
  rintro e W2 ⟨rfl, x2⟩
  have HX2 := Lib.hid (HX1.out.trans x2)
  have HB2 := Lib.hid (HB1.out.ext x2)
  clear x2 c0 d1 d2 d3 d4 d5 lc
  have c0 := HB2.out.cell (i := 0) rfl
  have d1 := HB2.out.cell (i := 1) rfl
  have d2 := HB2.out.cell (i := 2) rfl
  have d3 := HB2.out.cell (i := 3) rfl
  have d4 := HB2.out.cell (i := 4) rfl
  have d5 := HB2.out.cell (i := 5) rfl
  have lc := cell_lt c0
  obtain ⟨gb, hgb⟩ : ∃ b, b = greatB p := ⟨_, rfl⟩
  rw [← hgb]
  clear hgb
  cases gb
  · by_cases h60 : (60 : Int) < (n : Int)
    · go_wp2_with fail
      go_ret
      exact ⟨rfl, HX2.out⟩
    · by_cases hth : th = 1
      · subst hth
        go_wp2_with fail
        refine (HCH.out _ HX2.out).mono ?_
        rintro e W3 ⟨rfl, x3⟩
        have HX3 := Lib.hid (HX2.out.trans x3)
        have HB3 := Lib.hid (HB2.out.ext x3)
        clear x3 c0 d1 d2 d3 d4 d5 lc
        obtain ⟨er, her⟩ : ∃ z, z = progE p := ⟨_, rfl⟩
        have HER := Lib.hid her
        rw [← her]
        clear her
        by_cases he0 : er = 0
        · subst he0
          have HG := Lib.hid (progE_zero.1 HER.out.symm)
          by_cases hj1 : 2000 < j
          · go_wp2_with fail
            go_ret
            exact ⟨rfl, HX3.out⟩
          · by_cases hj2 : j < -2000
            · go_wp2_with fail
              go_ret
              exact ⟨rfl, HX3.out⟩
            · have c0 := HB3.out.cell (i := 0) rfl
              have d1 := HB3.out.cell (i := 1) rfl
              have d2 := HB3.out.cell (i := 2) rfl
              have d3 := HB3.out.cell (i := 3) rfl
              have d4 := HB3.out.cell (i := 4) rfl
              have d5 := HB3.out.cell (i := 5) rfl
              have lc := cell_lt c0
              have w8 : IntKind.i64.wrap N = N := IntWalk.i64_in _ (by omega)
              have HSE := Lib.hid (show Calls Try.prog 9 #[.agg #[.slice A1 n c1, .slice A2 n2 c2, .int .i64 p.start, .int .i64 1, .int .i64 p.adv, .slice A3 n3 c3], .int .i64 1, .int .i64 N] W3 (RetEE readK W3 (seeL p N 1) 0) from by
                have := see_any p ⟨.slice A1 n c1, .slice A2 n2 c2, .slice A3 n3 c3⟩ 1 N W3 (HPI.out.ext HX3.out) HG.out (by omega) (by omega) (by omega)
                unfold PrT.val at this
                rwa [HT0.out] at this)
              have HCU := Lib.hid fun (W : World) (x : Ext w W) => (show Calls Try.prog 11 #[.agg #[.slice A1 n c1, .slice A2 n2 c2, .int .i64 p.start, .int .i64 1, .int .i64 p.adv, .slice A3 n3 c3], .int .i64 j] W (RetEE intK W (cutL p j) 0) from by
                have := patCut_good p ⟨.slice A1 n c1, .slice A2 n2 c2, .slice A3 n3 c3⟩ j W (HPI.out.ext x) HG.out (by rw [inB_iff]; omega)
                unfold PrT.val at this
                rwa [HT0.out] at this)
              obtain ⟨ss, ss2⟩ := HG.out.nums.s
              have HL0 := Lib.hid hl1
              have hlf := HG.out.fine.lift.hx
              have HCZ := Lib.hid fun (i : Nat) (hi : i < n) => (show p.start ≤ (cutL p 0)[i]?.getD 0 ∧ (cutL p 0)[i]?.getD 0 ≤ p.start + 10000 from by
                rw [cut_zero HG.out HT0.out (by omega)]
                have := hlf i
                omega)
              obtain ⟨start, hst⟩ : ∃ z, z = p.start := ⟨_, rfl⟩
              rw [← hst] at HSE HCU HCZ ss ss2 d2 HB3
              have HST := Lib.hid hst
              clear hl1 hlf hst
              go_wp2_with fail
              refine HSE.out.mono ?_
              rintro e W4 ⟨rv, rfl, own4, x4⟩
              have HX4 := Lib.hid (HX3.out.trans x4)
              have HB4 := Lib.hid (HB3.out.ext x4)
              obtain ⟨A4, m4, c4, rfl, hm4, -, hr4, -⟩ := own4.is.open_
              obtain rfl : m4 = n := by rw [← hm4, seeL_len, HL0.out, Nat.one_mul]
              have HR4 := Lib.hid hr4
              have HM4 := Lib.hid hm4
              have HLT := Lib.hid own4.lt
              clear x4 own4 hr4 hm4 c0 d1 d2 d3 d4 d5 lc
              have c0 := HB4.out.cell (i := 0) rfl
              have lc := cell_lt c0
              go_wp2_with fail
              go_loopw [73, 10, 11] (fun iv lv hv W => ∃ k : Nat, k ≤ m4 ∧ iv = .int .i64 (k : Int) ∧ TwoI W4.heap.size W lv hv (upTo (lowI p N) k) (upTo (highI p N) k) ∧ Ext W4 W) (fun iv _ _ _ => m4 - (intOf iv).toNat)
              case atStart => exact ⟨0, by omega, rfl, TwoI.nil _ _, Ext.refl _⟩
              case round =>
                obtain ⟨k, hk, rfl, htw, hx⟩ := hrel
                have HTW := Lib.hid htw
                have HXk := Lib.hid hx
                obtain ⟨Al, nl, cl, rfl⟩ := htw.fst.shape
                obtain ⟨Ah, nh, ch, rfl⟩ := htw.snd.shape
                by_cases hkn : k < m4
                · have hki : (k : Int) < (m4 : Int) := by omega
                  have hks : k < (seeL p N 1).length := by rw [HM4.out]; exact hkn
                  obtain ⟨b4, o4, rfl, hb4, hcs⟩ := HR4.out k hks
                  have hel : (seeL p N 1)[k] = (((0 : Nat) : Int), (k : Int), (cutL p ((0 : Nat) : Int))[k]?.getD 0 - N, (cutL p ((0 : Nat) : Int))[k]?.getD 0 + N) := by
                    have h1 : k < (rowS p N 0).length := by rw [rowS_len, HL0.out]; exact hkn
                    rw [← rowS_at h1]
                    congr 1
                    exact seeL_one p N
                  rw [hel] at hcs
                  obtain ⟨z1, z2⟩ := HCZ.out k hkn
                  obtain ⟨ck, hck⟩ : ∃ z, z = (cutL p 0)[k]?.getD 0 := ⟨_, rfl⟩
                  have hck' : (cutL p ((0 : Nat) : Int))[k]?.getD 0 = ck := by rw [hck]; rfl
                  rw [hck'] at hcs
                  rw [← hck] at z1 z2
                  have HLO := Lib.hid (show lowI p N k = min (max (ck - N - start) 0) 10000 by unfold lowI; rw [← hck, HST.out])
                  have HHI := Lib.hid (show highI p N k = min (ck + N - start) 10000 by unfold highI; rw [← hck, HST.out])
                  have e2 := hcs 2 _ rfl
                  have e3 := hcs 3 _ rfl
                  simp only [readK] at e2 e3
                  have HCE := Lib.hid e3
                  have w1 : IntKind.i64.wrap (ck - N - start) = ck - N - start := IntWalk.i64_in _ (by omega)
                  have w2 : IntKind.i64.wrap (ck + N - start) = ck + N - start := IntWalk.i64_in _ (by omega)
                  replace e2 := hx.cell_some e2
                  have d2 := (HB4.out.ext hx).cell (i := 2) rfl
                  have hnb4 : b4 ∉ (Value.slice Al nl cl).ownBlock.toList := notin_own (fun r hr => by have := (HTW.out.fst.lt r hr).1; omega)
                  have hnw : w.heap.size ∉ (Value.slice Al nl cl).ownBlock.toList := notin_own (fun r hr => by have := (HTW.out.fst.lt r hr).1; have := HB4.out.lt; omega)
                  have y2 := But.cells (D := (Value.slice Al nl cl).ownBlock.toList) e2 hnb4
                  have y3 := But.cells (D := (Value.slice Al nl cl).ownBlock.toList) d2 hnw
                  have lg := cell_lt e2
                  have ld := cell_lt d2
                  have HLL := Lib.hid (upTo_len (lowI p N) k)
                  have HSZ := Lib.hid hx.bel.size
                  clear htw hx hks hcs hel hck hck' hnb4 hnw
                  go_wp2_with fail
                  refine (wpIn_wide (n := 3)).1 ?_
                  refine wpIn_region_steps (Value.slice Al nl cl).ownBlock.toList 13 [(0, true), (1, true), (2, true), (3, true), (4, true), (5, true), (6, true), (7, true), (8, true), (9, true), (10, true), (11, false), (12, false)] (by kernel_rfl) (by decide +kernel) ?_
                  iterate 11 (refine wpSD_q (by rfl) (fun _ _ _ => trivial) (fun K hK => ?_); go_simp; refine hK _ ?_; clear hK K)
                  refine wpSD_m (by rfl) (fun _ _ _ => trivial) (fun δ K hK => ?_)
                  go_simp
                  refine ⟨((Ext.refl _).alloc _).but, hK _ _ ?_⟩
                  clear hK K
                  have Xd : Ext wr δ.wd := ⟨δ, rfl⟩
                  refine EK.app_sAt (K := intK) (B := W4.heap.size) (v := .slice Al nl cl) (by rfl) rfl (.tmp 76) (.tmp 87) rfl δ.wd.heap.size 1 (min (max (ck - N - start) 0) 10000) rfl rfl (fun ii u hu => cell_new hu) (HTW.out.fst.ext (Xd.alloc _)) (Nat.le_trans HSZ.out (Xd.alloc _).bel.size) (by have := HLL.out; omega) ?_
                  intro v' w3 w5 o3 x3 g3 a3
                  obtain ⟨Av, nv, cv, rfl⟩ := o3.shape
                  have HT3 := Lib.hid (show TwoI W4.heap.size w5 (.slice Av nv cv) (.slice Ah nh ch) (upTo (lowI p N) (k + 1)) (upTo (highI p N) k) from by
                    rw [upTo_succ, HLO.out]
                    exact HTW.out.grow ((Xd.alloc _).trans x3) g3 o3 a3)
                  have HX5 := Lib.hid (show Ext W4 w5 from ((HXk.out.trans ((Xd.alloc _).trans x3))).below ((Below.refl W4.heap.size w3).grown g3 (Nat.le_trans HSZ.out ((Xd.alloc _).trans x3).bel.size) (fun r e => (HTW.out.fst.lt r e).1)) (Nat.le_refl _))
                  refine wpSD_nil ?_
                  intro w6 x6
                  have HX6 := Lib.hid (HX5.out.trans x6)
                  have HT6 := Lib.hid (HT3.out.ext x6)
                  clear x6 o3 x3 g3 a3 Xd y2 y3 lg ld e2 e3 d2
                  simp only [List.drop_succ_cons, List.drop_zero]
                  gi_wp2
                  go_wp2_with fail
                  have e3 := HX6.out.cell_some HCE.out
                  have d2 := (HB4.out.ext HX6.out).cell (i := 2) rfl
                  have hnb4 : b4 ∉ (Value.slice Ah nh ch).ownBlock.toList := notin_own (fun r hr => by have := (HTW.out.snd.lt r hr).1; omega)
                  have hnw : w.heap.size ∉ (Value.slice Ah nh ch).ownBlock.toList := notin_own (fun r hr => by have := (HTW.out.snd.lt r hr).1; have := HB4.out.lt; omega)
                  have y2 := But.cells (D := (Value.slice Ah nh ch).ownBlock.toList) e3 hnb4
                  have y3 := But.cells (D := (Value.slice Ah nh ch).ownBlock.toList) d2 hnw
                  have lg := cell_lt e3
                  have ld := cell_lt d2
                  have HLH := Lib.hid (upTo_len (highI p N) k)
                  have HS6 := Lib.hid HX6.out.bel.size
                  clear hnb4 hnw
                  refine (wpIn_wide (n := 3)).1 ?_
                  refine wpIn_region_steps (Value.slice Ah nh ch).ownBlock.toList 12 [(0, true), (1, true), (2, true), (3, true), (4, true), (5, true), (6, true), (7, true), (8, true), (9, true), (10, false), (11, false)] (by kernel_rfl) (by decide +kernel) ?_
                  iterate 10 (refine wpSD_q (by rfl) (fun _ _ _ => trivial) (fun K hK => ?_); go_simp; refine hK _ ?_; clear hK K)
                  refine wpSD_m (by rfl) (fun _ _ _ => trivial) (fun δ K hK => ?_)
                  go_simp
                  refine ⟨((Ext.refl _).alloc _).but, hK _ _ ?_⟩
                  clear hK K
                  have Xd : Ext w6 δ.wd := ⟨δ, rfl⟩
                  refine EK.app_sAt (K := intK) (B := W4.heap.size) (v := .slice Ah nh ch) (by rfl) rfl (.tmp 89) (.tmp 99) rfl δ.wd.heap.size 1 (min (ck + N - start) 10000) rfl rfl (fun ii u hu => cell_new hu) (HT6.out.snd.ext (Xd.alloc _)) (Nat.le_trans HS6.out (Xd.alloc _).bel.size) (by have := HLH.out; omega) ?_
                  intro v' w7 w8 o3 x3 g3 a3
                  obtain ⟨Aw, nw, cw, rfl⟩ := o3.shape
                  have HT8 := Lib.hid (show TwoI W4.heap.size w8 (.slice Av nv cv) (.slice Aw nw cw) (upTo (lowI p N) (k + 1)) (upTo (highI p N) (k + 1)) from by
                    rw [upTo_succ (highI p N), HHI.out]
                    exact (HT6.out.swap.grow ((Xd.alloc _).trans x3) g3 o3 a3).swap)
                  have HX8 := Lib.hid (show Ext W4 w8 from ((HX6.out.trans ((Xd.alloc _).trans x3))).below ((Below.refl W4.heap.size w7).grown g3 (Nat.le_trans HS6.out ((Xd.alloc _).trans x3).bel.size) (fun r e => (HT6.out.snd.lt r e).1)) (Nat.le_refl _))
                  refine wpSD_nil ?_
                  intro w9 x9
                  have HX9 := Lib.hid (HX8.out.trans x9)
                  have HT9 := Lib.hid (HT8.out.ext x9)
                  clear x9 o3 x3 g3 a3 Xd y2 y3 lg ld e3 d2
                  simp only [List.drop_succ_cons, List.drop_zero]
                  gi_wp2
                  go_wp2_with fail
                  go_roundw
                  case rel => exact ⟨k + 1, by omega, by go_num, HT9.out, HX9.out⟩
                  case measure => simp [intOf]; omega
                · obtain rfl : m4 = k := by omega
                  have HXW := Lib.hid (HX4.out.trans hx)
                  have HBW := Lib.hid (HB4.out.ext hx)
                  have hbf := bet_facts HG.out HT0.out (N := N) ⟨N1, N2⟩
                  rw [HL0.out] at hbf
                  obtain ⟨f1, f2, f3, f4, f5, -⟩ := hbf
                  have HRB := Lib.hid (rebuild_good (.slice Al nl cl) (.slice Ah nh ch) (.slice A2 n2 c2) _ _ p.rub wr (intK_own.1 htw.fst).isI (intK_own.1 htw.snd).isI (HPI.out.rub.ext HXW.out) f1 f2 f3 f5)
                  have c0 := HBW.out.cell (i := 0) rfl
                  have d1 := HBW.out.cell (i := 1) rfl
                  have lc := cell_lt c0
                  clear htw hx f1 f2 f3 f4 f5
                  go_wp2_with fail
                  refine HRB.out.mono ?_
                  rintro e W5 ⟨fv, rfl, own5, x5⟩
                  obtain ⟨Af, nf, cf, rfl, -, hrf, -⟩ := own5.isI.open_
                  obtain rfl : nf = m4 := by rw [← hrf.len, underL_len, upTo_len]
                  have HRF := Lib.hid hrf
                  have HX5 := Lib.hid (HXW.out.trans x5)
                  have HO5 := Lib.hid own5
                  have HB5 := Lib.hid (HBW.out.ext x5)
                  have HPQ := Lib.hid (show PrIs W5 ⟨.slice Af nf cf, .slice A2 n2 c2, .slice A3 n3 c3⟩ (rebP p N) from ⟨by
                    have e : (rebP p N).ros = underL (upTo (highI p N) nf) p.rub := by show underL (upTo _ p.ros.length) _ = _; rw [HL0.out]
                    rw [e]
                    exact own5.isI, HPI.out.rub.ext HX5.out, HPI.out.sh.ext HX5.out⟩)
                  have HCQ := Lib.hid fun (W : World) (x : Ext W5 W) => (show Calls Try.prog 11 #[.agg #[.slice Af nf cf, .slice A2 n2 c2, .int .i64 start, .int .i64 1, .int .i64 p.adv, .slice A3 n3 c3], .int .i64 j] W (RetEE intK W (cutL (rebP p N) j) 0) from by
                    have := patCut_good (rebP p N) ⟨.slice Af nf cf, .slice A2 n2 c2, .slice A3 n3 c3⟩ j W (HPQ.out.ext x) (reb_good HG.out HT0.out ⟨N1, N2⟩) (by rw [inB_iff]; omega)
                    unfold PrT.val at this
                    rw [show (rebP p N).throw = 1 from HT0.out, show (rebP p N).start = start from HST.out.symm] at this
                    exact this)
                  have b0 := HB5.out.cell (i := 0) rfl
                  have b1 := HB5.out.cell (i := 1) rfl
                  have b2 := HB5.out.cell (i := 2) rfl
                  have b3 := HB5.out.cell (i := 3) rfl
                  have b4 := HB5.out.cell (i := 4) rfl
                  have b5 := HB5.out.cell (i := 5) rfl
                  have lb := cell_lt b0
                  have wj : IntKind.i64.wrap j = j := IntWalk.i64_in _ (by omega)
                  clear own5 x5 hrf c0 d1 lc
                  go_wp2_with fail
                  refine lay_calls (fun W => BoxAt W5.heap.size #[.slice Af nf cf, .slice A2 n2 c2, .int .i64 start, .int .i64 1, .int .i64 p.adv, .slice A3 n3 c3] 24 W ∧ Ext W5 W) ⟨BoxAt.new W5 _ _, by (repeat' (first | with_reducible exact Ext.refl _ | with_reducible apply Ext.alloc | with_reducible apply Ext.drew | with_reducible apply Ext.drewN | with_reducible refine Ext.setCell ?_ ?_ _ | with_reducible apply Ext.step | with_reducible assumption | with_reducible exact Nat.le_refl _ | (simp; done) | (simp; omega)))⟩ ?_
                  rintro W6 ⟨bq, x6⟩
                  refine (HCU.out _ (HX5.out.trans x6)).mono ?_
                  rintro e W7 ⟨av, rfl, own7, x7⟩
                  obtain ⟨Aa, na, ca, rfl, -, hra, -⟩ := (intK_own.1 own7).isI.open_
                  obtain rfl : na = nf := by rw [← hra.len, cutL_len, HL0.out]
                  have HRA := Lib.hid hra
                  have HX7 := Lib.hid (x6.trans x7)
                  have HBQ := Lib.hid (bq.ext x7)
                  have q0 := HBQ.out.cell (i := 0) rfl
                  have q1 := HBQ.out.cell (i := 1) rfl
                  have q2 := HBQ.out.cell (i := 2) rfl
                  have q3 := HBQ.out.cell (i := 3) rfl
                  have q4 := HBQ.out.cell (i := 4) rfl
                  have q5 := HBQ.out.cell (i := 5) rfl
                  have lq := cell_lt q0
                  clear own7 x7 x6 bq hra b0 b1 b2 b3 b4 b5 lb
                  go_wp2_with fail
                  refine (HCQ.out _ HX7.out).mono ?_
                  rintro e W8 ⟨bv, rfl, own8, x8⟩
                  obtain ⟨Ab, nb, cb, rfl, -, hrb, -⟩ := (intK_own.1 own8).isI.open_
                  obtain rfl : nb = na := by rw [← hrb.len, cutL_len, rebP_len, HL0.out]
                  have HRBB := Lib.hid hrb
                  have HX8 := Lib.hid (HX7.out.trans x8)
                  have HX78 := Lib.hid x8
                  have HB8 := Lib.hid (HB5.out.ext HX8.out)
                  clear own8 x8 hrb q0 q1 q2 q3 q4 q5 lq
                  go_wp2_with fail
                  go_loopw [153] (fun iv W => ∃ k : Nat, k ≤ nb ∧ iv = .int .i64 (k : Int) ∧ Ext W8 W) (fun iv _ => nb - (intOf iv).toNat)
                  case atStart => exact ⟨0, by omega, rfl, Ext.refl _⟩
                  case round =>
                    obtain ⟨k, hk, rfl, hx⟩ := hrel
                    have HXk := Lib.hid hx
                    by_cases hkn : k < nb
                    · have hki : (k : Int) < (nb : Int) := by omega
                      obtain ⟨r1, r2, r3⟩ := reb_cut HG.out HT0.out (N := N) ⟨N1, N2⟩ j (k := k) (by rw [HL0.out]; exact hkn)
                      have X5k := HX8.out.trans hx
                      have X8k := HX78.out.trans hx
                      obtain ⟨B1, o1, rfl, _, m1⟩ := HRF.out.at_ k hkn
                      obtain ⟨B2, o2, rfl, _, m2⟩ := HR1.out.at_ k hkn
                      obtain ⟨B3, o3, rfl, _, m3⟩ := HRA.out.at_ k hkn
                      obtain ⟨B4, o4, rfl, _, m4⟩ := HRBB.out.at_ k hkn
                      replace m1 := X5k.cell_some m1
                      replace m2 := (HX5.out.trans X5k).cell_some m2
                      replace m3 := X8k.cell_some m3
                      replace m4 := hx.cell_some m4
                      have e5 : (rebP p N).ros[k]?.getD 0 = (underL (upTo (highI p N) nb) p.rub)[k]?.getD 0 := by
                        show (underL (upTo _ p.ros.length) _)[k]?.getD 0 = _
                        rw [HL0.out]
                      rw [e5] at r1
                      have hbd := cutL_bd HG.out (j := j) (by omega) k
                      generalize (underL (upTo (highI p N) nb) p.rub)[k]?.getD 0 = vf at *
                      generalize p.ros[k]?.getD 0 = vp at *
                      generalize (cutL p j)[k]?.getD 0 = va at *
                      generalize (cutL (rebP p N) j)[k]?.getD 0 = vb at *
                      obtain ⟨bd1, bd2⟩ := hbd
                      have wn : IntKind.i64.wrap (va + N) = va + N := IntWalk.i64_in _ (by omega)
                      have c1' : ¬ vf < vp := by omega
                      have c2' : ¬ vb < va := by omega
                      have c3' : ¬ va + N < vb := by omega
                      have p0 := (HB8.out.ext hx).cell (i := 0) rfl
                      have lp := cell_lt p0
                      have l1 := cell_lt m1
                      have l2 := cell_lt m2
                      have l3 := cell_lt m3
                      have l4 := cell_lt m4
                      have y0 := But.cells (D := []) p0 (by simp)
                      have y1 := But.cells (D := []) m1 (by simp)
                      have y2 := But.cells (D := []) m2 (by simp)
                      have y3 := But.cells (D := []) m3 (by simp)
                      have y4 := But.cells (D := []) m4 (by simp)
                      clear hx X5k X8k e5 bd1 bd2 p0 m1 m2 m3 m4
                      go_wp2_with fail
                      refine (wpIn_wide (n := 3)).1 ?_
                      refine wpIn_region_steps [] 34 [(0, true), (1, true), (2, true), (3, true), (4, true), (5, true), (6, true), (7, true), (8, true), (9, true), (10, true), (11, true), (12, true), (13, true), (14, true), (15, true), (16, true), (17, true), (18, true), (19, true), (20, true), (21, true), (22, true), (23, true), (24, true), (25, true), (26, true), (27, true), (28, true), (29, true), (30, true), (31, true), (32, true), (33, true)] (by kernel_rfl) (by decide +kernel) ?_
                      iterate 34 (refine wpSD_q (by rfl) (fun _ _ _ => trivial) (fun K hK => ?_); go_simp; refine hK _ ?_; clear hK K)
                      refine wpSD_nil ?_
                      intro W10 x10
                      have HX10 := Lib.hid x10
                      clear x10 y0 y1 y2 y3 y4
                      simp only [List.drop_succ_cons, List.drop_zero]
                      gi_wp2
                      go_wp2_with fail
                      go_roundw
                      case rel => exact ⟨k + 1, by omega, by go_num, HXk.out.trans HX10.out⟩
                      case measure => simp [intOf]; omega
                    · obtain rfl : nb = k := by omega
                      clear hx
                      go_wp2_with fail
                      go_ret
                      exact ⟨rfl, HX5.out.trans (HX8.out.trans HXk.out)⟩
        · have he1 : (er != 0) = true := by simpa using he0
          go_wp2_with fail
          go_ret
          exact ⟨rfl, HX3.out⟩
      · have hth' : (th != 1) = true := by simpa using hth
        go_wp2_with fail
        go_ret
        exact ⟨rfl, HX2.out⟩
  · go_wp2_with fail
    go_ret
    exact ⟨rfl, HX2.out⟩
end Go.Proofs.Ytkjgcmdabelohaa
