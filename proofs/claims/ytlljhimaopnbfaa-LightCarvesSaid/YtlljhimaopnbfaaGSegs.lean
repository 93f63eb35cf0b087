/- groove's segments: an iterator. Condition: the slice reads as a list of at least one spot. -/
import Derived.Test.YtlljhimaopnbfaaGLine
import Derived.Test.YtlljhimaopnbfaaRfQ
import Derived.Test.YtlljhimaopnbfaaQS
namespace Go.Proofs.Ytlljhimaopnbfaa
open Go.RowKit

attribute [local go_sem] Oper.semAt_some

/-- How many segments, and which. -/
def segN (k : Nat) : Nat := max (k - 1) 1
def sgA (xs : List (Int × Int)) (i : Nat) : Int × Int := xs[i]?.getD (0, 0)
def sgB (xs : List (Int × Int)) (i : Nat) : Int × Int := xs[min (i + 1) (xs.length - 1)]?.getD (0, 0)
def segEnc (xs : List (Int × Int)) (N : Nat) (x : Fin N) : Array Value := #[.agg #[.int .i64 (sgA xs x.val).1, .int .i64 (sgA xs x.val).2], .agg #[.int .i64 (sgB xs x.val).1, .int .i64 (sgB xs x.val).2]]

theorem segments_in (F : Fence) (n : Nat) (h5 : F.fn 127) (hro : F.round = none) (A : Option Addr) (k c : Nat) (w : World) :
    CallsIn F n Try.prog 127 #[.slice A k c] w fun e w' => e = .returned (.func (.func 145) #[] #[.pointer (some ⟨w.heap.size, 0, none⟩)]) ∧ w' = w.alloc (.cells #[.slice A k c] 158) := by
  refine callsIn_of_wp Try.func127 rfl h5 ?_ hro
  simp only [Try.ntmps127, List.size_toArray, List.length_cons, List.length_nil, Nat.reduceAdd, Nat.reduceSub, Array.replicate_succ, Array.replicate_zero, List.push_toArray, List.append_toArray, List.nil_append, List.cons_append]
  gi_wp2
  go_ret
  exact ⟨rfl, rfl⟩

/-- The path lies there, in blocks that no box of D is. -/
structure PathAt (w : World) (D : List Nat) (Bs b o k c : Nat) (xs : List (Int × Int)) : Prop where
  box : w.cell? ⟨Bs, 0, none⟩ = some (.slice (some ⟨b, o, none⟩) k c)
  len : xs.length = k
  pos : 1 ≤ k
  cap : k ≤ c
  mx : c ≤ maxLen
  sm : k ≤ 1000
  cell : ∀ i (h : i < xs.length), w.cell? ⟨b, o + i * 2, none⟩ = some (.int .i64 xs[i].1) ∧ w.cell? ⟨b, o + i * 2 + 1, none⟩ = some (.int .i64 xs[i].2)
  nD : Bs ∉ D ∧ b ∉ D
theorem PathAt.keep {w W W' : World} {D : List Nat} {Bs b o k c : Nat} {xs : List (Int × Int)} (h : PathAt W D Bs b o k c xs) (hk : KpD D w.heap.size W W') (h1 : Bs < w.heap.size) (h2 : b < w.heap.size) : PathAt W' D Bs b o k c xs :=
  ⟨hk _ _ _ h1 h.nD.1 h.box, h.len, h.pos, h.cap, h.mx, h.sm, fun i hi => ⟨hk _ _ _ h2 h.nD.2 (h.cell i hi).1, hk _ _ _ h2 h.nD.2 (h.cell i hi).2⟩, h.nD⟩
theorem PathAt.ext {W W' : World} {D : List Nat} {Bs b o k c : Nat} {xs : List (Int × Int)} (h : PathAt W D Bs b o k c xs) (x : Ext W W') : PathAt W' D Bs b o k c xs :=
  ⟨x.cell_some h.box, h.len, h.pos, h.cap, h.mx, h.sm, fun i hi => ⟨x.cell_some (h.cell i hi).1, x.cell_some (h.cell i hi).2⟩, h.nD⟩
theorem PathAt.lt {W : World} {D : List Nat} {Bs b o k c : Nat} {xs : List (Int × Int)} (h : PathAt W D Bs b o k c xs) : Bs < W.heap.size ∧ b < W.heap.size :=
  ⟨cell_lt h.box, cell_lt (h.cell 0 (by have := h.len; have := h.pos; omega)).1⟩

set_option maxRecDepth 100000 in
set_option maxHeartbeats 4000000 in
theorem segs1_in (nn : Nat) (hnn : 1 ≤ nn) (l B0 : Nat) (D : List Nat) (Bs b o k c : Nat) (xs : List (Int × Int)) (J : Nat → World → Prop) (Jx : World → Prop)
    (hJE : ∀ c A B, J c A → Ext A B → J c B) (hXE : ∀ A B, Jx A → Ext A B → Jx B)
    (hY : ∀ (x : Fin (segN k)) (W1 : World), J x.val W1 → YieldAt Fence.wide (nn - 1) Try.prog l (segEnc xs (segN k) x) W1 fun e W' => KpD D B0 W1 W' ∧ ((e = .returned (.bool true) ∧ J (x.val + 1) W') ∨ (e = .returned (.bool false) ∧ Jx W')))
    (W : World) (hP : PathAt W D Bs b o k c xs) (hB1 : Bs < B0) (hB2 : b < B0) (h0 : J 0 W) :
    CallsIn Fence.wide nn Try.prog 145 #[.func (.yield l) #[] #[], .pointer (some ⟨Bs, 0, none⟩)] W fun e W' => (∃ v, e = .returned v) ∧ (J (segN k) W' ∨ Jx W') := by
  have HY := Lib.hid hY
  have HJE := Lib.hid hJE
  have HXE := Lib.hid hXE
  have hlen := hP.len
  have hpos := hP.pos
  have hcap := hP.cap
  have hsm := hP.sm
  have hmx : c ≤ 9223372036854775807 := by have := hP.mx; simpa [maxLen] using this
  have HKP := Lib.hid fun (W' : World) (hk : KpD D B0 W W') => (show PathAt W' D Bs b o k c xs from ⟨hk _ _ _ hB1 hP.nD.1 hP.box, hP.len, hP.pos, hP.cap, hP.mx, hP.sm, fun i hi => ⟨hk _ _ _ hB2 hP.nD.2 (hP.cell i hi).1, hk _ _ _ hB2 hP.nD.2 (hP.cell i hi).2⟩, hP.nD⟩)
  have c0 := hP.box
  have l0 := cell_lt c0
  have HP := Lib.hid hP
  have HJ0 := Lib.hid h0
  clear hY hJE hXE hP h0
  refine callsIn_of_wp Try.func145 rfl trivial ?_ rfl
  simp only [Try.ntmps145, List.size_toArray, List.length_cons, List.length_nil, Nat.reduceAdd, Nat.reduceSub, Array.replicate_succ, Array.replicate_zero, List.push_toArray, List.append_toArray, List.nil_append, List.cons_append]
  by_cases hk1 : k = 1
  · subst hk1
    obtain ⟨d0, d1⟩ := HP.out.cell 0 (by omega)
    simp only [Nat.zero_mul, Nat.add_zero] at d0 d1
    have q0 := But.cells (D := []) c0 (by simp)
    have q1 := But.cells (D := []) d0 (by simp)
    have q2 := But.cells (D := []) d1 (by simp)
    have HE : sgA xs 0 = xs[0] ∧ sgB xs 0 = xs[0] := by
      simp [sgA, sgB, hlen]
    have HEE := Lib.hid HE
    clear HE d0 d1
    gi_wp2
    refine wpIn_region_steps [] 7 [(0, true), (1, true), (2, true), (3, true), (4, true), (5, true), (6, true)] (by kernel_rfl) (by kernel_rfl) ?_
    repeat (refine wpSD_q (by rfl) (fun _ _ _ => trivial) (fun K hK => ?_); go_simp; refine hK _ ?_; clear hK K)
    refine wpSD_nil ?_
    intro W3 x3
    have HJ3 := Lib.hid (HJE.out _ _ _ HJ0.out x3)
    have HK3 := Lib.hid (show KpD D B0 W W3 from fun _ _ _ _ _ h => x3.cell_some h)
    obtain ⟨fn, tmps, assign, body, hy, hR⟩ := HY.out ⟨0, by decide⟩ W3 HJ3.out
    simp only [segEnc, HEE.out.1, HEE.out.2] at hy
    have HR := Lib.hid hR
    clear hR q0 q1 q2 x3
    simp only [List.drop_succ_cons, List.drop_zero]
    gi_wp2
    refine HR.out.mono ?_
    rintro e W4 ⟨hk4, h4⟩
    obtain ⟨bb, rfl, hfin⟩ : ∃ bb, e = .returned (.bool bb) ∧ (J 1 W4 ∨ Jx W4) := by
      rcases h4 with ⟨rfl, h⟩ | ⟨rfl, h⟩
      · exact ⟨_, rfl, .inl h⟩
      · exact ⟨_, rfl, .inr h⟩
    have c4 := (HKP.out W4 (HK3.out.trans hk4)).box
    have HF := Lib.hid hfin
    clear hk4 h4 hfin
    rcases (by omega : c = 1 ∨ 1 < c) with rfl | hc
    · gi_wp2
      gi_loopw [18, 3] (fun iv _ wr => ∃ z : Nat, z ≤ 0 ∧ iv = .int .i64 z ∧ (J 1 wr ∨ Jx wr)) (fun iv _ _ => 0 - (intOf iv).toNat)
      case atStart => exact ⟨0, by omega, rfl, HF.out⟩
      case round =>
        obtain ⟨z, hz, rfl, hj⟩ := hrel
        obtain rfl : z = 0 := by omega
        have HFF := Lib.hid hj
        clear hj
        gi_wp2
        go_end0
        exact ⟨⟨_, rfl⟩, HFF.out⟩
    · have hcn : ¬ c = 1 := by omega
      have hcn2 : ¬ c - 1 = 0 := by omega
      gi_wp2
      gi_loopw [18, 3] (fun iv _ wr => ∃ z : Nat, z ≤ 0 ∧ iv = .int .i64 z ∧ (J 1 wr ∨ Jx wr)) (fun iv _ _ => 0 - (intOf iv).toNat)
      case atStart => exact ⟨0, by omega, rfl, HF.out⟩
      case round =>
        obtain ⟨z, hz, rfl, hj⟩ := hrel
        obtain rfl : z = 0 := by omega
        have HFF := Lib.hid hj
        clear hj
        gi_wp2
        go_end0
        exact ⟨⟨_, rfl⟩, HFF.out⟩
  · obtain ⟨m, rfl⟩ : ∃ m, k = m + 1 := ⟨k - 1, by omega⟩
    have hm1 : 1 ≤ m := by omega
    have hsn : segN (m + 1) = m := by simp [segN]; omega
    have hb1 : ((m : Int) + 1 == 1) = false := by simp; omega
    have HSN := Lib.hid hsn
    have HLEN := Lib.hid hlen
    clear hk1 hsn hlen
    gi_wp2
    gi_loopw [18, 3] (fun iv _ wr => ∃ i : Nat, i ≤ m ∧ iv = .int .i64 i ∧ J i wr ∧ KpD D B0 W wr) (fun iv _ _ => m - (intOf iv).toNat)
    case atStart => exact ⟨0, by omega, rfl, HJ0.out, fun _ _ _ _ _ h => h⟩
    case round =>
      obtain ⟨i, hi, rfl, hj, hkp⟩ := hrel
      have HKR := Lib.hid hkp
      have HJR := Lib.hid hj
      by_cases hlt : i < m
      · have hp := HKP.out wr hkp
        have e0 := hp.box
        obtain ⟨d0, d1⟩ := hp.cell i (by rw [HLEN.out]; omega)
        have hi2l : i + 1 < xs.length := by rw [HLEN.out]; omega
        obtain ⟨f0, f1⟩ := hp.cell (i + 1) hi2l
        have HEE := Lib.hid (show sgA xs i = xs[i]'(by rw [HLEN.out]; omega) ∧ sgB xs i = xs[i + 1]'hi2l by
          have h1 : i < xs.length := by rw [HLEN.out]; omega
          have h2 : i + 1 < xs.length := by rw [HLEN.out]; omega
          have h3 : min (i + 1) (xs.length - 1) = i + 1 := by omega
          simp [sgA, sgB, h1, h2, h3])
        have q0 := But.cells (D := []) e0 (by simp)
        have q1 := But.cells (D := []) d0 (by simp)
        have q2 := But.cells (D := []) d1 (by simp)
        have q3 := But.cells (D := []) f0 (by simp)
        have q4 := But.cells (D := []) f1 (by simp)
        have hi1 : (i : Int) < (m : Int) + 1 := by omega
        have hi3 : (0 : Int) ≤ (i : Int) + 1 := by omega
        have hw : IntKind.i64.wrap ((i : Int) + 1) = (i : Int) + 1 := IntWalk.i64_in _ (by omega)
        clear hp hj hkp e0 d0 d1 f0 f1
        gi_wp2
        refine wpIn_region_steps [] 10 [(0, true), (1, true), (2, true), (3, true), (4, true), (5, true), (6, true), (7, true), (8, true), (9, true)] (by kernel_rfl) (by kernel_rfl) ?_
        repeat (refine wpSD_q (by rfl) (fun _ _ _ => trivial) (fun K hK => ?_); go_simp; refine hK _ ?_; clear hK K)
        refine wpSD_nil ?_
        intro W3 x3
        have HJ3 := Lib.hid (HJE.out _ _ _ HJR.out x3)
        have HK3 := Lib.hid (show KpD D B0 W W3 from HKR.out.trans (fun _ _ _ _ _ h => x3.cell_some h))
        obtain ⟨fn, tmps, assign, body, hy, hR⟩ := HY.out ⟨i, by rw [HSN.out]; exact hlt⟩ W3 HJ3.out
        simp only [segEnc, HEE.out.1, HEE.out.2] at hy
        have HR := Lib.hid hR
        clear hR q0 q1 q2 q3 q4 x3
        simp only [List.drop_succ_cons, List.drop_zero]
        gi_wp2
        refine HR.out.mono ?_
        rintro e W4 ⟨hk4, ⟨rfl, h4⟩ | ⟨rfl, h4⟩⟩
        · have HJ4 := Lib.hid h4
          have HK4 := Lib.hid (HK3.out.trans hk4)
          clear h4 hk4
          gi_wp2
          go_roundw
          case rel => exact ⟨i + 1, by omega, by simp, HJ4.out, HK4.out⟩
          case measure => simp [intOf]; omega
        · have HJ4 := Lib.hid h4
          clear h4 hk4
          gi_wp2
          refine bodyPost_ret (results_none rfl _ _ _) rfl ?_
          exact ⟨⟨_, rfl⟩, .inr HJ4.out⟩
      · obtain rfl : i = m := by omega
        clear hj hkp
        gi_wp2
        go_end0
        exact ⟨⟨_, rfl⟩, .inl (by rw [HSN.out]; exact HJR.out)⟩

theorem segs_seq (nn : Nat) (hnn : 1 ≤ nn) (D : List Nat) (Bs b o k c : Nat) (xs : List (Int × Int)) (w : World) (hP : PathAt w D Bs b o k c xs) :
    SeqSt Fence.wide nn Try.prog 145 #[.pointer (some ⟨Bs, 0, none⟩)] (segEnc xs (segN k)) D w := fun l J Jx W hW hJE hXE hY h0 =>
  segs1_in nn hnn l w.heap.size D Bs b o k c xs J Jx hJE hXE hY W (hP.ext (.of hW)) hP.lt.1 hP.lt.2 h0
end Go.Proofs.Ytlljhimaopnbfaa
