/- groove's costs and slips: before, plus, at, around. Conditions: bounds. -/
import Derived.Test.YtgeapenglcohfaaGHidP
import Derived.Test.YtgeapenglcohfaaGLine
import Derived.Test.YtgeapenglcohfaaRfQ
import Derived.Test.YtgeapenglcohfaaQS
import Derived.Test.YtgeapenglcohfaaSpot
namespace Go.Proofs.Ytgeapenglcohfaa
open Go.RowKit

attribute [local go_sem] Oper.semAt_some

abbrev V3 (a b : Int) (c : Bool) : Value := .agg #[.int .i64 a, .int .i64 b, .bool c]

set_option maxHeartbeats 1000000 in
theorem before_any (a b : Cst) (w : World) :
    Calls Try.prog 68 #[V3 a.1 a.2.1 a.2.2, V3 b.1 b.2.1 b.2.2] w fun e w' => e = .returned (.bool (befC a b)) ∧ Ext w w' := by
  obtain ⟨ac, as', an⟩ := a
  obtain ⟨bc, bs, bn⟩ := b
  cases an <;> cases bn
  case false.false =>
    by_cases hc : ac = bc
    · subst hc
      have HB := Lib.hid (show befC (ac, as', false) (ac, bs, false) = decide (as' < bs) by simp [befC])
      go_enter Try.func68, Try.ntmps68
      go_wp2
      go_ret
      exact ⟨ret_b (by rw [HB.out]), by (repeat' (first | with_reducible exact Ext.refl _ | with_reducible apply Ext.alloc | with_reducible apply Ext.drew | with_reducible apply Ext.drewN | with_reducible refine Ext.setCell ?_ ?_ _ | with_reducible apply Ext.step | with_reducible assumption | with_reducible exact Nat.le_refl _ | (simp; done) | (simp; omega)))⟩
    · have hcb : (ac != bc) = true := by simpa using hc
      have HB := Lib.hid (show befC (ac, as', false) (bc, bs, false) = decide (ac < bc) by simp [befC, hc])
      go_enter Try.func68, Try.ntmps68
      go_wp2
      go_ret
      exact ⟨ret_b (by rw [HB.out]), by (repeat' (first | with_reducible exact Ext.refl _ | with_reducible apply Ext.alloc | with_reducible apply Ext.drew | with_reducible apply Ext.drewN | with_reducible refine Ext.setCell ?_ ?_ _ | with_reducible apply Ext.step | with_reducible assumption | with_reducible exact Nat.le_refl _ | (simp; done) | (simp; omega)))⟩
  all_goals
    go_enter Try.func68, Try.ntmps68
    go_wp2
    go_ret
    exact ⟨ret_b (by simp [befC]), by (repeat' (first | with_reducible exact Ext.refl _ | with_reducible apply Ext.alloc | with_reducible apply Ext.drew | with_reducible apply Ext.drewN | with_reducible refine Ext.setCell ?_ ?_ _ | with_reducible apply Ext.step | with_reducible assumption | with_reducible exact Nat.le_refl _ | (simp; done) | (simp; omega)))⟩

set_option maxHeartbeats 1000000 in
theorem plus_any (a : Cst) (n : Int) (w : World) (h1 : 0 ≤ a.1 ∧ a.1 ≤ 1000000000) (h2 : 0 ≤ a.2.1 ∧ a.2.1 ≤ 1000000000) (hn : -20 ≤ n ∧ n ≤ 20) :
    Calls Try.prog 69 #[V3 a.1 a.2.1 a.2.2, .int .i64 n] w fun e w' => e = .returned (V3 (plusC a n).1 (plusC a n).2.1 (plusC a n).2.2) ∧ Ext w w' := by
  obtain ⟨ac, as', an⟩ := a
  obtain ⟨h1, h1'⟩ := h1
  obtain ⟨h2, h2'⟩ := h2
  obtain ⟨h3, h3'⟩ := hn
  simp only at h1 h1' h2 h2' ⊢
  by_cases hz : n = 0
  · subst hz
    have HP := Lib.hid (show plusC (ac, as', an) 0 = (ac, as', an) from rfl)
    go_enter Try.func69, Try.ntmps69
    go_wp2
    go_returns
    exact ⟨by rw [HP.out], by (repeat' (first | with_reducible exact Ext.refl _ | with_reducible apply Ext.alloc | with_reducible apply Ext.drew | with_reducible apply Ext.drewN | with_reducible refine Ext.setCell ?_ ?_ _ | with_reducible apply Ext.step | with_reducible assumption | with_reducible exact Nat.le_refl _ | (simp; done) | (simp; omega)))⟩
  · have hzb : (n != 0) = true := by simpa using hz
    obtain ⟨m, hm⟩ : ∃ m, m = max n (-n) := ⟨_, rfl⟩
    have HP := Lib.hid (show plusC (ac, as', an) n = (ac + 1, as' + m, an) by rw [hm]; exact if_neg hz)
    have hm1 : (if n < -n then -n else n) = m := by split <;> omega
    have hm2 : 0 ≤ m := by omega
    have hm3 : m ≤ 20 := by omega
    clear hm hz
    go_enter Try.func69, Try.ntmps69
    go_wp2
    go_returns
    exact ⟨by rw [HP.out], by (repeat' (first | with_reducible exact Ext.refl _ | with_reducible apply Ext.alloc | with_reducible apply Ext.drew | with_reducible apply Ext.drewN | with_reducible refine Ext.setCell ?_ ?_ _ | with_reducible apply Ext.step | with_reducible assumption | with_reducible exact Nat.le_refl _ | (simp; done) | (simp; omega)))⟩

theorem at_any (g o : Nat) (n : Int) (i : Nat) (w : World) (hi : n + 20 = i) (h2 : i < 41) :
    Calls Try.prog 67 #[.pointer (some ⟨g, o, none⟩), .int .i64 n] w fun e w' => e = .returned (.pointer (some ⟨g, o + i * 3, none⟩)) ∧ w = w' := by
  go_enter Try.func67, Try.ntmps67
  go_wp2
  go_ret
  exact ⟨rfl, rfl⟩

theorem around_in (F : Fence) (k : Nat) (h5 : F.fn 66) (hro : F.round = none) (n most : Int) (w : World) :
    CallsIn F k Try.prog 66 #[.int .i64 n, .int .i64 most] w fun e w' => e = .returned (.func (.func 95) #[] #[.pointer (some ⟨w.heap.size, 0, none⟩), .pointer (some ⟨w.heap.size + 1, 0, none⟩)]) ∧ w' = (w.alloc (.cells #[.int .i64 n] 3)).alloc (.cells #[.int .i64 most] 3) := by
  refine callsIn_of_wp Try.func66 rfl h5 ?_ hro
  simp only [Try.ntmps66, List.size_toArray, List.length_cons, List.length_nil, Nat.reduceAdd, Nat.reduceSub, Array.replicate_succ, Array.replicate_zero, List.push_toArray, List.append_toArray, List.nil_append, List.cons_append]
  gi_wp2
  go_ret
  exact ⟨rfl, rfl⟩

/-- The boxes of around's closure lie there. -/
structure AroundAt (w : World) (D : List Nat) (Bs Bt : Nat) (n most : Int) : Prop where
  c0 : w.cell? ⟨Bs, 0, none⟩ = some (.int .i64 n)
  c1 : w.cell? ⟨Bt, 0, none⟩ = some (.int .i64 most)
  n0 : -20 ≤ n ∧ n ≤ 20
  m0 : 0 ≤ most ∧ most ≤ 20
  nD : Bs ∉ D ∧ Bt ∉ D
theorem AroundAt.ext {W W' : World} {D : List Nat} {Bs Bt : Nat} {n most : Int} (h : AroundAt W D Bs Bt n most) (x : Ext W W') : AroundAt W' D Bs Bt n most := ⟨x.cell_some h.c0, x.cell_some h.c1, h.n0, h.m0, h.nD⟩

def aroundEnc (n most : Int) (x : Fin (cntA n most)) : Array Value := #[.int .i64 (loA n most + x.val)]

set_option maxRecDepth 100000 in
set_option maxHeartbeats 4000000 in
theorem around1_in (nn : Nat) (hnn : 1 ≤ nn) (l B0 : Nat) (D : List Nat) (Bs Bt : Nat) (n most : Int) (J : Nat → World → Prop) (Jx : World → Prop)
    (hY : ∀ (x : Fin (cntA n most)) (W1 : World), J x.val W1 → YieldAt Fence.wide (nn - 1) Try.prog l (aroundEnc n most x) W1 fun e W' => KpD D B0 W1 W' ∧ ((e = .returned (.bool true) ∧ J (x.val + 1) W') ∨ (e = .returned (.bool false) ∧ Jx W')))
    (W : World) (hP : AroundAt W D Bs Bt n most) (hB1 : Bs < B0) (hB2 : Bt < B0) (h0 : J 0 W) :
    CallsIn Fence.wide nn Try.prog 95 #[.func (.yield l) #[] #[], .pointer (some ⟨Bs, 0, none⟩), .pointer (some ⟨Bt, 0, none⟩)] W fun e W' => (∃ v, e = .returned v) ∧ (J (cntA n most) W' ∨ Jx W') := by
  have HY := Lib.hid hY
  have HKP := Lib.hid fun (W' : World) (hk : KpD D B0 W W') => (show W'.cell? ⟨Bs, 0, none⟩ = some (.int .i64 n) ∧ W'.cell? ⟨Bt, 0, none⟩ = some (.int .i64 most) from ⟨hk _ _ _ hB1 hP.nD.1 hP.c0, hk _ _ _ hB2 hP.nD.2 hP.c1⟩)
  obtain ⟨n1, n2⟩ := hP.n0
  obtain ⟨m1, m2⟩ := hP.m0
  have c0 := hP.c0
  have c1 := hP.c1
  have HJ0 := Lib.hid h0
  clear hY hP h0
  obtain ⟨lo, hlo⟩ : ∃ lo, lo = loA n most := ⟨_, rfl⟩
  obtain ⟨N, hN⟩ : ∃ N, N = cntA n most := ⟨_, rfl⟩
  have HN := Lib.hid hN
  have HLO := Lib.hid hlo
  have hl1 : (if n - most < -20 then -20 else n - most) = lo := by rw [hlo]; unfold loA; split <;> omega
  have hl2 : (if 20 < n + most then 20 else n + most) = lo + N - 1 := by rw [hlo, hN]; unfold loA cntA; split <;> omega
  have hl3 : -20 ≤ lo := by rw [hlo]; unfold loA; omega
  have hl4 : lo + N ≤ 21 := by rw [hlo, hN]; unfold loA cntA; omega
  clear hN hlo
  refine callsIn_of_wp Try.func95 rfl trivial ?_ rfl
  simp only [Try.ntmps95, List.size_toArray, List.length_cons, List.length_nil, Nat.reduceAdd, Nat.reduceSub, Array.replicate_succ, Array.replicate_zero, List.push_toArray, List.append_toArray, List.nil_append, List.cons_append]
  gi_wp2
  gi_loopw [4] (fun iv wr => ∃ i : Nat, i ≤ N ∧ iv = .int .i64 (lo + i) ∧ J i wr ∧ KpD D B0 W wr) (fun iv _ => 41 - (intOf iv + 20).toNat)
  case atStart => exact ⟨0, by omega, by simp, HJ0.out, fun _ _ _ _ _ h => h⟩
  case round =>
    obtain ⟨i, hi, rfl, hj, hkp⟩ := hrel
    have HKR := Lib.hid hkp
    have HJR := Lib.hid hj
    obtain ⟨e0, e1⟩ := HKP.out wr hkp
    clear hj hkp
    by_cases hlt : i < N
    · have hg : lo + (i : Int) ≤ lo + (N : Int) - 1 := by omega
      have hN' : i < cntA n most := by rw [← HN.out]; exact hlt
      obtain ⟨fn, tmps, assign, body, hy, hR⟩ := HY.out ⟨i, hN'⟩ wr HJR.out
      simp only [aroundEnc, ← HLO.out] at hy
      have HR := Lib.hid hR
      clear hR
      gi_wp2
      refine HR.out.mono ?_
      rintro e W4 ⟨hk4, ⟨rfl, h4⟩ | ⟨rfl, h4⟩⟩
      · have HJ4 := Lib.hid h4
        have HK4 := Lib.hid (HKR.out.trans hk4)
        clear h4 hk4
        gi_wp2
        go_roundw
        case rel => exact ⟨i + 1, by omega, by simp; omega, HJ4.out, HK4.out⟩
        case measure => simp [intOf]; omega
      · have HJ4 := Lib.hid h4
        clear h4 hk4
        gi_wp2
        refine bodyPost_ret (results_none rfl _ _ _) rfl ?_
        exact ⟨⟨_, rfl⟩, .inr HJ4.out⟩
    · obtain rfl : i = N := by omega
      have hg : ¬ lo + (i : Int) ≤ lo + (i : Int) - 1 := by omega
      gi_wp2
      go_end0
      exact ⟨⟨_, rfl⟩, .inl (by rw [← HN.out]; exact HJR.out)⟩

theorem around_seq (nn : Nat) (hnn : 1 ≤ nn) (D : List Nat) (Bs Bt : Nat) (n most : Int) (w : World) (hP : AroundAt w D Bs Bt n most) :
    SeqSt Fence.wide nn Try.prog 95 #[.pointer (some ⟨Bs, 0, none⟩), .pointer (some ⟨Bt, 0, none⟩)] (aroundEnc n most) D w := fun l J Jx W hW _ _ hY h0 =>
  around1_in nn hnn l w.heap.size D Bs Bt n most J Jx hY W (hP.ext (.of hW)) (cell_lt hP.c0) (cell_lt hP.c1) h0
end Go.Proofs.Ytgeapenglcohfaa
