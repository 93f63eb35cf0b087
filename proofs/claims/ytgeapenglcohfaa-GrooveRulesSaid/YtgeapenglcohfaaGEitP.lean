/- An order, or a loop, of a work: plain. No program. -/
import Derived.Test.YtgeapenglcohfaaGLoopW
import Derived.Test.YtgeapenglcohfaaGChkO
namespace Go.Proofs.Ytgeapenglcohfaa
open Go.RowKit

theorem ruleM_iff {k : WkT} {i j : Nat} (h : ruleM k i j = true) : i < k.cuts.length ∧ j < k.cuts.length := by
  unfold ruleM at h
  simp only [Bool.and_eq_true, decide_eq_true_eq] at h
  exact h.1
theorem ruleN (k : WkT) : RuleN (ruleM k) k.cuts.length := ⟨fun _ _ => ruleM_iff, ruleM_same k⟩
theorem workB_16 {k : WkT} (hb : workB k = true) : k.cuts.length ≤ 16 := (workB_iff.1 hb).2.2.1
theorem loopB_iff {k : WkT} {l : List Int} : loopB k l = true ↔ ∃ r, l = natsI r ∧ LoopIs (ruleM k) k.cuts.length r := loopMB_iff
theorem orderB_iff {k : WkT} (hb : workB k = true) {l : List Int} : orderMB (ruleM k) k.cuts.length l = true ↔ ∃ r, l = natsI r ∧ OrderIs (ruleM k) k.cuts.length r := orderMB_iff (ruleN k) (workB_16 hb)
/-- How a work is ordered: an order and no loop, or a loop and no order. -/
theorem either {k : WkT} (hb : workB k = true) (other : List Int) :
    (∃ o s, ordTo (ruleM k) k.cuts.length k.cuts.length = some (o, s) ∧ orderL k = natsI o ∧ orderE k = 0 ∧ loopL k = [] ∧ loopE k = 6 ∧ chkLE k other = 53 ∧ chkOE k (natsI o) = 0 ∧ OrderIs (ruleM k) k.cuts.length o) ∨
    (∃ r, orderL k = [] ∧ orderE k = 52 ∧ loopL k = natsI r ∧ loopE k = 0 ∧ chkOE k other = 53 ∧ chkLE k (natsI r) = 0 ∧ (chkLE k other = 53 ∨ (chkLE k other = 0 ∧ r.length ≤ other.length))) := by
  have hR := ruleN k
  have h16 := workB_16 hb
  have hL : ∀ l, chkLE k l = if loopB k l then 0 else 53 := fun l => if_pos hb
  have hO : ∀ l, chkOE k l = if orderMB (ruleM k) k.cuts.length l then 0 else 53 := fun l => if_pos hb
  cases ho : ordTo (ruleM k) k.cuts.length k.cuts.length with
  | some t =>
    obtain ⟨o, s⟩ := t
    left
    have hord := ordTo_order hR h16 ho
    have hno : lpTo (ruleM k) k.cuts.length k.cuts.length = none := by
      cases hl : lpTo (ruleM k) k.cuts.length k.cuts.length with
      | none => rfl
      | some r => exact (order_loop_no hord (lpTo_loop hR.ir (Nat.le_refl _) hl)).elim
    refine ⟨o, s, rfl, (order_ok hb ho).1, (order_ok hb ho).2, (loop_none hb hno).1, (loop_none hb hno).2, ?_, ?_, hord⟩
    · rw [hL, if_neg]
      intro h
      obtain ⟨r, _, hr⟩ := loopB_iff.1 h
      exact order_loop_no hord hr
    · rw [hO, if_pos ((orderB_iff hb).2 ⟨o, rfl, hord⟩)]
  | none =>
    right
    obtain ⟨r, hr⟩ := ordTo_none hR h16 ho
    have hlp := lpTo_loop hR.ir (Nat.le_refl _) hr
    have h1 := order_loop hb (Nat.le_refl _) ho
    refine ⟨r, h1.1, h1.2, (loop_some hb hr).1, (loop_some hb hr).2, ?_, ?_, ?_⟩
    · rw [hO, if_neg]
      intro h
      obtain ⟨o, _, ho'⟩ := (orderB_iff hb).1 h
      exact order_loop_no ho' hlp
    · rw [hL, if_pos (loopB_iff.2 ⟨r, rfl, hlp⟩)]
    · rw [hL]
      by_cases h : loopB k other = true
      · right
        obtain ⟨q, rfl, hq⟩ := loopB_iff.1 h
        obtain ⟨r', hr', hle⟩ := hq.way
        rw [hr] at hr'
        cases hr'
        rw [if_pos h, natsI_len]
        exact ⟨rfl, hle⟩
      · left
        rw [if_neg h]
theorem either_no {k : WkT} (hb : workB k = false) (other : List Int) : orderE k = 51 ∧ loopE k = 51 ∧ chkOE k other = 51 ∧ chkLE k other = 51 :=
  ⟨(order_no hb).2, (loop_no hb).2, if_neg (by rw [hb]; exact Bool.false_ne_true), if_neg (by rw [hb]; exact Bool.false_ne_true)⟩
/-- No accepted order is before the one that is found. -/
theorem order_first {k : WkT} (hb : workB k = true) {o : List Nat} {s : Nat → Int} {other : List Int} (h : ordTo (ruleM k) k.cuts.length k.cuts.length = some (o, s)) (h0 : chkOE k other = 0) :
    other.length = o.length ∧ ∀ i, i < o.length → (∀ j, j < i → (natsI o)[j]?.getD 0 = other[j]?.getD 0) → (natsI o)[i]?.getD 0 ≠ other[i]?.getD 0 → (natsI o)[i]?.getD 0 < other[i]?.getD 0 := by
  have hO : chkOE k other = if orderMB (ruleM k) k.cuts.length other then 0 else 53 := if_pos hb
  rw [hO] at h0
  split at h0
  · rename_i hm
    obtain ⟨r, rfl, hr⟩ := (orderB_iff hb).1 hm
    have hlo := ordTo_order (ruleN k) (workB_16 hb) h
    have hlen : r.length = o.length := by rw [hr.len, hlo.len]
    refine ⟨by rw [natsI_len, hlen], fun i hi hsame hne => ?_⟩
    rw [natsI_at, natsI_at] at hne ⊢
    have hx := List.getElem?_eq_getElem hi
    have hy := List.getElem?_eq_getElem (show i < r.length by omega)
    have ht : o.take i = r.take i := by
      apply List.ext_getElem (by simp; omega)
      intro j h1 h2
      rw [List.getElem_take, List.getElem_take]
      rw [List.length_take] at h1
      have := hsame j (by omega)
      rw [natsI_at, natsI_at, List.getElem?_eq_getElem (by omega), List.getElem?_eq_getElem (by omega)] at this
      exact Int.ofNat.inj this
    have := ordTo_first (ruleN k) (workB_16 hb) h hr ht hx hy
    rw [hx, hy] at hne ⊢
    simp only [Option.getD_some] at hne ⊢
    omega
  · cases h0
end Go.Proofs.Ytgeapenglcohfaa
