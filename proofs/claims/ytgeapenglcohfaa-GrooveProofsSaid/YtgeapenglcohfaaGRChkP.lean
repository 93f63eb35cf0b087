/- What the reference's checks of an order and of a loop ask, against orderMB and loopMB. Plain Lean, no program. -/
import Derived.Test.YtgeapenglcohfaaGLoopW
import Derived.Test.YtgeapenglcohfaaGChkO
namespace Go.Proofs.Ytgeapenglcohfaa
section
/- GEitP: An order, or a loop, of a work: plain. No program. -/
open Go.RowKit

theorem ruleM_iff {k : WkT} {i j : Nat} (h : ruleM k i j = true) : i < k.cuts.length ∧ j < k.cuts.length := by
  unfold ruleM at h
  simp only [Bool.and_eq_true, decide_eq_true_eq] at h
  exact h.1
theorem ruleN (k : WkT) : RuleN (ruleM k) k.cuts.length := ⟨fun _ _ => ruleM_iff, ruleM_same k⟩
theorem workB_16 {k : WkT} (hb : workB k = true) : k.cuts.length ≤ 16 := (workB_iff.1 hb).2.2.1
theorem loopB_iff {k : WkT} {l : List Int} : loopB k l = true ↔ ∃ r, l = natsI r ∧ LoopIs (ruleM k) k.cuts.length r := loopMB_iff
theorem orderB_iff {k : WkT} (hb : workB k = true) {l : List Int} : orderMB (ruleM k) k.cuts.length l = true ↔ ∃ r, l = natsI r ∧ OrderIs (ruleM k) k.cuts.length r := orderMB_iff (ruleN k) (workB_16 hb)
/-- How a work is ordered: an order and no loop, or a loop and no order. -/
theorem either {k : WkT} (hb : workB k = true) (other : List Int) :
    (∃ o s, ordTo (ruleM k) k.cuts.length k.cuts.length = some (o, s) ∧ orderL k = natsI o ∧ orderE k = 0 ∧ loopL k = [] ∧ loopE k = 6 ∧ chkLE k other = 53 ∧ chkOE k (natsI o) = 0 ∧ OrderIs (ruleM k) k.cuts.length o) ∨
    (∃ r, orderL k = [] ∧ orderE k = 52 ∧ loopL k = natsI r ∧ loopE k = 0 ∧ chkOE k other = 53 ∧ chkLE k (natsI r) = 0 ∧ (chkLE k other = 53 ∨ (chkLE k other = 0 ∧ r.length ≤ other.length))) := by
  have hR := ruleN k
  have h16 := workB_16 hb
  have hL : ∀ l, chkLE k l = if loopB k l then 0 else 53 := fun l => if_pos hb
  have hO : ∀ l, chkOE k l = if orderMB (ruleM k) k.cuts.length l then 0 else 53 := fun l => if_pos hb
  cases ho : ordTo (ruleM k) k.cuts.length k.cuts.length with
  | some t =>
    obtain ⟨o, s⟩ := t
    left
    have hord := ordTo_order hR h16 ho
    have hno : lpTo (ruleM k) k.cuts.length k.cuts.length = none := by
      cases hl : lpTo (ruleM k) k.cuts.length k.cuts.length with
      | none => rfl
      | some r => exact (order_loop_no hord (lpTo_loop hR.ir (Nat.le_refl _) hl)).elim
    refine ⟨o, s, rfl, (order_ok hb ho).1, (order_ok hb ho).2, (loop_none hb hno).1, (loop_none hb hno).2, ?_, ?_, hord⟩
    · rw [hL, if_neg]
      intro h
      obtain ⟨r, _, hr⟩ := loopB_iff.1 h
      exact order_loop_no hord hr
    · rw [hO, if_pos ((orderB_iff hb).2 ⟨o, rfl, hord⟩)]
  | none =>
    right
    obtain ⟨r, hr⟩ := ordTo_none hR h16 ho
    have hlp := lpTo_loop hR.ir (Nat.le_refl _) hr
    have h1 := order_loop hb (Nat.le_refl _) ho
    refine ⟨r, h1.1, h1.2, (loop_some hb hr).1, (loop_some hb hr).2, ?_, ?_, ?_⟩
    · rw [hO, if_neg]
      intro h
      obtain ⟨o, _, ho'⟩ := (orderB_iff hb).1 h
      exact order_loop_no ho' hlp
    · rw [hL, if_pos (loopB_iff.2 ⟨r, rfl, hlp⟩)]
    · rw [hL]
      by_cases h : loopB k other = true
      · right
        obtain ⟨q, rfl, hq⟩ := loopB_iff.1 h
        obtain ⟨r', hr', hle⟩ := hq.way
        rw [hr] at hr'
        cases hr'
        rw [if_pos h, natsI_len]
        exact ⟨rfl, hle⟩
      · left
        rw [if_neg h]
theorem either_no {k : WkT} (hb : workB k = false) (other : List Int) : orderE k = 51 ∧ loopE k = 51 ∧ chkOE k other = 51 ∧ chkLE k other = 51 :=
  ⟨(order_no hb).2, (loop_no hb).2, if_neg (by rw [hb]; exact Bool.false_ne_true), if_neg (by rw [hb]; exact Bool.false_ne_true)⟩
/-- No accepted order is before the one that is found. -/
theorem order_first {k : WkT} (hb : workB k = true) {o : List Nat} {s : Nat → Int} {other : List Int} (h : ordTo (ruleM k) k.cuts.length k.cuts.length = some (o, s)) (h0 : chkOE k other = 0) :
    other.length = o.length ∧ ∀ i, i < o.length → (∀ j, j < i → (natsI o)[j]?.getD 0 = other[j]?.getD 0) → (natsI o)[i]?.getD 0 ≠ other[i]?.getD 0 → (natsI o)[i]?.getD 0 < other[i]?.getD 0 := by
  have hO : chkOE k other = if orderMB (ruleM k) k.cuts.length other then 0 else 53 := if_pos hb
  rw [hO] at h0
  split at h0
  · rename_i hm
    obtain ⟨r, rfl, hr⟩ := (orderB_iff hb).1 hm
    have hlo := ordTo_order (ruleN k) (workB_16 hb) h
    have hlen : r.length = o.length := by rw [hr.len, hlo.len]
    refine ⟨by rw [natsI_len, hlen], fun i hi hsame hne => ?_⟩
    rw [natsI_at, natsI_at] at hne ⊢
    have hx := List.getElem?_eq_getElem hi
    have hy := List.getElem?_eq_getElem (show i < r.length by omega)
    have ht : o.take i = r.take i := by
      apply List.ext_getElem (by simp; omega)
      intro j h1 h2
      rw [List.getElem_take, List.getElem_take]
      rw [List.length_take] at h1
      have := hsame j (by omega)
      rw [natsI_at, natsI_at, List.getElem?_eq_getElem (by omega), List.getElem?_eq_getElem (by omega)] at this
      exact Int.ofNat.inj this
    have := ordTo_first (ruleN k) (workB_16 hb) h hr ht hx hy
    rw [hx, hy] at hne ⊢
    simp only [Option.getD_some] at hne ⊢
    omega
  · cases h0
end
section
/-- Every cut that must be milled ahead of the one at j stands ahead of it. -/
def aheadB (M : Nat → Nat → Bool) (n : Nat) (l : List Int) (j : Nat) : Prop := ∀ p : Nat, p < n → (l.take j).contains (p : Int) = false → (p : Int) ≠ l[j]?.getD 0 → M p (l[j]?.getD 0).toNat = false
theorem orderMB_diff {M : Nat → Nat → Bool} {n : Nat} {l : List Int} {j : Nat} (hl : l.length = n) (hj : j ≤ n) (h : diffTo l n j = false) : orderMB M n l = false := by
  obtain ⟨d, hd⟩ : ∃ d, n = j + d := ⟨n - j, by omega⟩
  have : diffB l n = false := by
    unfold diffB
    rw [hl]
    conv => lhs; arg 3; rw [hd]
    exact diffTo_le h d
  unfold orderMB
  rw [this, Bool.and_false, Bool.false_and]
theorem orderMB_no {M : Nat → Nat → Bool} {n : Nat} (hR : RuleN M n) (hn : n ≤ 16) {l : List Int} {j p : Nat} (hj : j < l.length) (hp : (l.take j).contains (p : Int) = false) (hM : M p (l[j]?.getD 0).toNat = true) : orderMB M n l = false := by
  cases h : orderMB M n l with
  | false => rfl
  | true =>
    obtain ⟨r, rfl, ho⟩ := (orderMB_iff hR hn).1 h
    rw [natsI_length] at hj
    rw [natsI_at, Int.toNat_natCast] at hM
    have h1 := ho.keep j _ (List.getElem?_eq_getElem hj) p (by rwa [List.getElem?_eq_getElem hj] at hM)
    have h2 : (p : Int) ∈ (natsI r).take j := by
      rw [show (natsI r).take j = natsI (r.take j) from List.map_take.symm]
      exact natsI_mem.2 h1
    rw [← List.contains_iff_mem, hp] at h2
    cases h2
theorem orderMB_ok {M : Nat → Nat → Bool} {n : Nat} (hR : RuleN M n) (hn : n ≤ 16) {l : List Int} (hl : l.length = n) (hd : diffTo l n n = true) (h : ∀ j, j < n → aheadB M n l j) : orderMB M n l = true := by
  rw [orderMB_iff hR hn]
  obtain ⟨r, rfl, hnd, hlt⟩ := (diffB_iff (l := l) (n := n)).1 (by unfold diffB; rw [hl]; exact hd)
  rw [natsI_length] at hl
  refine ⟨r, rfl, hlt, hnd, hl, fun j x hx p hp => ?_⟩
  obtain ⟨hjl, rfl⟩ := List.getElem?_eq_some_iff.1 hx
  obtain ⟨hpn, _⟩ := hR.lt p _ hp
  apply Decidable.byContradiction
  intro hna
  have h1 := h j (by omega) p hpn
  rw [natsI_at, List.getElem?_eq_getElem hjl, Option.getD_some, Int.toNat_natCast] at h1
  have h2 : ((natsI r).take j).contains (p : Int) = false := by
    rw [show (natsI r).take j = natsI (r.take j) from List.map_take.symm, List.contains_eq_mem, decide_eq_false_iff_not, natsI_mem]
    exact hna
  rw [h1 h2 (fun e => by rw [Int.ofNat.inj e, hR.ir] at hp; cases hp)] at hp
  cases hp
theorem loopMB_diff {M : Nat → Nat → Bool} {n : Nat} {l : List Int} {j : Nat} (hj : j ≤ l.length) (h : diffTo l n j = false) : loopMB M n l = false := by
  obtain ⟨d, hd⟩ : ∃ d, l.length = j + d := ⟨l.length - j, by omega⟩
  have : diffB l n = false := by
    unfold diffB
    rw [hd]
    exact diffTo_le h d
  unfold loopMB
  rw [this, Bool.and_false, Bool.false_and]
theorem loopMB_short {M : Nat → Nat → Bool} {n : Nat} {l : List Int} (h : l.length < 2) : loopMB M n l = false := by
  unfold loopMB
  rw [decide_eq_false (by omega), Bool.false_and, Bool.false_and]
theorem loopMB_long {M : Nat → Nat → Bool} {n : Nat} {l : List Int} (h : n < l.length) : loopMB M n l = false := by
  cases e : loopMB M n l with
  | false => rfl
  | true =>
    obtain ⟨r, rfl, hr⟩ := loopMB_iff.1 e
    rw [natsI_length] at h
    have := List.Nodup.length_le_of_subset hr.nd (fun x hx => List.mem_range.2 (hr.lt x hx))
    rw [List.length_range] at this
    omega
/-- The next place, round about. -/
theorem loopMB_no {M : Nat → Nat → Bool} {n : Nat} {l : List Int} {j : Nat} (hj : j < l.length) (h : M (l[j]?.getD 0).toNat (l[(j + 1) % l.length]?.getD 0).toNat = false) : loopMB M n l = false := by
  cases e : loopMB M n l with
  | false => rfl
  | true =>
    obtain ⟨r, rfl, hr⟩ := loopMB_iff.1 e
    rw [natsI_length] at h hj
    rw [natsI_at, natsI_at, Int.toNat_natCast, Int.toNat_natCast] at h
    by_cases hl : j + 1 < r.length
    · rw [Nat.mod_eq_of_lt hl, hr.nx j hl] at h
      cases h
    · rw [show j + 1 = r.length by omega, Nat.mod_self, show j = r.length - 1 by omega, hr.cl] at h
      cases h
theorem loopMB_ok {M : Nat → Nat → Bool} {n : Nat} {l : List Int} (h2 : 2 ≤ l.length) (hd : diffTo l n l.length = true) (h : ∀ j, j < l.length → M (l[j]?.getD 0).toNat (l[(j + 1) % l.length]?.getD 0).toNat = true) : loopMB M n l = true := by
  rw [loopMB_iff]
  obtain ⟨r, rfl, hnd, hlt⟩ := (diffB_iff (l := l) (n := n)).1 hd
  rw [natsI_length] at h2 h
  refine ⟨r, rfl, hlt, hnd, h2, fun j hj => ?_, ?_⟩
  · have := h j (by omega)
    rwa [natsI_at, natsI_at, Int.toNat_natCast, Int.toNat_natCast, Nat.mod_eq_of_lt hj] at this
  · have := h (r.length - 1) (by omega)
    rwa [natsI_at, natsI_at, Int.toNat_natCast, Int.toNat_natCast, show r.length - 1 + 1 = r.length by omega, Nat.mod_self] at this
end
end Go.Proofs.Ytgeapenglcohfaa
