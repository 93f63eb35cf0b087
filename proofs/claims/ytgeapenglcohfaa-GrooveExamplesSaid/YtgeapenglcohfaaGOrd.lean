/- groove.Order: the first order. Condition: the cuts read as a list. -/
import Derived.Test.YtgeapenglcohfaaGAll
import Derived.Test.YtgeapenglcohfaaGRul
namespace Go.Proofs.Ytgeapenglcohfaa
section
/- GOrdP: Orders in plain Lean: what groove.Order keeps. No program. -/
open Go.RowKit

/-- How many rules lead to each cut, among the first c rules. -/
def bump (s : Nat → Int) (b : Nat) (q : Nat) : Int := if q = b then s q + 1 else s q
def waitF (M : Nat → Nat → Bool) (s : Nat → Int) (c : Nat) : Option (Nat → Int) := some (bump s ((prsL M)[c]?.getD (0, 0)).2)
def waitTo (M : Nat → Nat → Bool) : Nat → Nat → Int
  | 0 => fun _ => 0
  | c + 1 => bump (waitTo M c) ((prsL M)[c]?.getD (0, 0)).2
theorem waitF_to (M : Nat → Nat → Bool) : ∀ c, (List.range c).foldlM (waitF M) (fun _ => 0) = some (waitTo M c)
  | 0 => rfl
  | c + 1 => by
    rw [List.range_succ, List.foldlM_append, waitF_to M c]
    rfl
theorem waitTo_bd (M : Nat → Nat → Bool) (q : Nat) : ∀ c, 0 ≤ waitTo M c q ∧ waitTo M c q ≤ c
  | 0 => ⟨Int.le_refl _, Int.le_refl _⟩
  | c + 1 => by
    have := waitTo_bd M q c
    unfold waitTo bump
    split <;> omega
theorem prsL_len (M : Nat → Nat → Bool) : (prsL M).length ≤ 256 := by
  unfold prsL prsTo
  exact Nat.le_trans (List.length_filter_le _ _) (by simp)
def wait0 (M : Nat → Nat → Bool) : Nat → Int := waitTo M (prsL M).length

/-- The first cut that waits for none. -/
def frst (s : Nat → Int) (n : Nat) : Option Nat := (List.range n).find? fun i => s i == 0
theorem frst_lt {s : Nat → Int} {n a : Nat} (h : frst s n = some a) : a < n ∧ s a = 0 := by
  have h1 := List.find?_some h
  have h2 := List.mem_of_find?_eq_some h
  exact ⟨List.mem_range.1 h2, by simpa using h1⟩
theorem frst_none {s : Nat → Int} {n : Nat} : frst s n = none ↔ ∀ i, i < n → s i ≠ 0 := by
  unfold frst
  rw [List.find?_eq_none]
  constructor
  · intro h i hi
    simpa using h i (List.mem_range.2 hi)
  · intro h i hi
    simpa using h i (List.mem_range.1 hi)
theorem frst_some {s : Nat → Int} {n a : Nat} (ha : a < n) (h0 : s a = 0) (h : ∀ i, i < a → s i ≠ 0) : frst s n = some a := by
  cases hf : frst s n with
  | none => exact absurd h0 (frst_none.1 hf a ha)
  | some b =>
    obtain ⟨h1, h2⟩ := frst_lt hf
    rcases Nat.lt_trichotomy b a with hb | hb | hb
    · exact absurd h2 (h b hb)
    · rw [hb]
    · exfalso
      unfold frst at hf
      obtain ⟨_, l1, l2, hl, hn⟩ := List.find?_eq_some_iff_append.1 hf
      have hmem : a ∈ l1 := by
        have hr : List.range n = List.range b ++ b :: (List.range n).drop (b + 1) := by
          rw [← List.take_append_drop b (List.range n)]
          congr 1
          · rw [List.take_range, Nat.min_eq_left (by omega)]
          · rw [List.take_append_drop]
            rw [List.drop_eq_getElem_cons (by simp; omega)]
            simp
        have hlen : l1.length = b := by
          have h3 : (List.range n)[l1.length]? = some b := by rw [hl]; simp
          rw [List.getElem?_eq_some_iff] at h3
          obtain ⟨_, h3⟩ := h3
          simpa using h3
        have : l1 = List.range b := by
          have h4 := congrArg (List.take b) hl
          rw [List.take_range, Nat.min_eq_left (by omega), List.take_append_of_le_length (by omega), List.take_of_length_le (by omega)] at h4
          exact h4.symm
        rw [this]
        exact List.mem_range.2 hb
      have := hn a hmem
      simp [h0] at this
/-- One cut more. -/
def ordStep (M : Nat → Nat → Bool) (s : Nat → Int) (a : Nat) (q : Nat) : Int := (if q = a then -1 else s q) - (if M a q then 1 else 0)
/-- .. the rules to the first m cuts are struck. -/
def strike (M : Nat → Nat → Bool) (s : Nat → Int) (a m : Nat) (q : Nat) : Int := (if q = a then -1 else s q) - (if q < m ∧ M a q then 1 else 0)
theorem strike_zero (M : Nat → Nat → Bool) (s : Nat → Int) (a q : Nat) : strike M s a 0 q = if q = a then -1 else s q := by
  unfold strike
  rw [if_neg (c := q < 0 ∧ _) (by omega), Int.sub_zero]
theorem strike_no {M : Nat → Nat → Bool} (s : Nat → Int) {a m : Nat} (h : M a m = false) (q : Nat) : strike M s a m q = strike M s a (m + 1) q := by
  unfold strike
  congr 1
  by_cases hq : q = m
  · subst hq
    rw [if_neg (by omega), if_neg (by rw [h]; simp)]
  · by_cases h1 : q < m ∧ M a q = true
    · rw [if_pos h1, if_pos ⟨by omega, h1.2⟩]
    · rw [if_neg h1, if_neg (fun h2 => h1 ⟨by omega, h2.2⟩)]
theorem strike_yes {M : Nat → Nat → Bool} (s : Nat → Int) {a m : Nat} (h : M a m = true) (q : Nat) : (if q = m then strike M s a m m - 1 else strike M s a m q) = strike M s a (m + 1) q := by
  by_cases hq : q = m
  · subst hq
    rw [if_pos rfl]
    unfold strike
    rw [if_neg (c := q < q ∧ _) (by omega), if_pos (c := q < q + 1 ∧ _) ⟨by omega, h⟩]
    omega
  · rw [if_neg hq]
    unfold strike
    congr 1
    by_cases h1 : q < m ∧ M a q = true
    · rw [if_pos h1, if_pos ⟨by omega, h1.2⟩]
    · rw [if_neg h1, if_neg (fun h2 => h1 ⟨by omega, h2.2⟩)]
theorem strike_all (M : Nat → Nat → Bool) (s : Nat → Int) (a : Nat) {q : Nat} (hq : q < 16) : strike M s a 16 q = ordStep M s a q := by
  unfold strike ordStep
  congr 1
  by_cases h : M a q = true
  · rw [if_pos ⟨hq, h⟩, if_pos h]
  · rw [if_neg (fun h2 => h h2.2), if_neg h]
def ordTo (M : Nat → Nat → Bool) (n : Nat) : Nat → Option (List Nat × (Nat → Int))
  | 0 => some ([], wait0 M)
  | j + 1 => (ordTo M n j).bind fun s => (frst s.2 n).map fun a => (s.1 ++ [a], ordStep M s.2 a)
theorem ordTo_len {M : Nat → Nat → Bool} {n : Nat} : ∀ {j : Nat} {l : List Nat} {s : Nat → Int}, ordTo M n j = some (l, s) → l.length = j ∧ ∀ q, -2 * (j : Int) ≤ s q ∧ s q ≤ 256
  | 0, l, s, h => by
    cases h
    refine ⟨rfl, fun q => ?_⟩
    have := waitTo_bd M q (prsL M).length
    have := prsL_len M
    unfold wait0
    omega
  | j + 1, l, s, h => by
    unfold ordTo at h
    cases ho : ordTo M n j with
    | none => rw [ho] at h; cases h
    | some t =>
      rw [ho] at h
      obtain ⟨l', s'⟩ := t
      obtain ⟨h1, h2⟩ := ordTo_len ho
      simp only [Option.bind_some] at h
      cases hf : frst s' n with
      | none => rw [hf] at h; cases h
      | some a =>
        rw [hf] at h
        cases h
        refine ⟨by simp [h1], fun q => ?_⟩
        have := h2 q
        unfold ordStep
        split <;> split <;> omega
theorem ordTo_stop {M : Nat → Nat → Bool} {n j : Nat} (h : ordTo M n j = none) : ∀ d, ordTo M n (j + d) = none
  | 0 => h
  | d + 1 => by
    show (ordTo M n (j + d)).bind _ = none
    rw [ordTo_stop h d]
    rfl
/-- The first order, and the error. -/
def ordM (k : WkT) : Option (List Nat) := (ordTo (ruleM k) k.cuts.length k.cuts.length).map (·.1)
def natsI (l : List Nat) : List Int := l.map fun (a : Nat) => (a : Int)
def orderL (k : WkT) : List Int := if workB k then natsI ((ordM k).getD []) else []
def orderE (k : WkT) : Int := if workB k then (if (ordM k).isSome then 0 else 52) else 51
theorem order_no {k : WkT} (hb : workB k = false) : orderL k = [] ∧ orderE k = 51 := ⟨if_neg (by rw [hb]; exact Bool.false_ne_true), if_neg (by rw [hb]; exact Bool.false_ne_true)⟩
theorem order_loop {k : WkT} (hb : workB k = true) {j : Nat} (hj : j ≤ k.cuts.length) (h : ordTo (ruleM k) k.cuts.length j = none) : orderL k = [] ∧ orderE k = 52 := by
  obtain ⟨d, hd⟩ := Nat.exists_eq_add_of_le hj
  have h1 := ordTo_stop h d
  rw [← hd] at h1
  have h2 : ordM k = none := by unfold ordM; rw [h1]; rfl
  exact ⟨by unfold orderL; rw [if_pos hb, h2]; rfl, by unfold orderE; rw [if_pos hb, h2]; rfl⟩
theorem order_ok {k : WkT} (hb : workB k = true) {l : List Nat} {s : Nat → Int} (h : ordTo (ruleM k) k.cuts.length k.cuts.length = some (l, s)) : orderL k = natsI l ∧ orderE k = 0 := by
  have h2 : ordM k = some l := by unfold ordM; rw [h]; rfl
  exact ⟨by unfold orderL; rw [if_pos hb, h2]; rfl, by unfold orderE; rw [if_pos hb, h2]; rfl⟩

/-- The cells of a table of numbers in the block g. -/
def wCells (g : Nat) (s : Nat → Int) : List (Nat × Nat × Value) := (List.range 16).map fun q => (g, q, .int .i64 (s q))
theorem wCells_at {g : Nat} {s : Nat → Int} {W : World} : CellsAt (wCells g s) W ↔ ∀ q, q < 16 → W.cell? ⟨g, q, none⟩ = some (.int .i64 (s q)) ∧ W.frozen? ⟨g, q, none⟩ = false := by
  unfold CellsAt wCells
  constructor
  · intro h q hq
    exact h (g, q, .int .i64 (s q)) (List.mem_map.2 ⟨q, List.mem_range.2 hq, rfl⟩)
  · intro h t ht
    obtain ⟨q, hq, rfl⟩ := List.mem_map.1 ht
    exact h q (List.mem_range.1 hq)
theorem wCells_put {g : Nat} {s s' : Nat → Int} {W : World} (h : CellsAt (wCells g s) W) {b : Nat} (hb : b < 16) (v : Int) (hv : ∀ q, q < 16 → (if q = b then v else s q) = s' q) : CellsAt (wCells g s') (W.setCell ⟨g, b, none⟩ (.int .i64 v)) := by
  rw [wCells_at] at h ⊢
  intro q hq
  obtain ⟨h1, h2⟩ := h q hq
  refine ⟨?_, by simp [h2]⟩
  rw [← hv q hq]
  by_cases e : q = b
  · subst e
    rw [if_pos rfl]
    exact cell_set_same h1
  · rw [if_neg e]
    exact (cell_set_other (.inr e)).trans h1
theorem wCells_congr {g : Nat} {s s' : Nat → Int} {W : World} (h : CellsAt (wCells g s) W) (e : ∀ q, q < 16 → s q = s' q) : CellsAt (wCells g s') W := by
  rw [wCells_at] at h ⊢
  intro q hq
  rw [← e q hq]
  exact h q hq
theorem wCells_new {W : World} {g : Nat} {T : TypeId} {cs : Array Value} (h : BoxAt g cs T W) (hc : cs = Array.replicate 16 (Value.int .i64 0)) : CellsAt (wCells g (fun _ => 0)) W := by
  subst hc
  rw [wCells_at]
  intro q hq
  have e : (Array.replicate 16 (Value.int .i64 0))[q]? = some (.int .i64 0) := by rw [Array.getElem?_replicate, if_pos hq]
  exact ⟨h.cell (by rw [Array.getElem?_toList]; exact e), frozen_of_row _ _ _ _ _ h⟩
end
open Go.RowKit Go.Shelf

attribute [local go_sem] Oper.semAt_some

/-- slices.Index of 0 in a table's first cells. -/
def frstI (s : Nat → Int) (n : Nat) : Int := match frst s n with
  | some a => (a : Int)
  | none => -1
set_option maxHeartbeats 1000000 in
theorem index_any (g n c : Nat) (s : Nat → Int) (w : World) (hn : n ≤ 16) (h : ∀ q, q < 16 → w.cell? ⟨g, q, none⟩ = some (.int .i64 (s q))) :
    Calls Try.prog 87 #[.slice (some ⟨g, 0, none⟩) n c, .int .i64 0] w fun e w' => e = .returned (.int .i64 (frstI s n)) ∧ w = w' := by
  have H := Lib.hid h
  clear h
  go_enter Try.func87, Try.ntmps87
  go_wp2_with fail
  go_loop [8, 5] (fun iv _ => ∃ j : Nat, j ≤ n ∧ iv = .int .i64 j ∧ Hid (∀ i, i < j → s i ≠ 0)) (fun iv _ => n - (intOf iv).toNat)
  case atStart => exact ⟨0, by omega, rfl, fun i hi => by omega⟩
  case round =>
    obtain ⟨j, hj, rfl, HA⟩ := hrel
    by_cases hlt : j < n
    · have c0 := H.out j (by omega)
      have lc := cell_lt c0
      by_cases hz : s j = 0
      · have HF := Lib.hid (show frstI s n = j by unfold frstI; rw [frst_some hlt hz HA.out])
        rw [hz] at c0
        clear hz
        go_wp2_with fail
        go_ret
        exact ⟨by rw [HF.out]; rfl, rfl⟩
      · have HA2 := Lib.hid (show ∀ i, i < j + 1 → s i ≠ 0 from fun i hi => by
          rcases (by omega : i < j ∨ i = j) with h | rfl
          · exact HA.out i h
          · exact hz)
        have hzb : ((0 : Int) == s j) = false := by simp; omega
        clear hz
        go_wp2_with fail
        go_round
        case rel => exact ⟨j + 1, by omega, by go_num, HA2⟩
        case measure => simp [intOf]; omega
    · obtain rfl : j = n := by omega
      have HF := Lib.hid (show frstI s j = -1 by unfold frstI; rw [frst_none.2 HA.out])
      go_wp2_with fail
      go_ret
      exact ⟨by rw [HF.out]; rfl, rfl⟩

theorem but_grown {b : Nat} {W W' : World} (h : But [b] W W') : W.grownBy W' (some b) :=
  ⟨h.os, h.tape, h.output, h.size, fun i hi hne => h.block i hi (by simpa using fun e => hne (by rw [e]))⟩
theorem own_off {α : Type} {K : EK α} {B g : Nat} {w : World} {v : Value} {xs : List α} (h : K.Own B w v xs) (hg : g < B) : v.ownBlock = none ∨ v.ownBlock ≠ some g := by
  cases hv : v.ownBlock with
  | none => exact .inl rfl
  | some r =>
    refine .inr fun e => ?_
    have := (h.lt r hv).1
    simp only [Option.some.injEq] at e
    omega
theorem wCells_grown {g : Nat} {s : Nat → Int} {A B : World} {row : Option Nat} (h : CellsAt (wCells g s) A) (hg : A.grownBy B row) (hr : row = none ∨ row ≠ some g) : CellsAt (wCells g s) B := by
  have hne : some g ≠ row := by
    rcases hr with rfl | hr
    · exact fun e => by cases e
    · exact fun e => hr e.symm
  rw [wCells_at] at h ⊢
  intro q hq
  obtain ⟨h1, h2⟩ := h q hq
  exact ⟨hg.cell h1 hne, by rw [← h2]; exact World.frozen?_of_block (hg.block g (cell_lt h1) hne)⟩
theorem cell_newS {w : World} {p : Addr} {x : Value} {cs : Array Value} {T : TypeId} {i : Nat} {u : Value} (h : cs.toList[i]? = some u) : ((w.setCell p x).alloc (.cells cs T)).cell? ⟨w.heap.size, i, none⟩ = some u := by
  have := cell_new (w := w.setCell p x) (T := T) h
  simpa using this
theorem natsI_snoc (l : List Nat) (a : Nat) : natsI (l ++ [a]) = natsI l ++ [(a : Int)] := by unfold natsI; simp
theorem natsI_len (l : List Nat) : (natsI l).length = l.length := by unfold natsI; simp
theorem strike_bd {M : Nat → Nat → Bool} {s : Nat → Int} {a m q : Nat} {j : Nat} (h : -2 * (j : Int) ≤ s q ∧ s q ≤ 256) (hj : j ≤ 16) : -40 ≤ strike M s a m q ∧ strike M s a m q ≤ 256 := by
  unfold strike
  split <;> split <;> omega

set_option maxRecDepth 100000 in
set_option maxHeartbeats 2000000 in
theorem order_any (k : WkT) (v : Value) (w : World) (hI : CutsIs w v k.cuts) :
    Calls Try.prog 49 #[k.val v] w (RetEW intK w (orderL k) (orderE k)) := by
  obtain ⟨A, c, rfl, -⟩ := cutsIs_at hI
  cases hb : workB k
  · have HW := Lib.hid fun (W : World) (x : Ext w W) => check_no (k := k) (hI.ext x) hb
    have HR := Lib.hid (order_no hb)
    clear hb hI
    go_enter Try.func49, Try.ntmps49
    go_wp2_with fail
    refine (HW.out _ (by (repeat' (first | with_reducible exact Ext.refl _ | with_reducible apply Ext.alloc | with_reducible apply Ext.drew | with_reducible apply Ext.drewN | with_reducible refine Ext.setCell ?_ ?_ _ | with_reducible apply Ext.step | with_reducible assumption | with_reducible exact Nat.le_refl _ | (simp; done) | (simp; omega))))).mono ?_
    rintro e W1 ⟨rfl, x1⟩
    have HX1 := Lib.hid (show Ext w W1 from Ext.trans (by (repeat' (first | with_reducible exact Ext.refl _ | with_reducible apply Ext.alloc | with_reducible apply Ext.drew | with_reducible apply Ext.drewN | with_reducible refine Ext.setCell ?_ ?_ _ | with_reducible apply Ext.step | with_reducible assumption | with_reducible exact Nat.le_refl _ | (simp; done) | (simp; omega)))) x1)
    clear x1
    go_wp2_with fail
    go_ret2
    exact retEW_mk (EK.Own.nil _ _) HR.out.1 HR.out.2 HX1.out
  have HW := Lib.hid fun (W : World) (x : Ext w W) => check_ok (k := k) (hI.ext x) hb
  have HS := Lib.hid fun (W : World) (x : Ext w W) => rulesOf_any k _ W (hI.ext x) hb
  obtain ⟨_, _, h16, _⟩ := workB_iff.1 hb
  have HB := Lib.hid hb
  obtain ⟨n, hn⟩ : ∃ n, n = k.cuts.length := ⟨_, rfl⟩
  rw [← hn] at HW HS h16 ⊢
  have HN := Lib.hid hn
  obtain ⟨M, hM⟩ : ∃ M, M = ruleM k := ⟨_, rfl⟩
  rw [← hM] at HS
  have HMM := Lib.hid hM
  clear hb hn hI hM
  refine (callsIn_wide (n := 5)).1 ?_
  refine callsIn_of_wp_marks Try.func49 rfl trivial ?_ rfl
  simp only [Try.ntmps49, List.size_toArray, List.length_cons, List.length_nil, Nat.reduceAdd, Nat.reduceSub, Array.replicate_succ, Array.replicate_zero, List.push_toArray, List.append_toArray, List.nil_append, List.cons_append]
  have F2 : Fence.wide.fn 39 := trivial
  have F3 : Fence.wide.fn 85 := trivial
  have F4 : Fence.wide.fn 86 := trivial
  have F5 : Fence.wide.fn 87 := trivial
  gi_wp2
  refine (callsIn_wide.2 (HW.out _ (by (repeat' (first | with_reducible exact Ext.refl _ | with_reducible apply Ext.alloc | with_reducible apply Ext.drew | with_reducible apply Ext.drewN | with_reducible refine Ext.setCell ?_ ?_ _ | with_reducible apply Ext.step | with_reducible assumption | with_reducible exact Nat.le_refl _ | (simp; done) | (simp; omega)))))).mono ?_
  rintro e W0 ⟨rfl, x0⟩
  have HX0 := Lib.hid (show Ext w W0 from Ext.trans (by (repeat' (first | with_reducible exact Ext.refl _ | with_reducible apply Ext.alloc | with_reducible apply Ext.drew | with_reducible apply Ext.drewN | with_reducible refine Ext.setCell ?_ ?_ _ | with_reducible apply Ext.step | with_reducible assumption | with_reducible exact Nat.le_refl _ | (simp; done) | (simp; omega)))) x0)
  obtain ⟨h0, h1, h2, h3, h4, h5, h6, h7, h8, h9, h10, h11, h12⟩ := (WkAt.new k (.slice A n c) w).ext x0
  have lh0 := cell_lt h0
  clear x0
  gi_wp2
  refine (callsIn_wide.2 (HS.out _ HX0.out)).mono ?_
  rintro e W1 ⟨g, rfl, hmat, hg, x1⟩
  have HX1 := Lib.hid (HX0.out.trans x1)
  have HMT := Lib.hid hmat
  replace h12 := x1.cell_some h12
  have lh12 := cell_lt h12
  have lg := hmat.lt
  clear x1 hmat h0 h1 h2 h3 h4 h5 h6 h7 h8 h9 h10 h11 lh0
  gi_wp2
  refine (all_in Fence.wide 4 trivial rfl _ _).mono ?_
  rintro e _ ⟨rfl, rfl⟩
  gi_wp2
  have hbx := BoxAt.new W1 #[.int .i64 0, .int .i64 0, .int .i64 0, .int .i64 0, .int .i64 0, .int .i64 0, .int .i64 0, .int .i64 0, .int .i64 0, .int .i64 0, .int .i64 0, .int .i64 0, .int .i64 0, .int .i64 0, .int .i64 0, .int .i64 0] 143
  refine lay_in (fun W => Ext w W ∧ Ext W1 W ∧ W.heap.size = W1.heap.size + 2 ∧ CellsAt (wCells W1.heap.size (fun _ => 0)) W ∧ W.cell? ⟨W1.heap.size + 1, 0, none⟩ = some (.pointer (some ⟨g, 0, none⟩))) ⟨(HX1.out.alloc _).alloc _, ((Ext.refl _).alloc _).alloc _, by simp, wCells_new (hbx.ext ((Ext.refl _).alloc _)) rfl, by go_cell⟩ ?_
  clear hbx
  rintro W2 ⟨x2, y2, hs2, hwc, hib⟩
  have HX2 := Lib.hid x2
  have HY2 := Lib.hid y2
  have HWC := Lib.hid hwc
  have hw1 := HX1.out.bel.size
  obtain ⟨wb, hwb⟩ : ∃ wb, wb = W1.heap.size := ⟨_, rfl⟩
  rw [← hwb] at HWC hs2 hib hw1 lg lh12 ⊢
  have HWB := Lib.hid hwb
  have HAL := Lib.hid (show AllAt W2 [wb] (wb + 1) g M from ⟨hib, (HMT.out.ext y2).c, by simp, by simp; omega⟩)
  clear x2 y2 hwc hib hwb
  refine wpIn_range_out (N := (prsL M).length) (fun s => wCells wb s) (waitF M) (fun _ => 0) (fun _ => True) [wb] rfl (by decide) (gf := 104) (lb := #[.pointer (some ⟨wb + 1, 0, none⟩)]) rfl trivial (enters_of Try.func104 (by kernel_rfl) rfl)
    (all_seq 4 (by decide) [wb] (wb + 1) g M W2 HAL.out) (fun _ => rfl) (fun d hd => by simp at hd; omega) HWC.out (fun _ _ _ _ hs _ _ => hs) ?Ax ?hAx ?assign ?body ?done ?stop
  case Ax => exact fun x a' W => a' = { tmps := #[k.val (.slice A n c), .pointer (some ⟨w.heap.size, 0, none⟩), .slice none 0 0, .int .i64 0, .int .i64 0, .pointer (some ⟨g, 0, none⟩), .pointer (some ⟨wb, 0, none⟩), undef, .int .i64 (((prsL M)[x.val]).2 : Nat), undef, undef, undef, undef, k.val (.slice A n c), .int .i64 0, .int .i64 0, .bool false, undef, k.val (.slice A n c), .pointer (some ⟨g, 0, none⟩), .pointer (some ⟨g, 0, none⟩), .func (.func 104) #[] #[.pointer (some ⟨wb + 1, 0, none⟩)], .int .i64 (((prsL M)[x.val]).1 : Nat), .int .i64 (((prsL M)[x.val]).2 : Nat)] ++ (List.replicate 41 undef).toArray, defers := [] }
  case hAx => exact fun x a' _ A B row h _ _ => h
  case assign =>
    intro l x W K hW hK
    simp only [allEnc]
    gi_wp2
    refine hK _ _ (Ext.refl _) ?_
    simp [List.replicate]
  case stop =>
    intro m W hm hf
    rw [waitF_to] at hf
    cases hf
  case body =>
    intro l s x a' W hl hf hlr hst hax
    subst hax
    rw [waitF_to] at hf
    obtain rfl := Option.some.inj hf
    have hxl := prsL_len M
    have hxv := x.isLt
    obtain ⟨hq1, hq2⟩ : ((prsL M)[x.val]).2 < 16 ∧ waitF M (waitTo M x.val) x.val = some (bump (waitTo M x.val) ((prsL M)[x.val]).2) := by
      refine ⟨?_, ?_⟩
      · have hmem : (prsL M)[x.val] ∈ prsL M := List.getElem_mem _
        obtain ⟨p, hp⟩ : ∃ p, p = (prsL M)[x.val] := ⟨_, rfl⟩
        rw [← hp] at hmem ⊢
        exact ((mem_prsL M (i := p.1) (m := p.2)).1 hmem).2.1
      · unfold waitF
        rw [List.getElem?_eq_getElem hxv]
        rfl
    have HFN := Lib.hid hq2
    have hbd := waitTo_bd M ((prsL M)[x.val]).2 x.val
    have HST := Lib.hid hst
    obtain ⟨z0, z1⟩ := wCells_at.1 hst.cells _ hq1
    generalize ((prsL M)[x.val]).2 = b at *
    generalize ((prsL M)[x.val]).1 = a at *
    obtain ⟨z, hz⟩ : ∃ z, z = waitTo M x.val b := ⟨_, rfl⟩
    rw [← hz] at z0 hbd
    have HZ := Lib.hid hz
    have lz := cell_lt z0
    have hb16 : (b : Int) < 16 := by omega
    have hzw : IntKind.i64.wrap (z + 1) = z + 1 := IntWalk.i64_in _ (by omega)
    clear hf hlr hst hq2 hz hxl
    gi_wp2
    refine ⟨_, HFN.out, (But.refl _ _).setCell (by simp) _, wCells_put HST.out.cells hq1 _ fun q _ => ?_⟩
    unfold bump
    split
    · rename_i e
      rw [e, HZ.out]
    · rfl
  case done =>
    intro D s W hD hf hst hmark
    rw [waitF_to] at hf
    obtain rfl := Option.some.inj hf
    have hwt := hst.cells
    have HBT := Lib.hid hst.but
    have HMK := Lib.hid hmark
    have e12 := hst.but.cell (show W2.cell? ⟨w.heap.size, 12, none⟩ = some (.slice A n c) from HY2.out.cell_some h12) (by simp; omega)
    have le12 := cell_lt e12
    have hWsz := hst.but.size
    have HW0 := Lib.hid (show CellsAt (wCells wb (wait0 M)) W from hwt)
    have HMC := Lib.hid (fun (W' : World) (x : But [wb] W W') => (show MatC g M W' from fun i j hi hj => x.cell (HBT.out.cell (HAL.out.mat i j hi hj) HAL.out.nD.2) HAL.out.nD.2))
    clear hf hst hmark hwt
    gi_wp2
    gi_loopw [9, 32] (fun ov iv wr => ∃ (j : Nat) (l : List Nat) (s : Nat → Int), j ≤ n ∧ iv = .int .i64 j ∧ ordTo M n j = some (l, s) ∧ intK.Own W.heap.size wr ov (natsI l) ∧ But [wb] W wr ∧ CellsAt (wCells wb s) wr) (fun _ iv _ => n - (intOf iv).toNat)
    case atStart => exact ⟨0, [], wait0 M, by omega, rfl, rfl, EK.Own.nil _ _, But.refl _ _, HW0.out⟩
    case round =>
      obtain ⟨j, l, s, hj, rfl, hord, hown, hbt, hcl⟩ := hrel
      have HOR := Lib.hid hord
      have HOW := Lib.hid hown
      have HBW := Lib.hid hbt
      have HCL := Lib.hid hcl
      have HLEN := Lib.hid (ordTo_len hord)
      obtain ⟨Ao, no, co, rfl⟩ := own_shapeW hown
      have f12 := hbt.cell e12 (by simp; omega)
      have lf12 := cell_lt f12
      have hwrs := hbt.size
      have HIX := Lib.hid (index_any wb n 16 s wr h16 (fun q hq => (wCells_at.1 hcl q hq).1))
      have HMK2 := Lib.hid ((hbt.block D (Array.getElem?_eq_some_iff.1 HMK.out).1 (by simp; omega)).trans HMK.out)
      by_cases hlt : j < n
      · have HSTEP := Lib.hid (show ordTo M n (j + 1) = (frst s n).map fun a => (l ++ [a], ordStep M s a) by
          show (ordTo M n j).bind _ = _
          rw [HOR.out]
          rfl)
        have hn16 : (n : Int) ≤ 16 := by omega
        clear hord hown hbt hcl
        cases hfr : frst s n with
        | none =>
          have hfi : frstI s n = -1 := by unfold frstI; rw [hfr]
          have HEND := Lib.hid (show orderL k = [] ∧ orderE k = 52 from order_loop HB.out (j := j + 1) (by rw [← HN.out]; omega) (by rw [← HMM.out, ← HN.out, HSTEP.out, hfr]; rfl))
          rw [hfi] at HIX
          clear hfi hfr
          gi_wp2
          refine (callsIn_wide.2 HIX.out).mono ?_
          rintro e _ ⟨rfl, rfl⟩
          gi_wp2
          refine leaves_marks [D] _ (by simp) (mark_one HMK2.out) (fun W' hW => ⟨.tuple #[.slice none 0 0, .int .i64 52], by simp [results, Try.results49, go_sem], retEW_mk (EK.Own.nil _ _) HEND.out.1 HEND.out.2 (hW.ext ((HBT.out.trans HBW.out).below HX2.out (by simp; omega)) (by simp; omega))⟩)
        | some a =>
          have hfi : frstI s n = (a : Int) := by unfold frstI; rw [hfr]
          obtain ⟨han, hsa⟩ := frst_lt hfr
          have HST2 := Lib.hid (show ordTo M n (j + 1) = some (l ++ [a], ordStep M s a) by rw [HSTEP.out, hfr]; rfl)
          rw [hfi] at HIX
          have ha16 : a < 16 := by omega
          obtain ⟨z0, z1⟩ := wCells_at.1 HCL.out a ha16
          have lz := cell_lt z0
          have hain : (a : Int) < 16 := by omega
          have hmc := HMC.out wr HBW.out
          have lgr := hmc.lt
          have hlen : (natsI l).length ≤ 1000000000 := by rw [natsI_len, HLEN.out.1]; omega
          have HLL := Lib.hid hlen
          have hDlt : D < W.heap.size := (Array.getElem?_eq_some_iff.1 HMK.out).1
          clear hfi hfr hmc hlen
          gi_wp2
          refine (callsIn_wide.2 HIX.out).mono ?_
          rintro e _ ⟨rfl, rfl⟩
          gi_wp2_with (gi_at_builtin; refine EK.app_in (K := intK) (B := W.heap.size) (xs := natsI l) rfl (.tmp 43) (.tmp 45) rfl wr.heap.size 1 (a : Int) rfl rfl (fun i u hu => cell_newS hu) ((HOW.out.oth (own_off HOW.out (by omega))).ext ((Ext.refl _).alloc _)) (by simp; omega) HLL.out ?_; intro v' w3 o3 b3 g3; obtain ⟨Av, kv, cv, rfl⟩ := own_shapeW o3; have HB3 := Lib.hid (show But [wb] W w3 from ((HBW.out.setCell (by simp) _).ext ((Ext.refl _).alloc _)).grown g3 (fun r e => .inr (HOW.out.lt r e).1)); have HO3 := Lib.hid o3; have HC3 := Lib.hid (wCells_grown ((wCells_put (s' := strike M s a 0) HCL.out ha16 (-1) (fun q _ => (strike_zero M s a q).symm)).ext ((Ext.refl _).alloc _)) g3 (own_off HOW.out (by omega))); have hmc := HMC.out w3 HB3.out; have r0 : w3.cell? ⟨g, a * 16, none⟩ = some (.bool (M a 0)) := hmc a 0 ha16 (by decide); have r1 : w3.cell? ⟨g, a * 16 + 1, none⟩ = some (.bool (M a 1)) := hmc a 1 ha16 (by decide); have r2 : w3.cell? ⟨g, a * 16 + 2, none⟩ = some (.bool (M a 2)) := hmc a 2 ha16 (by decide); have r3 : w3.cell? ⟨g, a * 16 + 3, none⟩ = some (.bool (M a 3)) := hmc a 3 ha16 (by decide); have r4 : w3.cell? ⟨g, a * 16 + 4, none⟩ = some (.bool (M a 4)) := hmc a 4 ha16 (by decide); have r5 : w3.cell? ⟨g, a * 16 + 5, none⟩ = some (.bool (M a 5)) := hmc a 5 ha16 (by decide); have r6 : w3.cell? ⟨g, a * 16 + 6, none⟩ = some (.bool (M a 6)) := hmc a 6 ha16 (by decide); have r7 : w3.cell? ⟨g, a * 16 + 7, none⟩ = some (.bool (M a 7)) := hmc a 7 ha16 (by decide); have r8 : w3.cell? ⟨g, a * 16 + 8, none⟩ = some (.bool (M a 8)) := hmc a 8 ha16 (by decide); have r9 : w3.cell? ⟨g, a * 16 + 9, none⟩ = some (.bool (M a 9)) := hmc a 9 ha16 (by decide); have r10 : w3.cell? ⟨g, a * 16 + 10, none⟩ = some (.bool (M a 10)) := hmc a 10 ha16 (by decide); have r11 : w3.cell? ⟨g, a * 16 + 11, none⟩ = some (.bool (M a 11)) := hmc a 11 ha16 (by decide); have r12 : w3.cell? ⟨g, a * 16 + 12, none⟩ = some (.bool (M a 12)) := hmc a 12 ha16 (by decide); have r13 : w3.cell? ⟨g, a * 16 + 13, none⟩ = some (.bool (M a 13)) := hmc a 13 ha16 (by decide); have r14 : w3.cell? ⟨g, a * 16 + 14, none⟩ = some (.bool (M a 14)) := hmc a 14 ha16 (by decide); have r15 : w3.cell? ⟨g, a * 16 + 15, none⟩ = some (.bool (M a 15)) := hmc a 15 ha16 (by decide); have lgr3 := hmc.lt; clear o3 b3 g3 hmc)
          have hw3s := HB3.out.size
          gi_loopw [52] (fun iv wr => ∃ m : Nat, m ≤ 16 ∧ iv = .int .i64 m ∧ But [wb] w3 wr ∧ CellsAt (wCells wb (strike M s a m)) wr) (fun iv _ => 16 - (intOf iv).toNat)
          case atStart => exact ⟨0, by omega, rfl, But.refl _ _, HC3.out⟩
          case round =>
            obtain ⟨m, hm, rfl, hbt, hcl⟩ := hrel
            have HBI := Lib.hid hbt
            have HCI := Lib.hid hcl
            clear hbt hcl
            by_cases hm16 : m < 16
            · have hix := index_row M a m hm16
              obtain ⟨y0, y1⟩ := wCells_at.1 HCI.out m hm16
              have hbd := strike_bd (M := M) (a := a) (m := m) (HLEN.out.2 m) (show j ≤ 16 by omega)
              have ly := cell_lt y0
              have hmi : (m : Int) < 16 := by omega
              cases hmm : M a m
              · have HSN := Lib.hid (fun q (_ : q < 16) => strike_no s hmm q)
                rw [hmm] at hix
                clear hmm
                gi_wp2
                go_roundw
                case rel => exact ⟨m + 1, by omega, by simp, HBI.out, wCells_congr HCI.out HSN.out⟩
                case measure => simp [intOf]; omega
              · have HSY := Lib.hid (fun q (_ : q < 16) => strike_yes s hmm q)
                rw [hmm] at hix
                obtain ⟨z, hz⟩ : ∃ z, z = strike M s a m m := ⟨_, rfl⟩
                rw [← hz] at y0 hbd HSY
                have hzw : IntKind.i64.wrap (z - 1) = z - 1 := IntWalk.i64_in _ (by omega)
                clear hmm hz
                gi_wp2
                go_roundw
                case rel => exact ⟨m + 1, by omega, by simp, HBI.out.setCell (by simp) _, wCells_put HCI.out hm16 _ HSY.out⟩
                case measure => simp [intOf]; omega
            · obtain rfl : m = 16 := by omega
              have HON := Lib.hid (show intK.Own W.heap.size wr (.slice Av kv cv) (natsI (l ++ [a])) by rw [natsI_snoc]; exact HO3.out.kept (but_grown HBI.out) (own_off HO3.out (by omega)))
              have HCN := Lib.hid (wCells_congr (s' := ordStep M s a) HCI.out fun q hq => strike_all M s a hq)
              gi_wp2
              go_roundw
              case rel => exact ⟨j + 1, l ++ [a], ordStep M s a, by omega, by simp, HST2.out, HON.out, HB3.out.trans HBI.out, HCN.out⟩
              case measure => simp [intOf]; omega
      · obtain rfl : j = n := by omega
        have HEND := Lib.hid (order_ok (k := k) HB.out (l := l) (s := s) (by rw [← HMM.out, ← HN.out]; exact HOR.out))
        clear hord hown hbt hcl
        gi_wp2
        refine leaves_marks [D] _ (by simp) (mark_one HMK2.out) (fun W' hW => ⟨.tuple #[.slice Ao no co, .int .i64 0], by simp [results, Try.results49, go_sem], retEW_mk ((HOW.out.put hW (mark_one HMK2.out)).mono (by omega)) HEND.out.1 HEND.out.2 (hW.ext ((HBT.out.trans HBW.out).below HX2.out (by simp; omega)) (by simp; omega))⟩)
end Go.Proofs.Ytgeapenglcohfaa
