/- read.table's shifts. Condition: the table reads. -/
import Derived.Test.YtkjgcmdabelohaaGreatMKind
import Derived.Test.YtkjgcmdabelohaaGreatMNet
import Derived.WalkMore
import Derived.Laws.MakeOwn
namespace Go.Proofs.YtkjgcmdabelohaaGreat
section
/- PFree: read.table's free. Condition: the table reads. -/
open Go.RowKit

/-- Whether the cuts r, r + st, .. have phases that fit. -/
def freeB (fits : List (List Bool)) (n st sum r ph : Nat) : Bool := (List.range fits.length).all fun m => !decide (r + m * st < fits.length) || (fits[r + m * st]?.getD [])[(ph + m * sum) % n]?.getD false
theorem freeB_iff {fits : List (List Bool)} {n st sum r ph : Nat} (hs : 1 ≤ st) : freeB fits n st sum r ph = true ↔ ∀ m, r + m * st < fits.length → (fits[r + m * st]?.getD [])[(ph + m * sum) % n]?.getD false = true := by
  unfold freeB
  rw [List.all_eq_true]
  constructor
  · intro h m hm
    have hml : m < fits.length := by
      have := Nat.mul_le_mul_left m hs
      omega
    have := h m (List.mem_range.2 hml)
    rw [decide_eq_true hm] at this
    simpa using this
  · intro h m _
    by_cases hm : r + m * st < fits.length
    · rw [h m hm, Bool.or_true]
    · rw [decide_eq_false hm]; rfl
theorem phase_step (ph m sum n : Nat) : ((ph + m * sum) % n + sum) % n = (ph + (m + 1) * sum) % n := by
  rw [Nat.mod_add_mod, Nat.add_assoc, Nat.succ_mul]
/-- A table as a value. -/
abbrev tableV (n : Nat) (v : Value) : Value := .agg #[.int .i64 (n : Int), v]
structure TableIs (w : World) (v : Value) (n : Nat) (fits : List (List Bool)) : Prop where
  tab : TabIs rowsK boolK w v fits
  row : ∀ l ∈ fits, l.length = n
  n1 : 1 ≤ n
  n2 : n ≤ 96
  c : fits.length ≤ 12
theorem TableIs.ext {w w' : World} {v : Value} {n : Nat} {fits : List (List Bool)} (h : TableIs w v n fits) (x : Ext w w') : TableIs w' v n fits := ⟨h.tab.ext x, h.row, h.n1, h.n2, h.c⟩
/-- An entry of a table. -/
theorem TableIs.at_ {w : World} {v : Value} {n : Nat} {fits : List (List Bool)} (h : TableIs w v n fits) : ∃ A c, v = .slice A fits.length c ∧ ∀ r (_ : r < fits.length), ∃ b o b2 o2 c2, A = some ⟨b, o, none⟩ ∧ w.cell? ⟨b, o + r, none⟩ = some (.slice (some ⟨b2, o2, none⟩) n c2) ∧
    ∀ ph, ph < n → w.cell? ⟨b2, o2 + ph, none⟩ = some (.bool ((fits[r]?.getD [])[ph]?.getD false)) := by
  obtain ⟨Ts, ⟨A, c, hv, -, -, hr⟩, hl, hq⟩ := h.tab
  refine ⟨A, c, by rw [hv, hl], fun r hrl => ?_⟩
  have hrT : r < Ts.length := by omega
  obtain ⟨b, o, hA, _, hc⟩ := hr r hrT
  have h3 := hc 0 _ rfl
  rw [show rowsK.k = 1 from rfl, Nat.mul_one, Nat.add_zero] at h3
  obtain ⟨A2, c2, hv2, -, -, hr2⟩ := hq r hrT hrl
  have hrow := h.row _ (List.getElem_mem hrl)
  obtain ⟨b2, o2, hA2, _, h0⟩ := bools_at hr2 0 (by have := h.n1; omega)
  subst hA2
  have h4 : w.cell? ⟨b, o + r, none⟩ = some (rowH Ts[r]) := h3
  rw [hv2, hrow] at h4
  refine ⟨b, o, b2, o2, c2, hA, h4, fun ph hph => ?_⟩
  obtain ⟨b3, o3, he, _, h5⟩ := bools_at hr2 ph (by omega)
  simp only [Option.some.injEq, Addr.mk.injEq, and_true] at he
  obtain ⟨rfl, rfl⟩ := he
  rw [h5, List.getElem?_eq_getElem hrl, Option.getD_some, List.getElem?_eq_getElem (by omega), Option.getD_some]

set_option maxRecDepth 100000 in
set_option maxHeartbeats 4000000 in
theorem free_any (v : Value) (n : Nat) (fits : List (List Bool)) (r st ph sum : Nat) (w : World) (h : TableIs w v n fits) (hs : 1 ≤ st) (hs2 : st ≤ 12) (hr : r ≤ 12) (hp : ph < n) (hsum : sum < n) :
    Calls Tryz.prog 66 #[tableV n v, .int .i64 (r : Int), .int .i64 (st : Int), .int .i64 (ph : Int), .int .i64 (sum : Int)] w fun e w' => e = .returned (.bool (freeB fits n st sum r ph)) ∧ Ext w w' := by
  obtain ⟨A, c, rfl, hat⟩ := h.at_
  have HAT := Lib.hid hat
  have hn1 := h.n1
  have hn2 := h.n2
  have hc12 := h.c
  obtain ⟨L, hL⟩ : ∃ L, L = fits.length := ⟨_, rfl⟩
  rw [← hL] at hc12 ⊢
  have HL := Lib.hid hL
  have HFB := Lib.hid (freeB_iff (fits := fits) (n := n) (sum := sum) (r := r) (ph := ph) hs)
  obtain ⟨res, hres⟩ : ∃ b, b = freeB fits n st sum r ph := ⟨_, rfl⟩
  rw [← hres] at HFB ⊢
  have HB0 := Lib.hid (BoxAt.new w #[.int .i64 (n : Int), .slice A L c] 90)
  clear h hat hL hres
  go_enter Tryz.func66, Tryz.ntmps66
  go_wp2_with fail
  refine lay_wp (fun W => BoxAt w.heap.size #[.int .i64 (n : Int), .slice A L c] 90 W ∧ Ext w W) ⟨HB0.out, (Ext.refl _).alloc _⟩ ?_
  rintro W0 ⟨b0, x0⟩
  have HB := Lib.hid b0
  have HX0 := Lib.hid x0
  clear b0 x0 HB0
  go_loopw [1, 3] (fun rv pv wr => ∃ m : Nat, rv = .int .i64 ((r + m * st : Nat) : Int) ∧ r + m * st ≤ 24 ∧ pv = .int .i64 (((ph + m * sum) % n : Nat) : Int) ∧ Hid (∀ m', m' < m → r + m' * st < fits.length → (fits[r + m' * st]?.getD [])[(ph + m' * sum) % n]?.getD false = true) ∧ Ext W0 wr) (fun rv _ _ => 24 - (intOf rv).toNat)
  case atStart => exact ⟨0, by simp, by omega, by rw [Nat.zero_mul, Nat.add_zero, Nat.mod_eq_of_lt hp], Lib.hid (fun m' h => absurd h (by omega)), Ext.refl _⟩
  case round =>
    obtain ⟨m, rfl, hb24, rfl, HAL, hx⟩ := hrel
    have HX := Lib.hid hx
    obtain ⟨rr, hrr⟩ : ∃ z, z = r + m * st := ⟨_, rfl⟩
    obtain ⟨pp, hpp⟩ : ∃ z, z = (ph + m * sum) % n := ⟨_, rfl⟩
    have hpn : pp < n := by rw [hpp]; exact Nat.mod_lt _ (by omega)
    rw [← hrr] at hb24 ⊢
    rw [← hpp]
    have HRR := Lib.hid hrr
    have HPP := Lib.hid hpp
    have q0 := (HB.out.ext hx).cell (i := 0) rfl
    have q1 := (HB.out.ext hx).cell (i := 1) rfl
    have lq := cell_lt q0
    clear hrr hpp
    by_cases hlt : rr < L
    · have hri : (rr : Int) < (L : Int) := by omega
      have hpi : (pp : Int) < (n : Int) := by omega
      obtain ⟨b, o, b2, o2, c2, rfl, t0, t1⟩ := HAT.out rr (by rw [← HL.out]; exact hlt)
      have t2 := t1 pp hpn
      replace t0 := (HX0.out.trans hx).cell_some t0
      replace t2 := (HX0.out.trans hx).cell_some t2
      have l0 := cell_lt t0
      have l2 := cell_lt t2
      obtain ⟨bv, hbv⟩ : ∃ z, z = (fits[rr]?.getD [])[pp]?.getD false := ⟨_, rfl⟩
      rw [← hbv] at t2
      have HBV := Lib.hid hbv
      have e1 : ((pp : Int) + (sum : Int)).tmod (n : Int) = (((pp + sum) % n : Nat) : Int) := by
        rw [show (pp : Int) + (sum : Int) = ((pp + sum : Nat) : Int) by simp, Int.tmod_eq_emod_of_nonneg (by omega)]
        exact (Int.natCast_emod _ _).symm
      have e2 : ((pp : Int) + (sum : Int)) % (n : Int) = (((pp + sum) % n : Nat) : Int) := by
        rw [show (pp : Int) + (sum : Int) = ((pp + sum : Nat) : Int) by simp]
        exact (Int.natCast_emod _ _).symm
      obtain ⟨pn, hpn2⟩ : ∃ z, z = (pp + sum) % n := ⟨_, rfl⟩
      rw [← hpn2] at e1 e2
      have HPN := Lib.hid hpn2
      have hn0 : ¬ n = 0 := by omega
      clear hx t1 hbv hpn2
      cases bv
      · have HRF := Lib.hid (show res = false by
          cases hres : res
          · rfl
          · have := HFB.out.1 hres m (by rw [← HRR.out, ← HL.out]; exact hlt)
            rw [← HRR.out, ← HPP.out, ← HBV.out] at this
            cases this)
        go_wp2_with fail
        go_ret
        exact ⟨ret_b HRF.out.symm, HX0.out.trans HX.out⟩
      · go_wp2_with fail
        go_roundw
        case rel =>
          refine ⟨m + 1, ?_, ?_, ?_, Lib.hid (fun m' h' hl => ?_), HX.out⟩
          · rw [Nat.succ_mul]; have := HRR.out; go_num
          · rw [Nat.succ_mul]; have := HRR.out; omega
          · rw [← phase_step, ← HPP.out, ← HPN.out]
          · rcases (by omega : m' < m ∨ m' = m) with h1 | rfl
            · exact HAL.out m' h1 hl
            · rw [← HRR.out, ← HPP.out]; exact HBV.out.symm
        case measure => simp [intOf]; omega
    · have HRT := Lib.hid (show res = true from HFB.out.2 (fun m' hl => by
        by_cases hm : m' < m
        · exact HAL.out m' hm hl
        · have := Nat.mul_le_mul_right st (show m ≤ m' by omega)
          have := HRR.out
          have := HL.out
          omega))
      clear hx
      go_wp2_with fail
      go_ret
      exact ⟨ret_b HRT.out.symm, HX0.out.trans HX.out⟩
end
open Go.RowKit

section
variable (fits : List (List Bool)) (n st sum : Nat)
/-- The first shift that fits. -/
def nextS (r ph : Nat) : Option Nat := (List.range n).find? fun s => freeB fits n st sum r ((ph + s) % n)
def shfTo (first : Nat) : Nat → Option (List Int × Nat)
  | 0 => some ([], first)
  | k + 1 => match shfTo first k with
    | none => none
    | some (l, ph) => match nextS fits n st sum (k + 1) ph with
      | none => none
      | some s => some (l ++ [(s : Int)], (ph + s) % n)
def shiftsO (first : Nat) : Option (List Int) := match shfTo fits n st sum first (st - 1) with
  | none => none
  | some (l, ph) => if freeB fits n st sum 0 first = true then some (l ++ [(((first + sum + n - ph) % n : Nat) : Int)]) else none
end
section
variable {fits : List (List Bool)} {n st sum : Nat}
theorem nextS_some {r ph s : Nat} (h : nextS fits n st sum r ph = some s) : s < n ∧ freeB fits n st sum r ((ph + s) % n) = true := by
  unfold nextS at h
  exact ⟨List.mem_range.1 (List.mem_of_find?_eq_some h), List.find?_some (p := fun s => freeB fits n st sum r ((ph + s) % n)) h⟩
theorem nextS_is {r ph s : Nat} (hs : s < n) (h : freeB fits n st sum r ((ph + s) % n) = true) (h0 : ∀ s', s' < s → freeB fits n st sum r ((ph + s') % n) = false) : nextS fits n st sum r ph = some s := by
  unfold nextS
  rw [List.find?_eq_some_iff_getElem]
  refine ⟨h, s, by simpa using hs, by simp, fun j hj => ?_⟩
  simp only [List.getElem_range]
  rw [h0 j hj]
  rfl
theorem nextS_none {r ph : Nat} (h0 : ∀ s', s' < n → freeB fits n st sum r ((ph + s') % n) = false) : nextS fits n st sum r ph = none := by
  unfold nextS
  rw [List.find?_eq_none]
  intro s hs
  rw [h0 s (List.mem_range.1 hs)]
  decide
theorem shfTo_len {first : Nat} : ∀ {k : Nat} {l : List Int} {ph : Nat}, shfTo fits n st sum first k = some (l, ph) → l.length = k
  | 0, l, ph, h => by simp only [shfTo, Option.some.injEq, Prod.mk.injEq] at h; rw [← h.1]; rfl
  | k + 1, l, ph, h => by
    unfold shfTo at h
    split at h
    · cases h
    · rename_i l' ph' e
      split at h
      · cases h
      · rename_i s _
        simp only [Option.some.injEq, Prod.mk.injEq] at h
        rw [← h.1, List.length_append, shfTo_len e]
        rfl
theorem shfTo_stop {first : Nat} {k : Nat} (h : shfTo fits n st sum first k = none) : ∀ d, shfTo fits n st sum first (k + d) = none
  | 0 => h
  | d + 1 => by
    rw [← Nat.add_assoc, shfTo, shfTo_stop h d]
theorem shfTo_next {first : Nat} {k : Nat} {l : List Int} {ph s : Nat} (h : shfTo fits n st sum first k = some (l, ph)) (hs : nextS fits n st sum (k + 1) ph = some s) : shfTo fits n st sum first (k + 1) = some (l ++ [(s : Int)], (ph + s) % n) := by
  rw [shfTo, h]
  simp only [hs]
theorem shfTo_none {first : Nat} {k : Nat} {l : List Int} {ph : Nat} (h : shfTo fits n st sum first k = some (l, ph)) (hs : nextS fits n st sum (k + 1) ph = none) : shfTo fits n st sum first (k + 1) = none := by
  rw [shfTo, h]
  simp only [hs]
end
theorem int_table_ne : intK.ty ≠ 90 := by decide
def ShRet (w : World) (o : Option (List Int)) (e : Ending) (w' : World) : Prop := ∃ v, e = .returned (.tuple #[v, .bool o.isSome]) ∧ (∀ l, o = some l → intK.Own w.heap.size w' v l) ∧ (∃ A k c, v = .slice A k c) ∧ Ext w w'

set_option maxRecDepth 100000 in
set_option maxHeartbeats 8000000 in
theorem shifts_any (v : Value) (n : Nat) (fits : List (List Bool)) (st first sum : Nat) (w : World) (h : TableIs w v n fits) (hs : 1 ≤ st) (hs2 : st ≤ 12) (hf : first < n) (hsum : sum < n) :
    Calls Tryz.prog 39 #[tableV n v, .int .i64 (st : Int), .int .i64 (first : Int), .int .i64 (sum : Int)] w (ShRet w (shiftsO fits n st sum first)) := by
  have HFR := Lib.hid fun (r ph : Nat) (W : World) (x : Ext w W) (hr : r ≤ 12) (hp : ph < n) => free_any v n fits r st ph sum W (h.ext x) hs hs2 hr hp hsum
  have hn1 := h.n1
  have hn2 := h.n2
  obtain ⟨A, c, rfl, -⟩ := h.at_
  obtain ⟨L, hL⟩ : ∃ L, L = fits.length := ⟨_, rfl⟩
  rw [← hL] at HFR ⊢
  obtain ⟨res, hres⟩ : ∃ z, z = shiftsO fits n st sum first := ⟨_, rfl⟩
  rw [← hres]
  have HRES := Lib.hid hres
  have HB0 := Lib.hid (BoxAt.new w #[.int .i64 (n : Int), .slice A L c] 90)
  obtain ⟨i0, hi0, hz0⟩ := Option.map_eq_some_iff.1 intInfo
  simp only [Prod.mk.injEq] at hz0
  have hmk : ∀ W : World, (Instr.makeSlice 22 (.int .i64 0) (.int .i64 (st : Int))).run Tryz.prog W = .ok (.slice (some ⟨W.heap.size, 0, none⟩) 0 st) (W.alloc (.cells (madeCells #[.int .i64 0] st) 3)) := fun W => by
    have := run_make (P := Tryz.prog) W 22 3 i0 (.int .i64 0) Tryz.underlying22 hi0 hz0.1 .i64 .i64 0 (st : Int) (by omega) (by omega) (by rw [hz0.2.2]; omega) (by omega)
    simpa [hz0.2.1, Value.cells] using this
  clear h hL hres hi0 hz0
  go_enter Tryz.func39, Tryz.ntmps39
  go_wp2_with fail
  go_step3
  go_wp2_with fail
  refine lay_wp (fun W => BoxAt w.heap.size #[.int .i64 (n : Int), .slice A L c] 90 W ∧ intK.Own (w.heap.size + 1) W (.slice (some ⟨w.heap.size + 1, 0, none⟩) 0 st) [] ∧ Ext w W) ⟨HB0.out.ext ((Ext.refl _).alloc _), ?_, by (repeat' (first | with_reducible exact Ext.refl _ | with_reducible apply Ext.alloc | with_reducible apply Ext.drew | with_reducible apply Ext.drewN | with_reducible refine Ext.setCell ?_ ?_ _ | with_reducible apply Ext.step | with_reducible assumption | with_reducible exact Nat.le_refl _ | (simp; done) | (simp; omega)))⟩ ?_
  · have := intK_own.2 (OwnI.made (w.heap.size + 1) (w.alloc (.cells #[.int .i64 (n : Int), .slice A L c] 90)) st (by simp) (madeCells #[.int .i64 0] st) (by unfold maxLen; omega) (by simp [madeCells]))
    simpa using this
  rintro W0 ⟨b0, o0, x0⟩
  have HB := Lib.hid b0
  have HO0 := Lib.hid o0
  have HX0 := Lib.hid x0
  have HSZ := Lib.hid (show w.heap.size + 1 ≤ W0.heap.size from b0.lt)
  clear b0 o0 x0 HB0 hmk
  go_step3
  go_wp2_with fail
  go_loopw [12, 11, 10] (fun rv pv lv wr => ∃ (k ph : Nat) (l : List Int), k + 1 ≤ st ∧ rv = .int .i64 ((k + 1 : Nat) : Int) ∧ pv = .int .i64 (ph : Int) ∧ ph < n ∧ Hid (shfTo fits n st sum first k = some (l, ph)) ∧ intK.Own (w.heap.size + 1) wr lv l ∧ BoxAt w.heap.size #[.int .i64 (n : Int), .slice A L c] 90 wr ∧ Ext w wr) (fun rv _ _ _ => st - (intOf rv).toNat)
  case atStart => exact ⟨0, first, [], by omega, rfl, rfl, hf, Lib.hid rfl, HO0.out, HB.out, HX0.out⟩
  case round =>
    obtain ⟨k, ph, l, hk, rfl, rfl, hph, HSH, ho, hb, hx⟩ := hrel
    have HOK := Lib.hid ho
    have HBK := Lib.hid hb
    have HXK := Lib.hid hx
    obtain ⟨r, hr⟩ : ∃ r, r = k + 1 := ⟨_, rfl⟩
    rw [← hr] at hk ⊢
    have HR := Lib.hid hr
    have hr1 : 1 ≤ r := by omega
    clear hr
    obtain ⟨Av, kv, cv, rfl⟩ := ho.shape
    by_cases hlt : r < st
    · have hri : (r : Int) < (st : Int) := by omega
      have q0 := hb.cell (i := 0) rfl
      have q1 := hb.cell (i := 1) rfl
      have lq := cell_lt q0
      clear ho hb hx
      go_wp2_with fail
      clear q0 q1 lq
      go_loopw [25, 10, 11] (fun sv lv pv wr => ∃ s : Nat, s ≤ n ∧ sv = .int .i64 (s : Int) ∧ lv = .slice Av kv cv ∧ pv = .int .i64 (ph : Int) ∧ Hid (∀ s', s' < s → freeB fits n st sum r ((ph + s') % n) = false) ∧ intK.Own (w.heap.size + 1) wr (.slice Av kv cv) l ∧ BoxAt w.heap.size #[.int .i64 (n : Int), .slice A L c] 90 wr ∧ Ext w wr) (fun sv _ _ _ => n - (intOf sv).toNat)
      case atStart => exact ⟨0, by omega, rfl, rfl, rfl, Lib.hid (fun s' h => absurd h (by omega)), HOK.out, HBK.out, HXK.out⟩
      case round =>
        obtain ⟨s, hs', rfl, rfl, rfl, HNO, ho, hb, hx⟩ := hrel
        have HOS := Lib.hid ho
        have HBS := Lib.hid hb
        have HXS := Lib.hid hx
        by_cases hsl : s < n
        · have hsi : (s : Int) < (n : Int) := by omega
          have q0 := hb.cell (i := 0) rfl
          have q1 := hb.cell (i := 1) rfl
          have lq := cell_lt q0
          obtain ⟨pn, hpn⟩ : ∃ z, z = (ph + s) % n := ⟨_, rfl⟩
          have hpl : pn < n := by rw [hpn]; exact Nat.mod_lt _ (by omega)
          have e1 : ((ph : Int) + (s : Int)).tmod (n : Int) = (pn : Int) := by
            rw [show (ph : Int) + (s : Int) = ((ph + s : Nat) : Int) by simp, Int.tmod_eq_emod_of_nonneg (by omega), hpn]
            exact (Int.natCast_emod _ _).symm
          have e2 : ((ph : Int) + (s : Int)) % (n : Int) = (pn : Int) := by
            rw [show (ph : Int) + (s : Int) = ((ph + s : Nat) : Int) by simp, hpn]
            exact (Int.natCast_emod _ _).symm
          have hn0 : ¬ n = 0 := by omega
          have HPN := Lib.hid hpn
          obtain ⟨fb, hfb⟩ : ∃ z, z = freeB fits n st sum r pn := ⟨_, rfl⟩
          have HFB := Lib.hid hfb
          have HFC := Lib.hid (HFR.out r pn wr hx (by omega) hpl)
          rw [← hfb] at HFC
          clear ho hb hx hpn hfb
          go_wp2_with fail
          refine HFC.out.mono ?_
          rintro e W4 ⟨rfl, x4⟩
          have HO4 := Lib.hid (HOS.out.ext x4)
          have HB4 := Lib.hid (HBS.out.ext x4)
          have HX4 := Lib.hid (HXS.out.trans x4)
          clear x4 q0 q1 lq
          cases fb
          · go_wp2_with fail
            go_roundw
            case rel =>
              refine ⟨s + 1, by omega, by go_num, rfl, rfl, Lib.hid (fun s' h => ?_), HO4.out, HB4.out, HX4.out⟩
              rcases (by omega : s' < s ∨ s' = s) with h1 | rfl
              · exact HNO.out s' h1
              · rw [← HPN.out]; exact HFB.out.symm
            case measure => simp [intOf]; omega
          · have HNX := Lib.hid (shfTo_next HSH.out (s := s) (by rw [← HR.out]; exact nextS_is hsl (by rw [← HPN.out]; exact HFB.out.symm) HNO.out))
            rw [← HPN.out, ← HR.out] at HNX
            have HLN := Lib.hid (shfTo_len HSH.out)
            go_wp2_with (at_builtin; refine EK.app (K := intK) (B := w.heap.size + 1) rfl (.tmp 40) (.tmp 42) rfl W4.heap.size 1 (s : Int) rfl rfl (fun ii u hu => cell_new hu) (HO4.out.ext ((Ext.refl _).alloc _)) (Nat.le_trans HB4.out.lt ((Ext.refl _).alloc _).bel.size) (by have := HLN.out; have := HR.out; omega) ?_; intro v' w3 o3 b3 g3; obtain ⟨Av3, kv3, cv3, rfl⟩ := o3.shape; have HO3 := Lib.hid o3; have HB3 := Lib.hid b3; have HBX := Lib.hid ((HB4.out.ext ((Ext.refl _).alloc _)).grown (HO4.out.ext ((Ext.refl _).alloc _)) int_table_ne g3); clear o3 b3 g3)
            go_roundw
            case rel =>
              have h1 := (HX4.out.alloc (.cells #[.int .i64 (s : Int)] 3)).below (HB3.out.mono (Nat.le_succ _)) (Nat.le_refl _)
              exact ⟨r, pn, _, by omega, by go_num, rfl, by omega, HNX, HO3.out, HBX.out, h1⟩
            case measure => simp [intOf]; omega
        · obtain rfl : n = s := by omega
          have HNN := Lib.hid (show res = none by
            rw [HRES.out, shiftsO]
            have h1 := shfTo_none HSH.out (by rw [← HR.out]; exact nextS_none HNO.out)
            rw [← HR.out] at h1
            have h2 := shfTo_stop h1 (st - 1 - r)
            rw [show r + (st - 1 - r) = st - 1 by omega] at h2
            rw [h2])
          clear ho hb hx
          go_wp2_with fail
          rw [Exit.noGoto_ret]
          go_ret2
          refine ⟨.slice none 0 0, by rw [HNN.out]; rfl, fun l h => ?_, ⟨_, _, _, rfl⟩, HXS.out⟩
          rw [HNN.out] at h
          cases h
    · obtain rfl : st = r := by omega
      have HLN := Lib.hid (shfTo_len HSH.out)
      obtain ⟨z, hz⟩ : ∃ z, z = (first + sum + n - ph) % n := ⟨_, rfl⟩
      obtain ⟨fb, hfb⟩ : ∃ b, b = freeB fits n st sum 0 first := ⟨_, rfl⟩
      have HST := Lib.hid (show res = if fb = true then some (l ++ [(z : Int)]) else none by
        rw [HRES.out, shiftsO, show st - 1 = k by have := HR.out; omega, HSH.out, hfb, hz])
      have HF0 := Lib.hid fun (W : World) (x : Ext w W) => (show Calls Tryz.prog 66 #[.agg #[.int .i64 (n : Int), .slice A L c], .int .i64 0, .int .i64 (st : Int), .int .i64 (first : Int), .int .i64 (sum : Int)] W fun e w' => e = .returned (.bool fb) ∧ Ext W w' from by
        have := HFR.out 0 first W x (by omega) hf
        rwa [← hfb] at this)
      have e1 : ((first : Int) + (sum : Int) - (ph : Int) + (n : Int)).tmod (n : Int) = (z : Int) := by
        rw [show (first : Int) + (sum : Int) - (ph : Int) + (n : Int) = ((first + sum + n - ph : Nat) : Int) by omega, Int.tmod_eq_emod_of_nonneg (by omega), hz]
        exact (Int.natCast_emod _ _).symm
      have e2 : ((first : Int) + (sum : Int) - (ph : Int) + (n : Int)) % (n : Int) = (z : Int) := by
        rw [show (first : Int) + (sum : Int) - (ph : Int) + (n : Int) = ((first + sum + n - ph : Nat) : Int) by omega, hz]
        exact (Int.natCast_emod _ _).symm
      have e0 : IntKind.i64.wrap ((first : Int) + (sum : Int)) = (first : Int) + (sum : Int) := IntWalk.i64_in _ (by omega)
      have e3 : IntKind.i64.wrap ((first : Int) + (sum : Int) - (ph : Int)) = (first : Int) + (sum : Int) - (ph : Int) := IntWalk.i64_in _ (by omega)
      have e4 : IntKind.i64.wrap ((first : Int) + (sum : Int) - (ph : Int) + (n : Int)) = (first : Int) + (sum : Int) - (ph : Int) + (n : Int) := IntWalk.i64_in _ (by omega)
      have hn0 : ¬ n = 0 := by omega
      have q0 := hb.cell (i := 0) rfl
      have q1 := hb.cell (i := 1) rfl
      have HD := Lib.hid (fun d (hd : d ∈ (Value.slice Av kv cv).ownBlock.toList) => (show w.heap.size + 1 ≤ d from (HOK.out.lt d (by simpa using hd)).1))
      have hnd : w.heap.size ∉ (Value.slice Av kv cv).ownBlock.toList := fun h => by have := HD.out _ h; omega
      have y0 := But.cells (D := (Value.slice Av kv cv).ownBlock.toList) q0 hnd
      have y1 := But.cells (D := (Value.slice Av kv cv).ownBlock.toList) q1 hnd
      clear ho hb hx hz hfb q0 q1 hnd
      go_wp2_with fail
      refine (wpIn_wide (n := 3)).1 ?_
      refine wpIn_region_steps (Value.slice Av kv cv).ownBlock.toList 19 [(0, true), (1, true), (2, true), (3, true), (4, true), (5, true), (6, true), (7, true), (8, true), (9, true), (10, true), (11, true), (14, true), (15, true), (16, true), (17, true), (12, false), (13, false), (18, true)] (by kernel_rfl) (by kernel_rfl) ?_
      iterate 16 (refine wpSD_q (by rfl) (fun _ _ _ => trivial) (fun K hK => ?_); go_simp; refine hK _ ?_; clear hK K)
      refine wpSD_m (by rfl) (fun _ _ _ => trivial) (fun δ K hK => ?_)
      go_simp
      refine ⟨((Ext.refl _).alloc _).but, hK _ _ ?_⟩
      clear hK K
      have Xd : Ext wr δ.wd := ⟨δ, rfl⟩
      refine EK.app_s (K := intK) (B := w.heap.size + 1) (v := .slice Av kv cv) (by rfl) rfl (.tmp 46) (.tmp 58) rfl δ.wd.heap.size 1 (z : Int) rfl rfl (fun ii u hu => cell_new hu) (HOK.out.ext (Xd.alloc _)) (Nat.le_trans HBK.out.lt (Xd.alloc _).bel.size) (by have := HLN.out; have := HR.out; omega) ?_
      intro v' w3 w4 o3 x3 g3
      obtain ⟨Av3, kv3, cv3, rfl⟩ := o3.shape
      have X3 := (Xd.alloc _).trans x3
      have HX4 := Lib.hid (show Ext w w4 from (HXK.out.trans X3).below ((Below.refl w.heap.size w3).grown g3 (HXK.out.trans X3).bel.size (fun r e => Nat.le_of_succ_le ((HOK.out.ext X3).lt r e).1)) (Nat.le_refl _))
      refine wpSD_q (by rfl) (fun _ _ _ => trivial) (fun K hK => ?_)
      go_simp
      refine ⟨.bool fb, fun δ => callsIn_wide.2 (HF0.out δ.wd (δ.but.below HX4.out (fun d hd => Nat.le_of_succ_le (HD.out d hd)))), hK _ ?_⟩
      clear hK K
      refine wpSD_nil ?_
      intro w5 x5
      have HX5 := Lib.hid (HX4.out.trans x5)
      have HO5 := Lib.hid (o3.ext x5)
      clear o3 x3 g3 x5 X3 Xd y0 y1
      simp only [List.drop_succ_cons, List.drop_zero]
      gi_wp2
      go_wp2_with fail
      rw [Exit.noGoto_ret]
      go_ret2
      cases fb
      · refine ⟨_, by rw [HST.out]; rfl, fun l h => ?_, ⟨_, _, _, rfl⟩, HX5.out⟩
        rw [HST.out] at h
        cases h
      · refine ⟨.slice Av3 kv3 cv3, by rw [HST.out]; rfl, fun l h => ?_, ⟨_, _, _, rfl⟩, HX5.out⟩
        rw [HST.out, if_pos rfl] at h
        cases h
        exact HO5.out.mono (Nat.le_succ _)
end Go.Proofs.YtkjgcmdabelohaaGreat
