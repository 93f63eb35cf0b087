/- RosetteTurns: the law's walk. Condition: slices read as lists. -/
import Derived.Test.YtaaceadcnnfngaaRTurns2
namespace Go.Proofs.Ytaaceadcnnfngaa
open Go.RowKit

def greatB (xs ys : List Int) : Bool := decide (120 < xs.length) || decide (120 < ys.length)

set_option maxRecDepth 100000 in
set_option maxHeartbeats 1000000 in
theorem great2_any (b c : Nat) (u v : Value) (xs ys : List Int) (w : World) (h0 : w.cell? ⟨b, 0, none⟩ = some u) (h1 : w.cell? ⟨b, 1, none⟩ = some v) (hu : IsI w u xs) (hv : IsI w v ys) :
    Calls Try.prog 18 #[.slice (some ⟨b, 0, none⟩) 2 c] w fun e w' => e = .returned (.bool (greatB xs ys)) ∧ w = w' := by
  have HU := Lib.hid (Great_any u xs w hu)
  have HV := Lib.hid (Great_any v ys w hv)
  have HG := Lib.hid (show greatB xs ys = (decide (120 < xs.length) || decide (120 < ys.length)) from rfl)
  generalize decide (120 < xs.length) = p at *
  generalize decide (120 < ys.length) = q at *
  clear hu hv
  cases p
  · cases q
    all_goals
      go_enter Try.func18, Try.ntmps18
      go_wp2_with fail
      refine wp_loop_rounds 3 ?_
      rw [rounds_succ]
      go_wp2_with fail
      refine HU.out.mono ?_
      rintro e _ ⟨rfl, rfl⟩
      go_wp2_with fail
      rw [rounds_succ]
      go_wp2_with fail
      refine HV.out.mono ?_
      rintro e _ ⟨rfl, rfl⟩
      go_wp2_with fail
    · rw [rounds_succ]
      go_wp2_with fail
      go_ret
      exact ⟨by rw [HG.out] <;> rfl, rfl⟩
    · go_ret
      exact ⟨by rw [HG.out] <;> rfl, rfl⟩
  · go_enter Try.func18, Try.ntmps18
    go_wp2_with fail
    refine wp_loop_rounds 3 ?_
    rw [rounds_succ]
    go_wp2_with fail
    refine HU.out.mono ?_
    rintro e _ ⟨rfl, rfl⟩
    go_wp2_with fail
    go_ret
    exact ⟨by rw [HG.out] <;> rfl, rfl⟩

theorem OwnI.slot {B : Nat} {w : World} {v : Value} {zs : List Int} (h : OwnI B w v zs) {k : Nat} (hk : k < zs.length) :
    ∃ g c, v = .slice (some ⟨g, 0, none⟩) zs.length c ∧ B ≤ g ∧ w.cell? ⟨g, k, none⟩ = some (.int .i64 (zs[k]?.getD 0)) ∧ w.frozen? ⟨g, k, none⟩ = false ∧
      ∀ y, OwnI B (w.setCell ⟨g, k, none⟩ (.int .i64 y)) v (zs.set k y) := by
  have h' := h
  rcases h'.2 with ⟨rfl, h0⟩ | ⟨g, cap, cur, rfl, hb, hg, hn, hm, hs, ht⟩
  · omega
  · refine ⟨g, cap, rfl, hb, ?_, World.ownsRow.frozenAt h _, fun y => ?_⟩
    · have := World.ownsRow.cells h (g := g) rfl k (.int .i64 (zs[k]?.getD 0)) (by simp [List.getElem?_eq_getElem hk])
      simp only [Addr.add] at this
      split at this
      · rename_i h; subst h; exact this
      · simpa using this
    · have := (World.ownsRow.stored h k (.int .i64 y)).1
      simpa [OwnI, List.map_set] using this

theorem grow_refl (w : World) (row : Option Nat) : w.grownBy w row := ⟨rfl, rfl, rfl, Nat.le_refl _, fun _ _ _ => rfl⟩
theorem grow_trans {a b c : World} {row : Option Nat} (h : a.grownBy b row) (k : b.grownBy c row) : a.grownBy c row :=
  ⟨k.os.trans h.os, k.tape.trans h.tape, k.output.trans h.output, Nat.le_trans h.size k.size, fun i hi hne => (k.block i (Nat.lt_of_lt_of_le hi h.size) hne).trans (h.block i hi hne)⟩
theorem grow_below {B : Nat} {a b : World} {row : Option Nat} (h : a.grownBy b row) (hB : B ≤ a.heap.size) (hr : ∀ k, row = some k → B ≤ k) : Below B a b := (Below.refl B a).grown h hB hr

set_option maxRecDepth 100000 in
set_option maxHeartbeats 1000000 in
theorem erase_any (B : Nat) (v : Value) (zs : List Int) (w : World) (hv : OwnI B w v zs) :
    Calls Try.prog 32 #[v] w fun e w' => e = .returned (.tuple #[]) ∧ w.grownBy w' v.ownBlock := by
  obtain ⟨A, n, c, rfl, hc0, hr, hn⟩ := hv.isI.open_
  have HN := hr.len
  clear hr
  go_enter Try.func32, Try.ntmps32
  go_wp2
  go_loopw [5, 2] (fun i _ wr => ∃ (k : Nat) (ys : List Int), k ≤ n ∧ i = .int .i64 k ∧ Hid (ys.length = n) ∧ OwnI B wr (.slice A n c) ys ∧ w.grownBy wr (Value.slice A n c).ownBlock) (fun i _ _ => n - (intOf i).toNat)
  case atStart => exact ⟨0, zs, by omega, rfl, Lib.hid HN, hv, grow_refl _ _⟩
  case round =>
    obtain ⟨k, ys, hk, rfl, hl, hown, hb⟩ := hrel
    by_cases hlt : k < n
    · obtain ⟨g, c', he, hg, hc, hf, hs⟩ := hown.slot (k := k) (by rw [hl.out]; exact hlt)
      simp only [Value.slice.injEq] at he
      obtain ⟨rfl, _, rfl⟩ := he
      have HS := Lib.hid (hs (-7))
      have HL := Lib.hid hl.out
      clear hs hown
      go_wp2
      go_roundw
      case rel => exact ⟨k + 1, ys.set k (-7), by omega, by go_num, Lib.hid (by rw [List.length_set]; exact HL.out), HS.out, grow_trans hb ⟨rfl, rfl, rfl, by simp, fun i _ hi => heap_setCell_other wr ⟨g, k, none⟩ i _ (fun e => hi (by simp [Value.ownBlock, e]))⟩⟩
      case measure => simp [intOf]; omega
    · go_wp2
      go_end0
      exact ⟨rfl, hb⟩

theorem same_true {u v : Value} {xs : List Int} {w : World} (hu : IsI w u xs) (hv : IsI w v xs) : Calls Try.prog 31 #[u, v] w fun e w' => e = .returned (.bool true) ∧ Ext w w' := by
  have := lawSame_any u v xs xs w hu hv
  rwa [beq_self_eq_true] at this

set_option maxRecDepth 100000 in
set_option maxHeartbeats 4000000 in
theorem lawTurns_any (u v : Value) (xs ys : List Int) (x : Int) (w : World) (hu : IsI w u xs) (hv : IsI w v ys) :
    Calls Try.prog 4 #[u, v, .int .i64 x] w fun e w' => e = .returned (.bool true) ∧ Ext w w' := by
  have HU := Lib.hid hu
  have HV := Lib.hid hv
  obtain ⟨A, n, c, rfl, _⟩ := hu.open_
  obtain ⟨A', m, c', rfl, _⟩ := hv.open_
  clear hu hv
  go_enter Try.func4, Try.ntmps4
  go_wp2_with fail
  refine lay_calls (fun W => Ext w W ∧ W.cell? ⟨w.heap.size, 0, none⟩ = some (.slice A n c) ∧ W.cell? ⟨w.heap.size, 1, none⟩ = some (.slice A' m c')) ⟨by (repeat' (first | with_reducible exact Ext.refl _ | with_reducible apply Ext.alloc | with_reducible apply Ext.drew | with_reducible apply Ext.drewN | with_reducible refine Ext.setCell ?_ ?_ _ | with_reducible apply Ext.step | with_reducible assumption | with_reducible exact Nat.le_refl _ | (simp; done) | (simp; omega))), by go_cell, by go_cell⟩ ?_
  rintro w0 ⟨X0, h0, h1⟩
  have HX0 := Lib.hid X0
  refine (great2_any _ _ _ _ xs ys w0 h0 h1 (HU.out.ext X0) (HV.out.ext X0)).mono ?_
  rintro e _ ⟨rfl, rfl⟩
  clear h0 h1 X0
  cases hg : greatB xs ys
  rotate_left
  · go_wp2_with fail
    go_ret
    exact ⟨rfl, HX0.out⟩
  have hgl : xs.length ≤ 120 := by simp [greatB] at hg; omega
  have HGL := Lib.hid hgl
  clear hgl hg
  have HM := Lib.hid (OwnI.made w0.heap.size w0 0 (Nat.le_refl _) #[] (by decide) rfl)
  have HU0 := Lib.hid (HU.out.ext (HX0.out.alloc (.cells #[] 3)))
  have HB0 := Lib.hid (show w0.heap.size ≤ (w0.alloc (.cells #[] 3)).heap.size by simp)
  have HZ0 := Lib.hid (show ([] : List Int).length + xs.length ≤ 10000000000 by have := HGL.out; rw [List.length_nil]; omega)
  go_wp2_with (at_builtin; refine app_all rfl _ _ rfl rfl rfl HU0.out HM.out HB0.out HZ0.out ?_; intro v7 w7 o7 b7)
  have X7 := Lib.hid (show Ext w w7 from (HX0.out.alloc _).below b7 HX0.out.bel.size)
  have O7 := Lib.hid (show OwnI w0.heap.size w7 v7 xs by simpa using o7)
  clear o7 b7
  refine (Turned_any v7 xs x w7 O7.out.isI).mono ?_
  rintro e w8 ⟨v8, rfl, o8, x8⟩
  have O8 := Lib.hid o8
  have L8 := Lib.hid fun k h => (OwnI.lt o8 k h).2
  clear o8
  have X8 := Lib.hid (X7.out.trans x8)
  have E8 := Lib.hid (x8)
  clear x8
  go_wp2_with fail
  refine (refTurned_any _ xs x w8 (HU.out.ext X8.out)).mono ?_
  rintro e w9 ⟨v9, rfl, o9, x9⟩
  have x9le := Lib.hid x9.bel.size
  have O9 := Lib.hid o9
  clear o9
  have X9 := Lib.hid (X8.out.trans x9)
  have E9 := Lib.hid (E8.out.trans x9)
  have O8 := Lib.hid (O8.out.ext x9)
  clear x9
  go_wp2_with fail
  refine (Mirrored_any v7 xs w9 (O7.out.ext E9.out).isI).mono ?_
  rintro e w10 ⟨v10, rfl, o10, x10⟩
  have O10 := Lib.hid o10
  clear o10
  have X10 := Lib.hid (X9.out.trans x10)
  have E10 := Lib.hid (E9.out.trans x10)
  have O8 := Lib.hid (O8.out.ext x10)
  have O9 := Lib.hid (O9.out.ext x10)
  clear x10
  go_wp2_with fail
  refine (refMirrored_any _ xs w10 (HU.out.ext X10.out)).mono ?_
  rintro e w11 ⟨v11, rfl, o11, x11⟩
  have O11 := Lib.hid o11
  clear o11
  have X11 := Lib.hid (X10.out.trans x11)
  have E11 := Lib.hid (E10.out.trans x11)
  have O8 := Lib.hid (O8.out.ext x11)
  have O9 := Lib.hid (O9.out.ext x11)
  have O10 := Lib.hid (O10.out.ext x11)
  clear x11
  go_wp2_with fail
  refine (Period_any v7 xs w11 (O7.out.ext E11.out).isI).mono ?_
  rintro e w12 ⟨rfl, x12⟩
  have X12 := Lib.hid (X11.out.trans x12)
  have E12 := Lib.hid (E11.out.trans x12)
  have O8 := Lib.hid (O8.out.ext x12)
  have O9 := Lib.hid (O9.out.ext x12)
  have O10 := Lib.hid (O10.out.ext x12)
  have O11 := Lib.hid (O11.out.ext x12)
  clear x12
  go_wp2_with fail
  refine (refPeriod_any _ xs w12 (HU.out.ext X12.out)).mono ?_
  rintro e w13 ⟨rfl, x13⟩
  have X13 := Lib.hid (X12.out.trans x13)
  have E13 := Lib.hid (E12.out.trans x13)
  have O8 := Lib.hid (O8.out.ext x13)
  have O9 := Lib.hid (O9.out.ext x13)
  have O10 := Lib.hid (O10.out.ext x13)
  have O11 := Lib.hid (O11.out.ext x13)
  clear x13
  go_wp2_with fail
  refine (Axes_any v7 xs w13 (O7.out.ext E13.out).isI).mono ?_
  rintro e w14 ⟨v14, rfl, o14, x14⟩
  have O14 := Lib.hid o14
  clear o14
  have X14 := Lib.hid (X13.out.trans x14)
  have E14 := Lib.hid (E13.out.trans x14)
  have O8 := Lib.hid (O8.out.ext x14)
  have O9 := Lib.hid (O9.out.ext x14)
  have O10 := Lib.hid (O10.out.ext x14)
  have O11 := Lib.hid (O11.out.ext x14)
  clear x14
  go_wp2_with fail
  refine (refAxes_any _ xs w14 (HU.out.ext X14.out)).mono ?_
  rintro e w15 ⟨v15, rfl, o15, x15⟩
  have O15 := Lib.hid o15
  clear o15
  have X15 := Lib.hid (X14.out.trans x15)
  have E15 := Lib.hid (E14.out.trans x15)
  have O8 := Lib.hid (O8.out.ext x15)
  have O9 := Lib.hid (O9.out.ext x15)
  have O10 := Lib.hid (O10.out.ext x15)
  have O11 := Lib.hid (O11.out.ext x15)
  have O14 := Lib.hid (O14.out.ext x15)
  clear x15
  go_wp2_with fail
  refine (Match_any v7 _ xs ys w15 (O7.out.ext E15.out).isI (HV.out.ext X15.out)).mono ?_
  rintro e w16 ⟨rfl, x16⟩
  have X16 := Lib.hid (X15.out.trans x16)
  have E16 := Lib.hid (E15.out.trans x16)
  have O8 := Lib.hid (O8.out.ext x16)
  have O9 := Lib.hid (O9.out.ext x16)
  have O10 := Lib.hid (O10.out.ext x16)
  have O11 := Lib.hid (O11.out.ext x16)
  have O14 := Lib.hid (O14.out.ext x16)
  have O15 := Lib.hid (O15.out.ext x16)
  clear x16
  go_wp2_with fail
  refine (refMatch_any _ _ xs ys w16 (HU.out.ext X16.out) (HV.out.ext X16.out)).mono ?_
  rintro e w17 ⟨rfl, x17⟩
  have X17 := Lib.hid (X16.out.trans x17)
  have E17 := Lib.hid (E16.out.trans x17)
  have O8 := Lib.hid (O8.out.ext x17)
  have O9 := Lib.hid (O9.out.ext x17)
  have O10 := Lib.hid (O10.out.ext x17)
  have O11 := Lib.hid (O11.out.ext x17)
  have O14 := Lib.hid (O14.out.ext x17)
  have O15 := Lib.hid (O15.out.ext x17)
  clear x17
  go_wp2_with fail
  refine (same_true O8.out.isI O9.out.isI).mono ?_
  rintro e w18 ⟨rfl, x18⟩
  have X18 := Lib.hid (X17.out.trans x18)
  have E18 := Lib.hid (E17.out.trans x18)
  have O8 := Lib.hid (O8.out.ext x18)
  have O9 := Lib.hid (O9.out.ext x18)
  have O10 := Lib.hid (O10.out.ext x18)
  have O11 := Lib.hid (O11.out.ext x18)
  have O14 := Lib.hid (O14.out.ext x18)
  have O15 := Lib.hid (O15.out.ext x18)
  clear x18
  go_wp2_with fail
  refine (same_true O10.out.isI O11.out.isI).mono ?_
  rintro e w19 ⟨rfl, x19⟩
  have X19 := Lib.hid (X18.out.trans x19)
  have E19 := Lib.hid (E18.out.trans x19)
  have O8 := Lib.hid (O8.out.ext x19)
  have O9 := Lib.hid (O9.out.ext x19)
  have O10 := Lib.hid (O10.out.ext x19)
  have O11 := Lib.hid (O11.out.ext x19)
  have O14 := Lib.hid (O14.out.ext x19)
  have O15 := Lib.hid (O15.out.ext x19)
  clear x19
  go_wp2_with fail
  refine (same_true O14.out.isI O15.out.isI).mono ?_
  rintro e w20 ⟨rfl, x20⟩
  have X20 := Lib.hid (X19.out.trans x20)
  have E20 := Lib.hid (E19.out.trans x20)
  have O8 := Lib.hid (O8.out.ext x20)
  have O9 := Lib.hid (O9.out.ext x20)
  have O10 := Lib.hid (O10.out.ext x20)
  have O11 := Lib.hid (O11.out.ext x20)
  have O14 := Lib.hid (O14.out.ext x20)
  have O15 := Lib.hid (O15.out.ext x20)
  clear x20
  go_wp2_with fail
  refine (erase_any _ v8 _ w20 O8.out).mono ?_
  rintro e w21 ⟨rfl, g21⟩
  have hB7 := E20.out.bel.size
  have b21 := grow_below g21 hB7 (fun k h => (OwnI.lt O8.out k h).1)
  have X21 := Lib.hid (X20.out.below b21 X7.out.bel.size)
  have E21 := Lib.hid (E20.out.below b21 (Nat.le_refl _))
  have hne : v10.ownBlock = none ∨ v10.ownBlock ≠ v8.ownBlock := by
    rcases h10 : v10.ownBlock with _ | k
    · exact .inl rfl
    · refine .inr fun e8 => ?_
      have h1 := (OwnI.lt O10.out k h10).1
      have h2 := L8.out k e8.symm
      have h3 := x9le.out
      omega
  have O10 := Lib.hid (show OwnI w9.heap.size w21 v10 (mirroredL xs) from World.ownsRow.kept O10.out g21 hne)
  clear hne b21 g21 hB7
  go_wp2_with fail
  refine (erase_any _ v10 _ w21 O10.out).mono ?_
  rintro e w22 ⟨rfl, g22⟩
  have hB9 : w7.heap.size ≤ w21.heap.size := E21.out.bel.size
  have b22 := grow_below g22 hB9 (fun k h => Nat.le_trans E9.out.bel.size (OwnI.lt O10.out k h).1)
  have X22 := Lib.hid (X21.out.below b22 X7.out.bel.size)
  have E22 := Lib.hid (E21.out.below b22 (Nat.le_refl _))
  clear b22 g22 hB9
  go_wp2_with fail
  refine (same_true (O7.out.ext E22.out).isI (HU.out.ext X22.out)).mono ?_
  rintro e w23 ⟨rfl, x23⟩
  have X23 := Lib.hid (X22.out.trans x23)
  clear x23
  go_wp2_with fail
  go_ret
  exact ⟨rfl, X23.out⟩

theorem lawTurns_row (u : Value) (xs : List Int) (v : Value) (ys : List Int) (x : Int) (w : World) (hu : IsI w u xs) (hv : IsI w v ys) :
    Calls Try.prog 4 #[u, v, .int .i64 x] w fun e w' => e = .returned (.bool true) ∧ Ext w w' := lawTurns_any u v xs ys x w hu hv
end Go.Proofs.Ytaaceadcnnfngaa
