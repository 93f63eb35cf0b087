/- barleycorntop.hidden. Condition: the word reads as a list. -/
import Derived.Test.YtkjgcmdabelohaaTMaskW
import Derived.Test.YtkjgcmdabelohaaLLat
namespace Go.Proofs.Ytkjgcmdabelohaa
open Go.RowKit

def msgL (ws : List Int) (size cols : Int) : List Bool := (maskT ws size cols).flatten
def hidB (ws : List Int) (size cols ya yb na nb : Int) : Bool := decide (maskE ws size cols = 0) && decide (latE (msgL ws size cols) ya yb na nb = 0)
theorem flatten_take {α : Type} {xss : List (List α)} {i : Nat} (h : i < xss.length) : (xss.take (i + 1)).flatten = (xss.take i).flatten ++ xss[i] := by
  rw [List.take_succ_eq_append_getElem h, List.flatten_append]
  simp
theorem maskT_rows {ws : List Int} {size cols : Int} : ∀ l ∈ maskT ws size cols, l.length ≤ 40 := by
  intro l hl
  unfold maskT at hl
  split at hl
  · rename_i he
    rw [List.mem_map] at hl
    obtain ⟨r, -, rfl⟩ := hl
    rw [maskR_len]
    unfold maskE at he
    split at he
    · exact absurd he (by decide)
    · split at he
      · rename_i h
        rw [Bool.and_eq_true] at h
        have := inB_iff.1 h.2
        omega
      · exact absurd he (by decide)
  · cases hl
theorem maskT_len {ws : List Int} {size cols : Int} : (maskT ws size cols).length ≤ 5 := by
  unfold maskT
  split <;> simp
theorem flat_bound {xss : List (List Bool)} (h : ∀ l ∈ xss, l.length ≤ 40) : xss.flatten.length ≤ 40 * xss.length := by
  induction xss with
  | nil => simp
  | cons x xs ih =>
    have := ih fun l hl => h l (List.mem_cons_of_mem _ hl)
    have := h x (List.mem_cons_self ..)
    simp only [List.flatten_cons, List.length_append, List.length_cons]
    omega
def HidRet (w : World) (ts : List (Int × Int)) (ms : List Bool) (b : Bool) (e : Ending) (w' : World) : Prop := ∃ tv mv, e = .returned (.tuple #[tv, mv, .bool b]) ∧ tiltK.Own w.heap.size w' tv ts ∧ boolK.Own w.heap.size w' mv ms ∧ Ext w w'

set_option maxRecDepth 100000 in
set_option maxHeartbeats 4000000 in
theorem hidden_any (u : Value) (ws : List Int) (size cols ya yb na nb : Int) (w : World) (hu : intK.Is w u ws) :
    Calls Try.prog 13 #[u, .int .i64 size, .int .i64 cols, tiltV ya yb, tiltV na nb] w (HidRet w (latL (msgL ws size cols) ya yb na nb) (msgL ws size cols) (hidB ws size cols ya yb na nb)) := by
  have HM := Lib.hid fun (W : World) (x : Ext w W) => mask_any u ws size cols W (hu.ext x)
  have HLT := Lib.hid fun (v : Value) (ms : List Bool) (W : World) (h : boolK.Is W v ms) => Latent_any v ms ya yb na nb W h
  obtain ⟨A, n, c, rfl, -, -, -, -⟩ := hu.open_
  go_enter Try.func13, Try.ntmps13
  go_wp2_with fail
  have hw0 : w.heap.size ≤ ((w.alloc (.cells #[.int .i64 ya, .int .i64 yb] 41)).alloc (.cells #[.int .i64 na, .int .i64 nb] 41)).heap.size := by simp; omega
  refine lay_calls (fun W => Ext w W ∧ BoxAt w.heap.size #[.int .i64 ya, .int .i64 yb] 41 W ∧ BoxAt (w.heap.size + 1) #[.int .i64 na, .int .i64 nb] 41 W) ⟨by (repeat' (first | with_reducible exact Ext.refl _ | with_reducible apply Ext.alloc | with_reducible apply Ext.drew | with_reducible apply Ext.drewN | with_reducible refine Ext.setCell ?_ ?_ _ | with_reducible apply Ext.step | with_reducible assumption | with_reducible exact Nat.le_refl _ | (simp; done) | (simp; omega))), (BoxAt.new w _ _).ext ((Ext.refl _).alloc _), by
    have := BoxAt.new (w.alloc (.cells #[.int .i64 ya, .int .i64 yb] 41)) #[.int .i64 na, .int .i64 nb] 41
    simpa using this⟩ ?_
  rintro W0 ⟨x0, b0, b1⟩
  refine (HM.out _ x0).mono ?_
  rintro e W1 ⟨v1, Ts, rfl, tab, x1⟩
  have HB0 := Lib.hid (b0.ext x1)
  have HB1 := Lib.hid (b1.ext x1)
  have HX1 := Lib.hid (x0.trans x1)
  have HTB := Lib.hid tab
  obtain ⟨A1, n1, c1, rfl⟩ := tab.own.shape
  have HLT5 := Lib.hid (maskT_len (ws := ws) (size := size) (cols := cols))
  have HROWS := Lib.hid (maskT_rows (ws := ws) (size := size) (cols := cols))
  have hn1 : n1 = (maskT ws size cols).length := by
    obtain ⟨_, _, he, _⟩ := tab.own.is
    simp only [Value.slice.injEq] at he
    rw [he.2.1, tab.len]
  have HN1 := Lib.hid hn1
  have hn5 : n1 ≤ 5 := by rw [hn1]; exact HLT5.out
  clear hw0 x0 b0 b1 tab x1 hn1
  go_wp2_with fail
  go_loopw [15, 29] (fun mv iv W => ∃ i : Nat, i ≤ n1 ∧ iv = .int .i64 (i : Int) ∧ boolK.Own W1.heap.size W mv ((maskT ws size cols).take i).flatten ∧ Ext W1 W) (fun _ iv _ => n1 - (intOf iv).toNat)
  case atStart => exact ⟨0, by omega, rfl, EK.Own.nil _ _, Ext.refl _⟩
  case round =>
    obtain ⟨i, hi, rfl, ho, hx⟩ := hrel
    have HO := Lib.hid ho
    have HXI := Lib.hid hx
    by_cases hlt : i < n1
    · have hi1 : i < (maskT ws size cols).length := by rw [← HN1.out]; exact hlt
      have hiT : i < Ts.length := by rw [HTB.out.len]; exact hi1
      have hii : (i : Int) < (n1 : Int) := by omega
      obtain ⟨g, c', he, -, -, hcl, -⟩ := HTB.out.own.slot hiT
      simp only [Value.slice.injEq] at he
      obtain ⟨rfl, -, rfl⟩ := he
      have r0 : W1.cell? ⟨g, i, none⟩ = some (rowH Ts[i]) := by have h3 := hcl 0 _ rfl; rw [show rowsK.k = 1 from rfl, Nat.mul_one, Nat.add_zero] at h3; exact h3
      replace r0 := hx.cell_some r0
      have HRI := Lib.hid ((HTB.out.row i hiT hi1).is.ext hx)
      have HST := Lib.hid (flatten_take hi1)
      have HLE := Lib.hid (show ((maskT ws size cols).take i).flatten.length + (maskT ws size cols)[i].length ≤ 1000000000 by
        have h1 := flat_bound (xss := (maskT ws size cols).take i) (fun l hl => HROWS.out l (List.mem_of_mem_take hl))
        have h2 := HROWS.out _ (List.getElem_mem hi1)
        simp only [List.length_take] at h1
        omega)
      obtain ⟨T, hT⟩ : ∃ T, T = Ts[i] := ⟨_, rfl⟩
      rw [← hT] at r0 HRI
      obtain ⟨T1, T2, T3⟩ := T
      simp only [rowH] at r0 HRI
      have lr0 := cell_lt r0
      have hsz := hx.bel.size
      obtain ⟨Ao, ko, co, rfl⟩ := ho.shape
      clear ho hx hcl hT
      go_wp2_with (at_builtin; refine EK.appAll (K := boolK) (B := W1.heap.size) (xs := ((maskT ws size cols).take i).flatten) rfl (.tmp 33) (.tmp 34) rfl rfl rfl HRI.out HO.out hsz HLE.out ?_; intro v' w3 o3 b3 g3; have HO3 := Lib.hid o3; have HX3 := Lib.hid (HXI.out.below b3 (Nat.le_refl _)); clear o3 b3 g3)
      go_roundw
      case rel => exact ⟨i + 1, by omega, by go_num, by rw [HST.out]; exact HO3.out, HX3.out⟩
      case measure => simp [intOf]; omega
    · have HT := Lib.hid (show ((maskT ws size cols).take i).flatten = msgL ws size cols by rw [List.take_of_length_le (by rw [← HN1.out]; omega)]; rfl)
      have hii : ¬ (i : Int) < (n1 : Int) := by omega
      obtain ⟨Ao, ko, co, rfl⟩ := ho.shape
      have HOM := Lib.hid (show boolK.Own W1.heap.size wr (.slice Ao ko co) (msgL ws size cols) by rw [← HT.out]; exact ho)
      have hb0 := HB0.out.ext hx
      have hb1 := HB1.out.ext hx
      have q0 := hb0.cell (i := 0) rfl
      have q1 := hb0.cell (i := 1) rfl
      have q2 := hb1.cell (i := 0) rfl
      have q3 := hb1.cell (i := 1) rfl
      have lq := cell_lt q0
      have lq2 := cell_lt q2
      clear ho hx hb0 hb1 hlt
      go_wp2_with fail
      refine (HLT.out _ _ _ HOM.out.is).mono ?_
      rintro e W2 ⟨tv, rfl, o2, x2⟩
      obtain ⟨At, kt, ct, rfl⟩ := o2.shape
      have HO2 := Lib.hid o2
      have HOM2 := Lib.hid (HOM.out.ext x2)
      have HX2 := Lib.hid (HX1.out.trans (HXI.out.trans x2))
      have HWX := Lib.hid (HX1.out.trans HXI.out).bel.size
      clear q0 q1 q2 q3 lq lq2 o2 x2
      have hko : ko = (msgL ws size cols).length := by
        obtain ⟨_, _, he, _⟩ := HOM.out.is
        simp only [Value.slice.injEq] at he
        exact he.2.1
      have hkt : kt = (latL (msgL ws size cols) ya yb na nb).length := by
        obtain ⟨_, _, he, _⟩ := HO2.out.is
        simp only [Value.slice.injEq] at he
        exact he.2.1
      by_cases hm0 : maskE ws size cols = 0
      · by_cases hl0 : latE (msgL ws size cols) ya yb na nb = 0
        · have HB := Lib.hid (show hidB ws size cols ya yb na nb = true by unfold hidB; rw [hm0, hl0]; rfl)
          have hcb : 1 ≤ cols ∧ cols ≤ 40 := by
            unfold maskE at hm0
            split at hm0
            · exact absurd hm0 (by decide)
            · split at hm0
              · rename_i h
                rw [Bool.and_eq_true] at h
                exact inB_iff.1 h.2
              · exact absurd hm0 (by decide)
          have hk5 : (ko : Int) = 5 * cols := by
            rw [hko, msgL, maskT, if_pos hm0]
            simp [List.range_succ, maskR_len]
            omega
          have hk2 : kt = ko := by rw [hkt, hko, latL, if_pos hl0, List.length_map]
          have hw5 : IntKind.i64.wrap (5 * cols) = (ko : Int) := by rw [hk5]; exact IntWalk.i64_in _ (by omega)
          subst hk2
          clear hko hkt hcb hk5
          go_wp2_with fail
          refine bodyPost_ret (v := .tuple #[.slice At kt ct, .slice Ao kt co, .bool true]) (by simp [results, Try.results13, go_sem]) rfl ?_
          exact ⟨_, _, by rw [HB.out], HO2.out.mono HWX.out, HOM2.out.mono HX1.out.bel.size, HX2.out⟩
        · have HB := Lib.hid (show hidB ws size cols ya yb na nb = false by unfold hidB; rw [decide_eq_false hl0, Bool.and_false])
          clear hko hkt
          go_wp2_with fail
          refine bodyPost_ret (v := .tuple #[.slice At kt ct, .slice Ao ko co, .bool false]) (by simp [results, Try.results13, go_sem]) rfl ?_
          exact ⟨_, _, by rw [HB.out], HO2.out.mono HWX.out, HOM2.out.mono HX1.out.bel.size, HX2.out⟩
      · have HB := Lib.hid (show hidB ws size cols ya yb na nb = false by unfold hidB; rw [decide_eq_false hm0, Bool.false_and])
        clear hko hkt
        go_wp2_with fail
        refine bodyPost_ret (v := .tuple #[.slice At kt ct, .slice Ao ko co, .bool false]) (by simp [results, Try.results13, go_sem]) rfl ?_
        exact ⟨_, _, by rw [HB.out], HO2.out.mono HWX.out, HOM2.out.mono HX1.out.bel.size, HX2.out⟩
end Go.Proofs.Ytkjgcmdabelohaa
