/- rosette.made, Lift, Under, Close, Grind. Condition: slices read as lists. -/
import Derived.Test.YtkjgcmdabelohaaRMade
import Derived.Test.YtkjgcmdabelohaaRLiftP
namespace Go.Proofs.Ytkjgcmdabelohaa
open Go.RowKit

/-- xs is a rosette, and ys a rubber for it. -/
structure Fine (xs ys : List Int) : Prop where
  lo : 3 ≤ xs.length
  hi : xs.length ≤ 96
  odd : ys.length % 2 = 1
  le : ys.length ≤ xs.length
  le31 : ys.length ≤ 31
  hx : Hts xs
  hy : Hts ys
  mid : ys[ys.length / 2]?.getD 0 = 0

theorem hts_of_all {xs : List Int} : allB 0 10000 xs = true ↔ Hts xs := by
  constructor
  · intro h i
    rcases Nat.lt_or_ge i xs.length with hi | hi
    · have := List.all_eq_true.1 h xs[i] (List.getElem_mem hi)
      rw [List.getElem?_eq_getElem hi]
      exact inB_iff.1 this
    · rw [List.getElem?_eq_none hi]; simp
  · intro h
    refine List.all_eq_true.2 fun x hx => ?_
    obtain ⟨i, hi, rfl⟩ := List.getElem_of_mem hx
    have := h i
    rw [List.getElem?_eq_getElem hi] at this
    exact inB_iff.2 this

theorem fine_iff {xs ys : List Int} : bothE xs ys = 0 ↔ Fine xs ys := by
  constructor
  · intro h
    unfold bothE rubberE at h
    split at h
    · rename_i hc
      split at h
      · rename_i hr
        obtain ⟨h1, h2, h3⟩ := checkB_iff.1 hc
        simp only [rubberB, Bool.and_eq_true, decide_eq_true_eq] at hr
        obtain ⟨⟨⟨⟨a, b⟩, c⟩, d⟩, e⟩ := hr
        exact ⟨h1, h2, a, by omega, c, hts_of_all.1 h3, hts_of_all.1 d, e⟩
      · exact absurd h (by decide)
    · exact absurd h (by decide)
  · intro ⟨h1, h2, h3, h4, h5, h6, h7, h8⟩
    unfold bothE rubberE
    rw [if_pos (checkB_iff.2 ⟨h1, h2, hts_of_all.2 h6⟩), if_pos]
    simp only [rubberB, Bool.and_eq_true, decide_eq_true_eq]
    exact ⟨⟨⟨⟨h3, by omega⟩, h5⟩, hts_of_all.2 h7⟩, h8⟩
theorem Fine.lift {xs ys : List Int} (h : Fine xs ys) : Fine (liftL xs ys) ys :=
  ⟨by rw [liftL_len]; exact h.lo, by rw [liftL_len]; exact h.hi, h.odd, by rw [liftL_len]; exact h.le, h.le31, liftL_hts h.hx h.hy h.odd h.mid, h.hy, h.mid⟩
theorem Fine.under {xs ys : List Int} (h : Fine xs ys) : Fine (underL xs ys) ys :=
  ⟨by rw [underL_len]; exact h.lo, by rw [underL_len]; exact h.hi, h.odd, by rw [underL_len]; exact h.le, h.le31, underL_hts h.hx h.hy h.odd h.mid, h.hy, h.mid⟩

/-- A function of a rosette and a rubber that returns a new rosette. -/
def Makes (f : Nat) (F : List Int → List Int → List Int) : Prop := ∀ (u v : Value) (xs ys : List Int) (w : World), IsI w u xs → IsI w v ys → Fine xs ys → Calls Try.prog f #[u, v] w (RetO w (F xs ys))
theorem lifted_makes : Makes 65 liftL := fun u v xs ys w hu hv h =>
  lifted_any u v xs ys w hu hv (by have := h.lo; omega) (by have := h.hi; omega) (by have := h.odd; omega) (by have := h.le31; omega) h.hx h.hy
theorem under_makes : Makes 64 underL := fun u v xs ys w hu hv h =>
  under_any u v xs ys w hu hv (by have := h.lo; omega) (by have := h.hi; omega) (by have := h.odd; omega) (by have := h.le31; omega) h.hx h.hy

/-- What is answered for a rosette and a rubber: the list, or nothing. -/
def fOr (xs ys l : List Int) : List Int := if bothE xs ys = 0 then l else []

theorem both_zero {xs ys : List Int} (h : bothE xs ys = 0) {u v : Value} {w : World} (hu : IsI w u xs) (hv : IsI w v ys) : Calls Try.prog 93 #[u, v] w fun e w' => e = .returned (.int .i64 0) ∧ w = w' := by
  have := both_any u v xs ys w hu hv
  rwa [h] at this
set_option maxRecDepth 100000 in
set_option maxHeartbeats 400000 in
theorem made_bad (u v : Value) (xs ys : List Int) (w : World) (b n c : Nat) (hu : IsI w u xs) (hv : IsI w v ys) (hg : ¬ bothE xs ys = 0) (l : List Int) :
    Calls Try.prog 63 #[u, v, .slice (some ⟨b, 0, none⟩) n c] w (RetOE w (fOr xs ys l) (bothE xs ys)) := by
  have HF := Lib.hid (show fOr xs ys l = [] by rw [fOr, if_neg hg])
  have HB := Lib.hid (both_any u v xs ys w hu hv)
  have hne : (bothE xs ys != 0) = true := by simpa using hg
  generalize bothE xs ys = er at *
  clear hu hv hg
  go_enter Try.func63, Try.ntmps63
  go_wp2_with (go_at_call 93; refine HB.out.mono ?_; rintro e w' ⟨rfl, rfl⟩)
  go_ret2
  exact ⟨_, rfl, by rw [HF.out]; exact OwnI.nil _ _, Ext.refl _⟩

set_option maxRecDepth 100000 in
set_option maxHeartbeats 400000 in
theorem made1_lifted (u v : Value) (xs ys : List Int) (w : World) (b c : Nat) (hu : IsI w u xs) (hv : IsI w v ys)
    (h0 : w.cell? ⟨b, 0, none⟩ = some (.func (.func 65) #[] #[])) :
    Calls Try.prog 63 #[u, v, .slice (some ⟨b, 0, none⟩) 1 c] w (RetOE w (fOr xs ys (liftL xs ys)) (bothE xs ys)) := by
  by_cases hg : bothE xs ys = 0
  · have HB := Lib.hid (both_zero hg hu hv)
    have HG := Lib.hid hg
    have HF := Lib.hid (lifted_makes u v xs ys w hu hv (fine_iff.1 hg))
    clear hu hv hg
    go_enter Try.func63, Try.ntmps63
    go_wp2_with (go_at_call 93; refine HB.out.mono ?_; rintro e w' ⟨rfl, rfl⟩)
    refine wp_loop_rounds 2 ?_
    rw [rounds_succ]
    go_wp2_with fail
    refine HF.out.mono ?_
    rintro e w1 ⟨v1, rfl, o1, x1⟩
    go_wp2_with fail
    rw [rounds_succ]
    go_wp2_with fail
    go_ret2
    exact ⟨_, by rw [HG.out] <;> rfl, by rw [fOr, if_pos HG.out]; exact o1, x1⟩
  · exact made_bad u v xs ys w b 1 c hu hv hg _

set_option maxRecDepth 100000 in
set_option maxHeartbeats 400000 in
theorem made1_under (u v : Value) (xs ys : List Int) (w : World) (b c : Nat) (hu : IsI w u xs) (hv : IsI w v ys)
    (h0 : w.cell? ⟨b, 0, none⟩ = some (.func (.func 64) #[] #[])) :
    Calls Try.prog 63 #[u, v, .slice (some ⟨b, 0, none⟩) 1 c] w (RetOE w (fOr xs ys (underL xs ys)) (bothE xs ys)) := by
  by_cases hg : bothE xs ys = 0
  · have HB := Lib.hid (both_zero hg hu hv)
    have HG := Lib.hid hg
    have HF := Lib.hid (under_makes u v xs ys w hu hv (fine_iff.1 hg))
    clear hu hv hg
    go_enter Try.func63, Try.ntmps63
    go_wp2_with (go_at_call 93; refine HB.out.mono ?_; rintro e w' ⟨rfl, rfl⟩)
    refine wp_loop_rounds 2 ?_
    rw [rounds_succ]
    go_wp2_with fail
    refine HF.out.mono ?_
    rintro e w1 ⟨v1, rfl, o1, x1⟩
    go_wp2_with fail
    rw [rounds_succ]
    go_wp2_with fail
    go_ret2
    exact ⟨_, by rw [HG.out] <;> rfl, by rw [fOr, if_pos HG.out]; exact o1, x1⟩
  · exact made_bad u v xs ys w b 1 c hu hv hg _

set_option maxRecDepth 100000 in
set_option maxHeartbeats 400000 in
theorem made2_lifted (u v : Value) (xs ys : List Int) (w : World) (b c : Nat) (hu : IsI w u xs) (hv : IsI w v ys)
    (h0 : w.cell? ⟨b, 0, none⟩ = some (.func (.func 65) #[] #[])) (h1 : w.cell? ⟨b, 1, none⟩ = some (.func (.func 64) #[] #[])) :
    Calls Try.prog 63 #[u, v, .slice (some ⟨b, 0, none⟩) 2 c] w (RetOE w (fOr xs ys (underL (liftL xs ys) ys)) (bothE xs ys)) := by
  by_cases hg : bothE xs ys = 0
  · have HB := Lib.hid (both_zero hg hu hv)
    have HN := Lib.hid hg
    have HF := Lib.hid (lifted_makes u v xs ys w hu hv (fine_iff.1 hg))
    have HI := Lib.hid (Fine.lift (fine_iff.1 hg))
    have HV := Lib.hid hv
    clear hu hv hg
    go_enter Try.func63, Try.ntmps63
    go_wp2_with (go_at_call 93; refine HB.out.mono ?_; rintro e w' ⟨rfl, rfl⟩)
    refine wp_loop_rounds 3 ?_
    rw [rounds_succ]
    go_wp2_with fail
    refine HF.out.mono ?_
    rintro e w1 ⟨v1, rfl, o1, x1⟩
    have HG1 := Lib.hid (under_makes v1 v _ ys w1 o1.isI (HV.out.ext x1) HI.out)
    have k1 := x1.cell_some h1
    have X1 := Lib.hid x1
    clear o1 x1
    go_wp2_with fail
    rw [rounds_succ]
    go_wp2_with fail
    refine HG1.out.mono ?_
    rintro e w2 ⟨v2, rfl, o2, x2⟩
    go_wp2_with fail
    rw [rounds_succ]
    go_wp2_with fail
    go_ret2
    exact ⟨_, by rw [HN.out] <;> rfl, by rw [fOr, if_pos HN.out]; exact o2.mono X1.out.bel.size, X1.out.trans x2⟩
  · exact made_bad u v xs ys w b 2 c hu hv hg _

set_option maxRecDepth 100000 in
set_option maxHeartbeats 400000 in
theorem made2_under (u v : Value) (xs ys : List Int) (w : World) (b c : Nat) (hu : IsI w u xs) (hv : IsI w v ys)
    (h0 : w.cell? ⟨b, 0, none⟩ = some (.func (.func 64) #[] #[])) (h1 : w.cell? ⟨b, 1, none⟩ = some (.func (.func 65) #[] #[])) :
    Calls Try.prog 63 #[u, v, .slice (some ⟨b, 0, none⟩) 2 c] w (RetOE w (fOr xs ys (liftL (underL xs ys) ys)) (bothE xs ys)) := by
  by_cases hg : bothE xs ys = 0
  · have HB := Lib.hid (both_zero hg hu hv)
    have HN := Lib.hid hg
    have HF := Lib.hid (under_makes u v xs ys w hu hv (fine_iff.1 hg))
    have HI := Lib.hid (Fine.under (fine_iff.1 hg))
    have HV := Lib.hid hv
    clear hu hv hg
    go_enter Try.func63, Try.ntmps63
    go_wp2_with (go_at_call 93; refine HB.out.mono ?_; rintro e w' ⟨rfl, rfl⟩)
    refine wp_loop_rounds 3 ?_
    rw [rounds_succ]
    go_wp2_with fail
    refine HF.out.mono ?_
    rintro e w1 ⟨v1, rfl, o1, x1⟩
    have HG1 := Lib.hid (lifted_makes v1 v _ ys w1 o1.isI (HV.out.ext x1) HI.out)
    have k1 := x1.cell_some h1
    have X1 := Lib.hid x1
    clear o1 x1
    go_wp2_with fail
    rw [rounds_succ]
    go_wp2_with fail
    refine HG1.out.mono ?_
    rintro e w2 ⟨v2, rfl, o2, x2⟩
    go_wp2_with fail
    rw [rounds_succ]
    go_wp2_with fail
    go_ret2
    exact ⟨_, by rw [HN.out] <;> rfl, by rw [fOr, if_pos HN.out]; exact o2.mono X1.out.bel.size, X1.out.trans x2⟩
  · exact made_bad u v xs ys w b 2 c hu hv hg _

theorem RetOE.of {w w0 : World} {zs : List Int} {er : Int} {e : Ending} {w' : World} (x : Ext w w0) (h : RetOE w0 zs er e w') : RetOE w zs er e w' := by
  obtain ⟨v, he, ho, hx⟩ := h
  exact ⟨v, he, ho.mono x.bel.size, x.trans hx⟩

set_option maxRecDepth 100000 in
theorem Lift_any (u v : Value) (xs ys : List Int) (w : World) (hu : IsI w u xs) (hv : IsI w v ys) :
    Calls Try.prog 66 #[u, v] w (RetOE w (fOr xs ys (liftL xs ys)) (bothE xs ys)) := by
  have HU := Lib.hid hu
  have HV := Lib.hid hv
  clear hu hv
  go_enter Try.func66, Try.ntmps66
  go_wp2_with fail
  refine lay_calls (fun W => Ext w W ∧ W.cell? ⟨w.heap.size, 0, none⟩ = some (.func (.func 65) #[] #[])) ⟨by (repeat' (first | with_reducible exact Ext.refl _ | with_reducible apply Ext.alloc | with_reducible apply Ext.drew | with_reducible apply Ext.drewN | with_reducible refine Ext.setCell ?_ ?_ _ | with_reducible apply Ext.step | with_reducible assumption | with_reducible exact Nat.le_refl _ | (simp; done) | (simp; omega))), by go_cell⟩ ?_
  rintro w0 ⟨X0, h0⟩
  refine (made1_lifted u v xs ys w0 _ _ (HU.out.ext X0) (HV.out.ext X0) h0).mono ?_
  rintro e w1 h
  obtain ⟨v1, rfl, o1, x1⟩ := RetOE.of X0 h
  clear h X0
  go_wp2_with fail
  go_ret2
  exact ⟨_, rfl, o1, x1⟩
set_option maxRecDepth 100000 in
theorem Under_any (u v : Value) (xs ys : List Int) (w : World) (hu : IsI w u xs) (hv : IsI w v ys) :
    Calls Try.prog 35 #[u, v] w (RetOE w (fOr xs ys (underL xs ys)) (bothE xs ys)) := by
  have HU := Lib.hid hu
  have HV := Lib.hid hv
  clear hu hv
  go_enter Try.func35, Try.ntmps35
  go_wp2_with fail
  refine lay_calls (fun W => Ext w W ∧ W.cell? ⟨w.heap.size, 0, none⟩ = some (.func (.func 64) #[] #[])) ⟨by (repeat' (first | with_reducible exact Ext.refl _ | with_reducible apply Ext.alloc | with_reducible apply Ext.drew | with_reducible apply Ext.drewN | with_reducible refine Ext.setCell ?_ ?_ _ | with_reducible apply Ext.step | with_reducible assumption | with_reducible exact Nat.le_refl _ | (simp; done) | (simp; omega))), by go_cell⟩ ?_
  rintro w0 ⟨X0, h0⟩
  refine (made1_under u v xs ys w0 _ _ (HU.out.ext X0) (HV.out.ext X0) h0).mono ?_
  rintro e w1 h
  obtain ⟨v1, rfl, o1, x1⟩ := RetOE.of X0 h
  clear h X0
  go_wp2_with fail
  go_ret2
  exact ⟨_, rfl, o1, x1⟩
set_option maxRecDepth 100000 in
theorem Grind_any (u v : Value) (xs ys : List Int) (w : World) (hu : IsI w u xs) (hv : IsI w v ys) :
    Calls Try.prog 34 #[u, v] w (RetOE w (fOr xs ys (liftL (underL xs ys) ys)) (bothE xs ys)) := by
  have HU := Lib.hid hu
  have HV := Lib.hid hv
  clear hu hv
  go_enter Try.func34, Try.ntmps34
  go_wp2_with fail
  refine lay_calls (fun W => Ext w W ∧ W.cell? ⟨w.heap.size, 0, none⟩ = some (.func (.func 64) #[] #[]) ∧ W.cell? ⟨w.heap.size, 1, none⟩ = some (.func (.func 65) #[] #[])) ⟨by (repeat' (first | with_reducible exact Ext.refl _ | with_reducible apply Ext.alloc | with_reducible apply Ext.drew | with_reducible apply Ext.drewN | with_reducible refine Ext.setCell ?_ ?_ _ | with_reducible apply Ext.step | with_reducible assumption | with_reducible exact Nat.le_refl _ | (simp; done) | (simp; omega))), by go_cell, by go_cell⟩ ?_
  rintro w0 ⟨X0, h0, h1⟩
  refine (made2_under u v xs ys w0 _ _ (HU.out.ext X0) (HV.out.ext X0) h0 h1).mono ?_
  rintro e w1 h
  obtain ⟨v1, rfl, o1, x1⟩ := RetOE.of X0 h
  clear h X0
  go_wp2_with fail
  go_ret2
  exact ⟨_, rfl, o1, x1⟩
end Go.Proofs.Ytkjgcmdabelohaa
