/- rosette.lifted, under. Condition: slices read as lists, heights from 0 to 10000. -/
/- What lifted and under make: the plain laws. -/
/- rosette.both, made, Lift, Under, Close, Grind. Condition: slices read as lists. -/
/- rosette.made, Lift, Under, Close, Grind. Condition: slices read as lists. -/
/- Lifts and what is under: a pair of maps of lattices. No program. -/
import Derived.Test.YtkjgcmdabelohaaGreatRPick
import Derived.Test.YtkjgcmdabelohaaGreatRPickU
import Derived.Test.YtkjgcmdabelohaaGreatMRub
import Derived.Test.YtkjgcmdabelohaaGreatMTurns
import Derived.LoopN
namespace Go.Proofs.YtkjgcmdabelohaaGreat
open Go.RowKit

def liftL (xs ys : List Int) : List Int := pickTo xs ys ys.length xs.length
def underL (xs ys : List Int) : List Int := pickU xs ys ys.length xs.length

theorem lifted_any (u v : Value) (xs ys : List Int) (w : World) (hu : IsI w u xs) (hv : IsI w v ys) (hn1 : 1 ≤ xs.length) (hz : xs.length ≤ 1000) (hy1 : 1 ≤ ys.length) (hy : ys.length ≤ 1000)
    (hxb : ∀ i : Nat, 0 ≤ xs[i]?.getD 0 ∧ xs[i]?.getD 0 ≤ 10000) (hyb : ∀ i : Nat, 0 ≤ ys[i]?.getD 0 ∧ ys[i]?.getD 0 ≤ 10000) :
    Calls Tryz.prog 28 #[u, v] w (RetO w (liftL xs ys)) := by
  have H := Lib.hid (picked_any u v xs ys w hu hv hn1 hz hy1 hy hxb hyb)
  clear hxb hyb
  go_enter Tryz.func28, Tryz.ntmps28
  go_wp2_with (go_at_call 50; refine H.out.mono ?_; rintro e w1 ⟨v1, rfl, hown, hx⟩)
  go_ret
  exact ⟨_, rfl, hown, hx⟩
theorem under_any (u v : Value) (xs ys : List Int) (w : World) (hu : IsI w u xs) (hv : IsI w v ys) (hn1 : 1 ≤ xs.length) (hz : xs.length ≤ 1000) (hy1 : 1 ≤ ys.length) (hy : ys.length ≤ 1000)
    (hxb : ∀ i : Nat, 0 ≤ xs[i]?.getD 0 ∧ xs[i]?.getD 0 ≤ 10000) (hyb : ∀ i : Nat, 0 ≤ ys[i]?.getD 0 ∧ ys[i]?.getD 0 ≤ 10000) :
    Calls Tryz.prog 29 #[u, v] w (RetO w (underL xs ys)) := by
  have H := Lib.hid (pickedU_any u v xs ys w hu hv hn1 hz hy1 hy hxb hyb)
  clear hxb hyb
  go_enter Tryz.func29, Tryz.ntmps29
  go_wp2_with (go_at_call 50; refine H.out.mono ?_; rintro e w1 ⟨v1, rfl, hown, hx⟩)
  go_ret
  exact ⟨_, rfl, hown, hx⟩
end Go.Proofs.YtkjgcmdabelohaaGreat

namespace Go.Proofs.YtkjgcmdabelohaaGreat

theorem foldMax {g : Nat → Int} (s : Int) : ∀ q : Nat, 1 ≤ q → (List.range q).foldl (fun acc j => max acc (g j)) s = max s ((List.range q).foldl (fun acc j => if j = 0 then g j else max acc (g j)) 0)
  | 0, h => absurd h (by omega)
  | 1, _ => by simp [List.range_succ]
  | q + 2, _ => by
    rw [List.range_succ, List.foldl_append, List.foldl_append, foldMax s (q + 1) (by omega)]
    simp only [List.foldl_cons, List.foldl_nil]
    rw [if_neg (by omega)]
    omega
theorem foldMax_ge {g : Nat → Int} : ∀ (q : Nat) (j : Nat), j < q → g j ≤ (List.range q).foldl (fun acc j => if j = 0 then g j else max acc (g j)) 0
  | 0, j, h => absurd h (by omega)
  | q + 1, j, h => by
    rw [List.range_succ, List.foldl_append]
    simp only [List.foldl_cons, List.foldl_nil]
    split
    · rename_i h0; subst h0
      obtain rfl : j = 0 := by omega
      exact Int.le_refl _
    · rcases (by omega : j < q ∨ j = q) with h1 | rfl
      · have := foldMax_ge (g := g) q j h1
        omega
      · omega
theorem foldMax_le {g : Nat → Int} {M : Int} (h : ∀ j, g j ≤ M) : ∀ q : Nat, 1 ≤ q → (List.range q).foldl (fun acc j => if j = 0 then g j else max acc (g j)) 0 ≤ M
  | 0, h0 => absurd h0 (by omega)
  | q + 1, _ => by
    rw [List.range_succ, List.foldl_append]
    simp only [List.foldl_cons, List.foldl_nil]
    split
    · exact h _
    · have := foldMax_le h q (by omega)
      have := h q
      omega
theorem foldMin {g : Nat → Int} (s : Int) : ∀ q : Nat, 1 ≤ q → (List.range q).foldl (fun acc j => min acc (g j)) s = min s ((List.range q).foldl (fun acc j => if j = 0 then g j else min acc (g j)) 0)
  | 0, h => absurd h (by omega)
  | 1, _ => by simp [List.range_succ]
  | q + 2, _ => by
    rw [List.range_succ, List.foldl_append, List.foldl_append, foldMin s (q + 1) (by omega)]
    simp only [List.foldl_cons, List.foldl_nil]
    rw [if_neg (by omega)]
    omega
theorem foldMin_le {g : Nat → Int} : ∀ (q : Nat) (j : Nat), j < q → (List.range q).foldl (fun acc j => if j = 0 then g j else min acc (g j)) 0 ≤ g j
  | 0, j, h => absurd h (by omega)
  | q + 1, j, h => by
    rw [List.range_succ, List.foldl_append]
    simp only [List.foldl_cons, List.foldl_nil]
    split
    · rename_i h0; subst h0
      obtain rfl : j = 0 := by omega
      exact Int.le_refl _
    · rcases (by omega : j < q ∨ j = q) with h1 | rfl
      · have := foldMin_le (g := g) q j h1
        omega
      · omega
theorem foldMin_ge {g : Nat → Int} {M : Int} (h : ∀ j, M ≤ g j) : ∀ q : Nat, 1 ≤ q → M ≤ (List.range q).foldl (fun acc j => if j = 0 then g j else min acc (g j)) 0
  | 0, h0 => absurd h0 (by omega)
  | q + 1, _ => by
    rw [List.range_succ, List.foldl_append]
    simp only [List.foldl_cons, List.foldl_nil]
    split
    · exact h _
    · have := foldMin_ge h q (by omega)
      have := h q
      omega

theorem bestL_eq (xs ys : List Int) (m k : Nat) (pre : List Nat) : bestL xs ys m k pre = pre.foldl (fun acc j => if j = 0 then askOf xs ys m k j else max acc (askOf xs ys m k j)) 0 := rfl
theorem bestU_eq (xs ys : List Int) (m k : Nat) (pre : List Nat) : bestU xs ys m k pre = pre.foldl (fun acc j => if j = 0 then askU xs ys m k j else min acc (askU xs ys m k j)) 0 := rfl

/-- The middle asks nothing. -/
theorem askOf_mid {xs ys : List Int} {m k : Nat} (hm : m % 2 = 1) (h0 : ys[m / 2]?.getD 0 = 0) (hk : k < xs.length) : askOf xs ys m k (m / 2) = xs[k]?.getD 0 := by
  unfold askOf
  rw [h0, Nat.min_eq_left (by omega), show ((k : Int) + (((m / 2 : Nat) : Int) - (m : Int) / 2)) = k by omega, Int.emod_eq_of_lt (by omega) (by omega)]
  simp
theorem askU_mid {xs ys : List Int} {m k : Nat} (hm : m % 2 = 1) (h0 : ys[m / 2]?.getD 0 = 0) (hk : k < xs.length) : askU xs ys m k (m / 2) = xs[k]?.getD 0 := by
  unfold askU
  rw [h0, Nat.min_eq_left (by omega), show ((k : Int) + -(((m / 2 : Nat) : Int) - (m : Int) / 2)) = k by omega, Int.emod_eq_of_lt (by omega) (by omega)]
  simp
theorem liftL_len (xs ys : List Int) : (liftL xs ys).length = xs.length := by simp [liftL, pickTo]
theorem underL_len (xs ys : List Int) : (underL xs ys).length = xs.length := by simp [underL, pickU]
theorem liftL_at {xs ys : List Int} {k : Nat} (hk : k < xs.length) : (liftL xs ys)[k]?.getD 0 = bestL xs ys ys.length k (List.range ys.length) := by simp [liftL, pickTo, hk]
theorem underL_at {xs ys : List Int} {k : Nat} (hk : k < xs.length) : (underL xs ys)[k]?.getD 0 = bestU xs ys ys.length k (List.range ys.length) := by simp [underL, pickU, hk]
/-- Heights from 0 to 10000. -/
def Hts (xs : List Int) : Prop := ∀ i : Nat, 0 ≤ xs[i]?.getD 0 ∧ xs[i]?.getD 0 ≤ 10000
theorem liftL_hts {xs ys : List Int} (hx : Hts xs) (hy : Hts ys) (hm : ys.length % 2 = 1) (h0 : ys[ys.length / 2]?.getD 0 = 0) : Hts (liftL xs ys) := by
  intro i
  rcases Nat.lt_or_ge i xs.length with hi | hi
  · rw [liftL_at hi, bestL_eq]
    constructor
    · have h1 := foldMax_ge (g := askOf xs ys ys.length i) ys.length (ys.length / 2) (by omega)
      rw [askOf_mid hm h0 hi] at h1
      have := (hx i).1
      omega
    · exact foldMax_le (fun j => by
        unfold askOf
        have h1 := (hx ((((i : Int) + (((min j ys.length : Nat) : Int) - (ys.length : Int) / 2)) % (xs.length : Int))).toNat).2
        have h2 := (hy j).1
        omega) _ (by omega)
  · rw [List.getElem?_eq_none (by rw [liftL_len]; exact hi)]
    simp
theorem underL_hts {xs ys : List Int} (hx : Hts xs) (hy : Hts ys) (hm : ys.length % 2 = 1) (h0 : ys[ys.length / 2]?.getD 0 = 0) : Hts (underL xs ys) := by
  intro i
  rcases Nat.lt_or_ge i xs.length with hi | hi
  · rw [underL_at hi, bestU_eq]
    constructor
    · exact foldMin_ge (fun j => by
        unfold askU
        have h1 := (hx ((((i : Int) + -(((min j ys.length : Nat) : Int) - (ys.length : Int) / 2)) % (xs.length : Int))).toNat).1
        have h2 := (hy j).1
        omega) _ (by omega)
    · have h1 := foldMin_le (g := askU xs ys ys.length i) ys.length (ys.length / 2) (by omega)
      rw [askU_mid hm h0 hi] at h1
      have := (hx i).2
      omega
  · rw [List.getElem?_eq_none (by rw [underL_len]; exact hi)]
    simp
end Go.Proofs.YtkjgcmdabelohaaGreat

namespace Go.Proofs.YtkjgcmdabelohaaGreat
open Go.RowKit

def bothE (xs ys : List Int) : Int := if checkB xs then rubberE ys xs.length else 30

theorem both_any (u v : Value) (xs ys : List Int) (w : World) (hu : IsI w u xs) (hv : IsI w v ys) :
    Calls Tryz.prog 49 #[u, v] w fun e w' => e = .returned (.int .i64 (bothE xs ys)) ∧ w = w' := by
  cases hc : checkB xs
  · have HE := Lib.hid (show bothE xs ys = 30 by rw [bothE, hc]; rfl)
    have HC := Lib.hid (check_bad hc w hu)
    go_enter Tryz.func49, Tryz.ntmps49
    go_wp2_with (go_at_call 22; refine HC.out.mono ?_; rintro e w' ⟨rfl, rfl⟩)
    go_ret
    exact ⟨ret_i HE.out.symm, rfl⟩
  · have HE := Lib.hid (show bothE xs ys = rubberE ys xs.length by rw [bothE, hc]; rfl)
    have HC := Lib.hid (check_good hc w hu)
    have HR := Lib.hid (checkRubber_any v ys xs.length w hv)
    obtain ⟨A, n, c, rfl, hc0, hr, hn⟩ := hu.open_
    have HL := hr.len
    rw [HL] at HR HE
    clear hr
    go_enter Tryz.func49, Tryz.ntmps49
    go_wp2_with (first
      | (go_at_call 22; refine HC.out.mono ?_; rintro e w' ⟨rfl, rfl⟩)
      | (go_at_call 23; refine HR.out.mono ?_; rintro e w' ⟨rfl, rfl⟩))
    go_ret
    exact ⟨ret_i HE.out.symm, rfl⟩

end Go.Proofs.YtkjgcmdabelohaaGreat

namespace Go.Proofs.YtkjgcmdabelohaaGreat
open Go.RowKit

/-- xs is a rosette, and ys a rubber for it. -/
structure Fine (xs ys : List Int) : Prop where
  lo : 3 ≤ xs.length
  hi : xs.length ≤ 96
  odd : ys.length % 2 = 1
  le : ys.length ≤ xs.length
  le31 : ys.length ≤ 31
  hx : Hts xs
  hy : Hts ys
  mid : ys[ys.length / 2]?.getD 0 = 0

theorem hts_of_all {xs : List Int} : allB 0 10000 xs = true ↔ Hts xs := by
  constructor
  · intro h i
    rcases Nat.lt_or_ge i xs.length with hi | hi
    · have := List.all_eq_true.1 h xs[i] (List.getElem_mem hi)
      rw [List.getElem?_eq_getElem hi]
      exact inB_iff.1 this
    · rw [List.getElem?_eq_none hi]; simp
  · intro h
    refine List.all_eq_true.2 fun x hx => ?_
    obtain ⟨i, hi, rfl⟩ := List.getElem_of_mem hx
    have := h i
    rw [List.getElem?_eq_getElem hi] at this
    exact inB_iff.2 this

theorem fine_iff {xs ys : List Int} : bothE xs ys = 0 ↔ Fine xs ys := by
  constructor
  · intro h
    unfold bothE rubberE at h
    split at h
    · rename_i hc
      split at h
      · rename_i hr
        obtain ⟨h1, h2, h3⟩ := checkB_iff.1 hc
        simp only [rubberB, Bool.and_eq_true, decide_eq_true_eq] at hr
        obtain ⟨⟨⟨⟨a, b⟩, c⟩, d⟩, e⟩ := hr
        exact ⟨h1, h2, a, by omega, c, hts_of_all.1 h3, hts_of_all.1 d, e⟩
      · exact absurd h (by decide)
    · exact absurd h (by decide)
  · intro ⟨h1, h2, h3, h4, h5, h6, h7, h8⟩
    unfold bothE rubberE
    rw [if_pos (checkB_iff.2 ⟨h1, h2, hts_of_all.2 h6⟩), if_pos]
    simp only [rubberB, Bool.and_eq_true, decide_eq_true_eq]
    exact ⟨⟨⟨⟨h3, by omega⟩, h5⟩, hts_of_all.2 h7⟩, h8⟩
theorem Fine.lift {xs ys : List Int} (h : Fine xs ys) : Fine (liftL xs ys) ys :=
  ⟨by rw [liftL_len]; exact h.lo, by rw [liftL_len]; exact h.hi, h.odd, by rw [liftL_len]; exact h.le, h.le31, liftL_hts h.hx h.hy h.odd h.mid, h.hy, h.mid⟩
theorem Fine.under {xs ys : List Int} (h : Fine xs ys) : Fine (underL xs ys) ys :=
  ⟨by rw [underL_len]; exact h.lo, by rw [underL_len]; exact h.hi, h.odd, by rw [underL_len]; exact h.le, h.le31, underL_hts h.hx h.hy h.odd h.mid, h.hy, h.mid⟩

/-- A function of a rosette and a rubber that returns a new rosette. -/
def Makes (f : Nat) (F : List Int → List Int → List Int) : Prop := ∀ (u v : Value) (xs ys : List Int) (w : World), IsI w u xs → IsI w v ys → Fine xs ys → Calls Tryz.prog f #[u, v] w (RetO w (F xs ys))
theorem lifted_makes : Makes 28 liftL := fun u v xs ys w hu hv h =>
  lifted_any u v xs ys w hu hv (by have := h.lo; omega) (by have := h.hi; omega) (by have := h.odd; omega) (by have := h.le31; omega) h.hx h.hy
theorem under_makes : Makes 29 underL := fun u v xs ys w hu hv h =>
  under_any u v xs ys w hu hv (by have := h.lo; omega) (by have := h.hi; omega) (by have := h.odd; omega) (by have := h.le31; omega) h.hx h.hy

/-- What is answered for a rosette and a rubber: the list, or nothing. -/
def fOr (xs ys l : List Int) : List Int := if bothE xs ys = 0 then l else []

theorem both_zero {xs ys : List Int} (h : bothE xs ys = 0) {u v : Value} {w : World} (hu : IsI w u xs) (hv : IsI w v ys) : Calls Tryz.prog 49 #[u, v] w fun e w' => e = .returned (.int .i64 0) ∧ w = w' := by
  have := both_any u v xs ys w hu hv
  rwa [h] at this
set_option maxRecDepth 100000 in
set_option maxHeartbeats 400000 in
theorem made_bad (u v : Value) (xs ys : List Int) (w : World) (b n c : Nat) (hu : IsI w u xs) (hv : IsI w v ys) (hg : ¬ bothE xs ys = 0) (l : List Int) :
    Calls Tryz.prog 27 #[u, v, .slice (some ⟨b, 0, none⟩) n c] w (RetOE w (fOr xs ys l) (bothE xs ys)) := by
  have HF := Lib.hid (show fOr xs ys l = [] by rw [fOr, if_neg hg])
  have HB := Lib.hid (both_any u v xs ys w hu hv)
  have hne : (bothE xs ys != 0) = true := by simpa using hg
  generalize bothE xs ys = er at *
  clear hu hv hg
  go_enter Tryz.func27, Tryz.ntmps27
  go_wp2_with (go_at_call 49; refine HB.out.mono ?_; rintro e w' ⟨rfl, rfl⟩)
  go_ret2
  exact ⟨_, rfl, by rw [HF.out]; exact OwnI.nil _ _, Ext.refl _⟩

set_option maxRecDepth 100000 in
set_option maxHeartbeats 400000 in
theorem made1_lifted (u v : Value) (xs ys : List Int) (w : World) (b c : Nat) (hu : IsI w u xs) (hv : IsI w v ys)
    (h0 : w.cell? ⟨b, 0, none⟩ = some (.func (.func 28) #[] #[])) :
    Calls Tryz.prog 27 #[u, v, .slice (some ⟨b, 0, none⟩) 1 c] w (RetOE w (fOr xs ys (liftL xs ys)) (bothE xs ys)) := by
  by_cases hg : bothE xs ys = 0
  · have HB := Lib.hid (both_zero hg hu hv)
    have HG := Lib.hid hg
    have HF := Lib.hid (lifted_makes u v xs ys w hu hv (fine_iff.1 hg))
    clear hu hv hg
    go_enter Tryz.func27, Tryz.ntmps27
    go_wp2_with (go_at_call 49; refine HB.out.mono ?_; rintro e w' ⟨rfl, rfl⟩)
    refine wp_loop_rounds 2 ?_
    rw [rounds_succ]
    go_wp2_with fail
    refine HF.out.mono ?_
    rintro e w1 ⟨v1, rfl, o1, x1⟩
    go_wp2_with fail
    rw [rounds_succ]
    go_wp2_with fail
    go_ret2
    exact ⟨_, by rw [HG.out] <;> rfl, by rw [fOr, if_pos HG.out]; exact o1, x1⟩
  · exact made_bad u v xs ys w b 1 c hu hv hg _

set_option maxRecDepth 100000 in
set_option maxHeartbeats 400000 in
theorem made1_under (u v : Value) (xs ys : List Int) (w : World) (b c : Nat) (hu : IsI w u xs) (hv : IsI w v ys)
    (h0 : w.cell? ⟨b, 0, none⟩ = some (.func (.func 29) #[] #[])) :
    Calls Tryz.prog 27 #[u, v, .slice (some ⟨b, 0, none⟩) 1 c] w (RetOE w (fOr xs ys (underL xs ys)) (bothE xs ys)) := by
  by_cases hg : bothE xs ys = 0
  · have HB := Lib.hid (both_zero hg hu hv)
    have HG := Lib.hid hg
    have HF := Lib.hid (under_makes u v xs ys w hu hv (fine_iff.1 hg))
    clear hu hv hg
    go_enter Tryz.func27, Tryz.ntmps27
    go_wp2_with (go_at_call 49; refine HB.out.mono ?_; rintro e w' ⟨rfl, rfl⟩)
    refine wp_loop_rounds 2 ?_
    rw [rounds_succ]
    go_wp2_with fail
    refine HF.out.mono ?_
    rintro e w1 ⟨v1, rfl, o1, x1⟩
    go_wp2_with fail
    rw [rounds_succ]
    go_wp2_with fail
    go_ret2
    exact ⟨_, by rw [HG.out] <;> rfl, by rw [fOr, if_pos HG.out]; exact o1, x1⟩
  · exact made_bad u v xs ys w b 1 c hu hv hg _

set_option maxRecDepth 100000 in
set_option maxHeartbeats 400000 in
theorem made2_lifted (u v : Value) (xs ys : List Int) (w : World) (b c : Nat) (hu : IsI w u xs) (hv : IsI w v ys)
    (h0 : w.cell? ⟨b, 0, none⟩ = some (.func (.func 28) #[] #[])) (h1 : w.cell? ⟨b, 1, none⟩ = some (.func (.func 29) #[] #[])) :
    Calls Tryz.prog 27 #[u, v, .slice (some ⟨b, 0, none⟩) 2 c] w (RetOE w (fOr xs ys (underL (liftL xs ys) ys)) (bothE xs ys)) := by
  by_cases hg : bothE xs ys = 0
  · have HB := Lib.hid (both_zero hg hu hv)
    have HN := Lib.hid hg
    have HF := Lib.hid (lifted_makes u v xs ys w hu hv (fine_iff.1 hg))
    have HI := Lib.hid (Fine.lift (fine_iff.1 hg))
    have HV := Lib.hid hv
    clear hu hv hg
    go_enter Tryz.func27, Tryz.ntmps27
    go_wp2_with (go_at_call 49; refine HB.out.mono ?_; rintro e w' ⟨rfl, rfl⟩)
    refine wp_loop_rounds 3 ?_
    rw [rounds_succ]
    go_wp2_with fail
    refine HF.out.mono ?_
    rintro e w1 ⟨v1, rfl, o1, x1⟩
    have HG1 := Lib.hid (under_makes v1 v _ ys w1 o1.isI (HV.out.ext x1) HI.out)
    have k1 := x1.cell_some h1
    have X1 := Lib.hid x1
    clear o1 x1
    go_wp2_with fail
    rw [rounds_succ]
    go_wp2_with fail
    refine HG1.out.mono ?_
    rintro e w2 ⟨v2, rfl, o2, x2⟩
    go_wp2_with fail
    rw [rounds_succ]
    go_wp2_with fail
    go_ret2
    exact ⟨_, by rw [HN.out] <;> rfl, by rw [fOr, if_pos HN.out]; exact o2.mono X1.out.bel.size, X1.out.trans x2⟩
  · exact made_bad u v xs ys w b 2 c hu hv hg _

set_option maxRecDepth 100000 in
set_option maxHeartbeats 400000 in
theorem made2_under (u v : Value) (xs ys : List Int) (w : World) (b c : Nat) (hu : IsI w u xs) (hv : IsI w v ys)
    (h0 : w.cell? ⟨b, 0, none⟩ = some (.func (.func 29) #[] #[])) (h1 : w.cell? ⟨b, 1, none⟩ = some (.func (.func 28) #[] #[])) :
    Calls Tryz.prog 27 #[u, v, .slice (some ⟨b, 0, none⟩) 2 c] w (RetOE w (fOr xs ys (liftL (underL xs ys) ys)) (bothE xs ys)) := by
  by_cases hg : bothE xs ys = 0
  · have HB := Lib.hid (both_zero hg hu hv)
    have HN := Lib.hid hg
    have HF := Lib.hid (under_makes u v xs ys w hu hv (fine_iff.1 hg))
    have HI := Lib.hid (Fine.under (fine_iff.1 hg))
    have HV := Lib.hid hv
    clear hu hv hg
    go_enter Tryz.func27, Tryz.ntmps27
    go_wp2_with (go_at_call 49; refine HB.out.mono ?_; rintro e w' ⟨rfl, rfl⟩)
    refine wp_loop_rounds 3 ?_
    rw [rounds_succ]
    go_wp2_with fail
    refine HF.out.mono ?_
    rintro e w1 ⟨v1, rfl, o1, x1⟩
    have HG1 := Lib.hid (lifted_makes v1 v _ ys w1 o1.isI (HV.out.ext x1) HI.out)
    have k1 := x1.cell_some h1
    have X1 := Lib.hid x1
    clear o1 x1
    go_wp2_with fail
    rw [rounds_succ]
    go_wp2_with fail
    refine HG1.out.mono ?_
    rintro e w2 ⟨v2, rfl, o2, x2⟩
    go_wp2_with fail
    rw [rounds_succ]
    go_wp2_with fail
    go_ret2
    exact ⟨_, by rw [HN.out] <;> rfl, by rw [fOr, if_pos HN.out]; exact o2.mono X1.out.bel.size, X1.out.trans x2⟩
  · exact made_bad u v xs ys w b 2 c hu hv hg _

theorem RetOE.of {w w0 : World} {zs : List Int} {er : Int} {e : Ending} {w' : World} (x : Ext w w0) (h : RetOE w0 zs er e w') : RetOE w zs er e w' := by
  obtain ⟨v, he, ho, hx⟩ := h
  exact ⟨v, he, ho.mono x.bel.size, x.trans hx⟩

set_option maxRecDepth 100000 in
theorem Lift_any (u v : Value) (xs ys : List Int) (w : World) (hu : IsI w u xs) (hv : IsI w v ys) :
    Calls Tryz.prog 55 #[u, v] w (RetOE w (fOr xs ys (liftL xs ys)) (bothE xs ys)) := by
  have HU := Lib.hid hu
  have HV := Lib.hid hv
  clear hu hv
  go_enter Tryz.func55, Tryz.ntmps55
  go_wp2_with fail
  refine lay_calls (fun W => Ext w W ∧ W.cell? ⟨w.heap.size, 0, none⟩ = some (.func (.func 28) #[] #[])) ⟨by (repeat' (first | with_reducible exact Ext.refl _ | with_reducible apply Ext.alloc | with_reducible apply Ext.drew | with_reducible apply Ext.drewN | with_reducible refine Ext.setCell ?_ ?_ _ | with_reducible apply Ext.step | with_reducible assumption | with_reducible exact Nat.le_refl _ | (simp; done) | (simp; omega))), by go_cell⟩ ?_
  rintro w0 ⟨X0, h0⟩
  refine (made1_lifted u v xs ys w0 _ _ (HU.out.ext X0) (HV.out.ext X0) h0).mono ?_
  rintro e w1 h
  obtain ⟨v1, rfl, o1, x1⟩ := RetOE.of X0 h
  clear h X0
  go_wp2_with fail
  go_ret2
  exact ⟨_, rfl, o1, x1⟩
set_option maxRecDepth 100000 in
theorem Close_any (u v : Value) (xs ys : List Int) (w : World) (hu : IsI w u xs) (hv : IsI w v ys) :
    Calls Tryz.prog 8 #[u, v] w (RetOE w (fOr xs ys (underL (liftL xs ys) ys)) (bothE xs ys)) := by
  have HU := Lib.hid hu
  have HV := Lib.hid hv
  clear hu hv
  go_enter Tryz.func8, Tryz.ntmps8
  go_wp2_with fail
  refine lay_calls (fun W => Ext w W ∧ W.cell? ⟨w.heap.size, 0, none⟩ = some (.func (.func 28) #[] #[]) ∧ W.cell? ⟨w.heap.size, 1, none⟩ = some (.func (.func 29) #[] #[])) ⟨by (repeat' (first | with_reducible exact Ext.refl _ | with_reducible apply Ext.alloc | with_reducible apply Ext.drew | with_reducible apply Ext.drewN | with_reducible refine Ext.setCell ?_ ?_ _ | with_reducible apply Ext.step | with_reducible assumption | with_reducible exact Nat.le_refl _ | (simp; done) | (simp; omega))), by go_cell, by go_cell⟩ ?_
  rintro w0 ⟨X0, h0, h1⟩
  refine (made2_lifted u v xs ys w0 _ _ (HU.out.ext X0) (HV.out.ext X0) h0 h1).mono ?_
  rintro e w1 h
  obtain ⟨v1, rfl, o1, x1⟩ := RetOE.of X0 h
  clear h X0
  go_wp2_with fail
  go_ret2
  exact ⟨_, rfl, o1, x1⟩
end Go.Proofs.YtkjgcmdabelohaaGreat

namespace Go.Proofs.YtkjgcmdabelohaaGreat

/-- No height is greater. -/
def LeL (f g : List Int) : Prop := f.length = g.length ∧ ∀ i, i < f.length → f[i]?.getD 0 ≤ g[i]?.getD 0
def belowB (f g : List Int) : Bool := decide (f.length = g.length) && (List.range f.length).all fun i => decide (f[i]?.getD 0 ≤ g[i]?.getD 0)
theorem belowB_iff {f g : List Int} : belowB f g = true ↔ LeL f g := by
  simp [belowB, LeL]
theorem belowB_of {f g : List Int} (h : LeL f g) : belowB f g = true := belowB_iff.2 h
theorem LeL.refl (f : List Int) : LeL f f := ⟨rfl, fun _ _ => Int.le_refl _⟩
theorem LeL.trans {f g h : List Int} (a : LeL f g) (b : LeL g h) : LeL f h := ⟨a.1.trans b.1, fun i hi => Int.le_trans (a.2 i hi) (b.2 i (by rw [← a.1]; exact hi))⟩
theorem LeL.antisymm {f g : List Int} (a : LeL f g) (b : LeL g f) : f = g := by
  refine List.ext_getElem a.1 fun i h1 h2 => ?_
  have h3 := a.2 i h1
  have h4 := b.2 i h2
  simp [h1, h2] at h3 h4
  omega

theorem foldMax_le_iff {g : Nat → Int} {M : Int} : ∀ q : Nat, 1 ≤ q → ((List.range q).foldl (fun acc j => if j = 0 then g j else max acc (g j)) 0 ≤ M ↔ ∀ j, j < q → g j ≤ M) := fun q hq =>
  ⟨fun h j hj => Int.le_trans (foldMax_ge q j hj) h, fun h => by
    induction q with
    | zero => omega
    | succ q ih =>
      rw [List.range_succ, List.foldl_append]
      simp only [List.foldl_cons, List.foldl_nil]
      split
      · exact h _ (by omega)
      · have h1 := ih (by omega) fun j hj => h j (by omega)
        have h2 := h q (by omega)
        omega⟩
theorem le_foldMin_iff {g : Nat → Int} {M : Int} : ∀ q : Nat, 1 ≤ q → (M ≤ (List.range q).foldl (fun acc j => if j = 0 then g j else min acc (g j)) 0 ↔ ∀ j, j < q → M ≤ g j) := fun q hq =>
  ⟨fun h j hj => Int.le_trans h (foldMin_le q j hj), fun h => by
    induction q with
    | zero => omega
    | succ q ih =>
      rw [List.range_succ, List.foldl_append]
      simp only [List.foldl_cons, List.foldl_nil]
      split
      · exact h _ (by omega)
      · have h1 := ih (by omega) fun j hj => h j (by omega)
        have h2 := h q (by omega)
        omega⟩

theorem lift_le_iff {xs ys : List Int} (hy : 1 ≤ ys.length) {k : Nat} (hk : k < xs.length) {M : Int} : (liftL xs ys)[k]?.getD 0 ≤ M ↔ ∀ j, j < ys.length → askOf xs ys ys.length k j ≤ M := by
  rw [liftL_at hk, bestL_eq]
  exact foldMax_le_iff _ hy
theorem le_under_iff {xs ys : List Int} (hy : 1 ≤ ys.length) {k : Nat} (hk : k < xs.length) {M : Int} : M ≤ (underL xs ys)[k]?.getD 0 ↔ ∀ j, j < ys.length → M ≤ askU xs ys ys.length k j := by
  rw [underL_at hk, bestU_eq]
  exact le_foldMin_iff _ hy

/-- The place at an offset of the rubber. -/
def plc (n : Nat) (k : Nat) (d : Int) : Nat := (((k : Int) + d) % (n : Int)).toNat
theorem plc_lt {n k : Nat} {d : Int} (hn : 1 ≤ n) : plc n k d < n := by
  have h1 := Int.emod_nonneg ((k : Int) + d) (show (n : Int) ≠ 0 by omega)
  have h2 := Int.emod_lt_of_pos ((k : Int) + d) (show (0 : Int) < n by omega)
  unfold plc
  omega
theorem plc_cast {n k : Nat} {d : Int} (hn : 1 ≤ n) : ((plc n k d : Nat) : Int) = ((k : Int) + d) % (n : Int) := by
  have h1 := Int.emod_nonneg ((k : Int) + d) (show (n : Int) ≠ 0 by omega)
  unfold plc
  omega
theorem plc_plc {n k : Nat} {d e : Int} (hn : 1 ≤ n) : plc n (plc n k d) e = plc n k (d + e) := by
  have h1 := plc_cast (k := k) (d := d) hn
  unfold plc at h1 ⊢
  rw [h1, Int.emod_add_emod, Int.add_assoc]
theorem plc_zero {n k : Nat} (hk : k < n) : plc n k 0 = k := by
  unfold plc
  rw [Int.add_zero, Int.emod_eq_of_lt (by omega) (by omega)]
  rfl
theorem askOf_plc (xs ys : List Int) {m k j : Nat} (hj : j < m) : askOf xs ys m k j = xs[plc xs.length k ((j : Int) - (m : Int) / 2)]?.getD 0 - ys[j]?.getD 0 := by
  rw [askOf, Nat.min_eq_left (by omega)]
  rfl
theorem askU_plc (xs ys : List Int) {m k j : Nat} (hj : j < m) : askU xs ys m k j = xs[plc xs.length k (-((j : Int) - (m : Int) / 2))]?.getD 0 + ys[j]?.getD 0 := by
  rw [askU, Nat.min_eq_left (by omega)]
  rfl

/-- The lift of f is below h exactly if f is below what is under h. -/
theorem adjoint {f h b : List Int} (hb : 1 ≤ b.length) (hn : 1 ≤ f.length) (hl : f.length = h.length) : LeL (liftL f b) h ↔ LeL f (underL h b) := by
  constructor
  · intro ⟨_, h2⟩
    refine ⟨by rw [underL_len, hl], fun i hi => ?_⟩
    rw [le_under_iff hb (by omega)]
    intro j hj
    rw [askU_plc h b hj, ← hl]
    have hp := plc_lt (n := f.length) (k := i) (d := -((j : Int) - (b.length : Int) / 2)) hn
    have h3 := (lift_le_iff hb hp).1 (h2 _ (by rw [liftL_len]; exact hp)) j hj
    rw [askOf_plc f b hj, plc_plc hn, show -((j : Int) - (b.length : Int) / 2) + ((j : Int) - (b.length : Int) / 2) = 0 by omega, plc_zero hi] at h3
    omega
  · intro ⟨_, h2⟩
    refine ⟨by rw [liftL_len, hl], fun i hi => ?_⟩
    rw [liftL_len] at hi
    rw [lift_le_iff hb hi]
    intro j hj
    rw [askOf_plc f b hj]
    have hp := plc_lt (n := f.length) (k := i) (d := (j : Int) - (b.length : Int) / 2) hn
    have h3 := (le_under_iff hb (by omega)).1 (h2 _ hp) j hj
    rw [askU_plc h b hj, ← hl, plc_plc hn, show ((j : Int) - (b.length : Int) / 2) + -((j : Int) - (b.length : Int) / 2) = 0 by omega, plc_zero hi] at h3
    omega

section
variable {f g b : List Int}
theorem Fine.b1 (h : Fine f b) : 1 ≤ b.length := by have := h.odd; omega
theorem fine_check (h : Fine f b) : checkB f = true := checkB_iff.2 ⟨h.lo, h.hi, hts_of_all.2 h.hx⟩
theorem Fine.n1 (h : Fine f b) : 1 ≤ f.length := by have := h.lo; omega
theorem le_lift (h : Fine f b) : LeL f (liftL f b) := ⟨by rw [liftL_len], fun i hi => by
  have h1 := (lift_le_iff h.b1 hi (M := (liftL f b)[i]?.getD 0)).1 (Int.le_refl _) (b.length / 2) (by have := h.odd; omega)
  rwa [askOf_mid h.odd h.mid hi] at h1⟩
theorem under_le (h : Fine f b) : LeL (underL f b) f := ⟨by rw [underL_len], fun i hi => by
  rw [underL_len] at hi
  have h1 := (le_under_iff h.b1 hi (M := (underL f b)[i]?.getD 0)).1 (Int.le_refl _) (b.length / 2) (by have := h.odd; omega)
  rwa [askU_mid h.odd h.mid hi] at h1⟩
theorem le_close (h : Fine f b) : LeL f (underL (liftL f b) b) := (adjoint h.b1 h.n1 (liftL_len _ _).symm).1 (LeL.refl _)
theorem grind_le (h : Fine f b) : LeL (liftL (underL f b) b) f := (adjoint h.b1 h.under.n1 (underL_len _ _)).2 (LeL.refl _)
theorem lift_mono (hf : Fine f b) (hg : Fine g b) (h : LeL f g) : LeL (liftL f b) (liftL g b) := (adjoint hf.b1 hf.n1 (by rw [liftL_len]; exact h.1)).2 (h.trans (le_close hg))
theorem under_mono (hf : Fine f b) (h : LeL f g) : LeL (underL f b) (underL g b) := (adjoint hf.b1 hf.under.n1 (by rw [underL_len]; exact h.1)).1 ((grind_le hf).trans h)
theorem lift_close (h : Fine f b) : liftL (underL (liftL f b) b) b = liftL f b := LeL.antisymm (grind_le h.lift) (lift_mono h h.lift.under (le_close h))
theorem under_grind (h : Fine f b) : underL (liftL (underL f b) b) b = underL f b := LeL.antisymm (under_mono h.under.lift (grind_le h)) (le_close h.under)
end
end Go.Proofs.YtkjgcmdabelohaaGreat
