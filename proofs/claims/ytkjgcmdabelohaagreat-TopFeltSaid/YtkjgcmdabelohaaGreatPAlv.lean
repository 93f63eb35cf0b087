/- barleycorntop.alive09d, and barleycornref04.SameProgram of a program and itself. Condition: the programs' slices read as lists. -/
import Derived.Test.YtkjgcmdabelohaaGreatMKind
import Derived.Test.YtkjgcmdabelohaaGreatMNet
import Derived.Test.YtkjgcmdabelohaaGreatPFits
import Derived.Test.YtkjgcmdabelohaaGreatPShift
import Derived.Test.YtkjgcmdabelohaaGreatMTurns
import Derived.Test.YtkjgcmdabelohaaGreatMMade
namespace Go.Proofs.YtkjgcmdabelohaaGreat
section
/- PSimW: read.Simplest: what it returns. Condition: a valid picture with one head; each cut has phases that fit, and there are shifts. -/
section
/- PCmp: slices.Compare and Clone of ints. Condition: the slices read as lists. -/
open Go.RowKit

def cmpI (x y : Int) : Int := if x < y then -1 else if y < x then 1 else 0
def cmpL : List Int → List Int → Int
  | [], [] => 0
  | [], _ :: _ => -1
  | _ :: _, [] => 1
  | x :: xs, y :: ys => if cmpI x y = 0 then cmpL xs ys else cmpI x y
theorem cmpInt_any (x y : Int) (w : World) : Calls Tryz.prog 67 #[.int .i64 x, .int .i64 y] w fun e w' => e = .returned (.int .i64 (cmpI x y)) ∧ w = w' := by
  have HN := Lib.hid fun (z : Int) (W : World) => (show Calls Tryz.prog 84 #[.int .i64 z] W fun e w' => e = .returned (.bool false) ∧ W = w' from by
    go_enter Tryz.func84, Tryz.ntmps84
    go_wp2
    go_ret
    exact ⟨by simp, rfl⟩)
  by_cases h1 : x < y
  · have HE := Lib.hid (show cmpI x y = -1 from if_pos h1)
    go_enter Tryz.func67, Tryz.ntmps67
    go_wp2_with (go_at_call 84; refine (HN.out _ _).mono ?_; rintro e w' ⟨rfl, rfl⟩)
    go_ret
    exact ⟨ret_i HE.out.symm, rfl⟩
  · by_cases h2 : y < x
    · have HE := Lib.hid (show cmpI x y = 1 by unfold cmpI; rw [if_neg h1, if_pos h2])
      go_enter Tryz.func67, Tryz.ntmps67
      go_wp2_with (go_at_call 84; refine (HN.out _ _).mono ?_; rintro e w' ⟨rfl, rfl⟩)
      go_ret
      exact ⟨ret_i HE.out.symm, rfl⟩
    · have HE := Lib.hid (show cmpI x y = 0 by unfold cmpI; rw [if_neg h1, if_neg h2])
      go_enter Tryz.func67, Tryz.ntmps67
      go_wp2_with (go_at_call 84; refine (HN.out _ _).mono ?_; rintro e w' ⟨rfl, rfl⟩)
      go_ret
      exact ⟨ret_i HE.out.symm, rfl⟩
set_option maxRecDepth 100000 in
set_option maxHeartbeats 4000000 in
theorem cmpList_any (u v : Value) (xs ys : List Int) (w : World) (hu : intK.Is w u xs) (hv : intK.Is w v ys) :
    Calls Tryz.prog 40 #[u, v] w fun e w' => e = .returned (.int .i64 (cmpL xs ys)) ∧ Ext w w' := by
  obtain ⟨A, n, c, rfl, hn, -, hr, hm⟩ := hu.open_
  obtain ⟨A', n', c', rfl, hn', -, hr', hm'⟩ := hv.open_
  have HR := Lib.hid hr
  have HR' := Lib.hid hr'
  have HN := Lib.hid hn
  have HN' := Lib.hid hn'
  have HC := Lib.hid fun (x y : Int) (W : World) => cmpInt_any x y W
  clear hu hv hr hr' hn hn'
  go_enter Tryz.func40, Tryz.ntmps40
  go_wp2_with fail
  go_loopw [11] (fun iv wr => ∃ i : Nat, i ≤ n ∧ i ≤ n' ∧ iv = .int .i64 (i : Int) ∧ Hid (cmpL xs ys = cmpL (xs.drop i) (ys.drop i)) ∧ Ext w wr) (fun iv _ => n - (intOf iv).toNat)
  case atStart => exact ⟨0, by omega, by omega, rfl, Lib.hid rfl, Ext.refl _⟩
  case round =>
    obtain ⟨i, hi, hi', rfl, HD, hx⟩ := hrel
    have HX := Lib.hid hx
    by_cases hlt : i < n
    · have hii : (i : Int) < (n : Int) := by omega
      have hil : i < xs.length := by rw [HN.out]; exact hlt
      obtain ⟨b, o, rfl, _, m0⟩ := ints_at HR.out i hil
      replace m0 := hx.cell_some m0
      have lm := cell_lt m0
      have hdx := List.drop_eq_getElem_cons hil
      obtain ⟨x, hxx⟩ : ∃ x, x = xs[i] := ⟨_, rfl⟩
      rw [← hxx] at m0 hdx
      by_cases hlt' : i < n'
      · have hii' : (i : Int) < (n' : Int) := by omega
        have hil' : i < ys.length := by rw [HN'.out]; exact hlt'
        obtain ⟨b', o', rfl, _, m1⟩ := ints_at HR'.out i hil'
        replace m1 := hx.cell_some m1
        have lm1 := cell_lt m1
        have hdy := List.drop_eq_getElem_cons hil'
        obtain ⟨y, hyy⟩ : ∃ y, y = ys[i] := ⟨_, rfl⟩
        rw [← hyy] at m1 hdy
        have HE := Lib.hid (show cmpL xs ys = if cmpI x y = 0 then cmpL (xs.drop (i + 1)) (ys.drop (i + 1)) else cmpI x y by rw [HD.out, hdx, hdy, cmpL])
        have HCC := Lib.hid (HC.out x y wr)
        obtain ⟨z, hz⟩ : ∃ z, z = cmpI x y := ⟨_, rfl⟩
        rw [← hz] at HE HCC
        clear hx hdx hdy hxx hyy hz
        by_cases h0 : z = 0
        · subst h0
          go_wp2_with (go_at_call 67; refine HCC.out.mono ?_; rintro e w' ⟨rfl, rfl⟩)
          go_roundw
          case rel => exact ⟨i + 1, by omega, by omega, by go_num, Lib.hid (by rw [HE.out]; simp), HX.out⟩
          case measure => simp [intOf]; omega
        · have hz1 : (z != 0) = true := by simpa using h0
          have HEE := Lib.hid (show cmpL xs ys = z by rw [HE.out, if_neg h0])
          clear h0
          go_wp2_with (go_at_call 67; refine HCC.out.mono ?_; rintro e w' ⟨rfl, rfl⟩)
          go_ret
          exact ⟨ret_i HEE.out.symm, HX.out⟩
      · have hii' : (n' : Int) ≤ (i : Int) := by omega
        have HEE := Lib.hid (show cmpL xs ys = 1 by
          rw [HD.out, hdx, show ys.drop i = [] from List.drop_eq_nil_of_le (by rw [HN'.out]; omega)]
          rfl)
        clear hx hdx hxx
        go_wp2_with fail
        go_ret
        exact ⟨ret_i HEE.out.symm, HX.out⟩
    · obtain rfl : n = i := by omega
      have hd0 : xs.drop n = [] := List.drop_eq_nil_of_le (by rw [HN.out]; exact Nat.le_refl _)
      by_cases hlt' : n < n'
      · have hii' : (n : Int) < (n' : Int) := by omega
        have HEE := Lib.hid (show cmpL xs ys = -1 by
          rw [HD.out, hd0, List.drop_eq_getElem_cons (l := ys) (by rw [HN'.out]; exact hlt')]
          rfl)
        clear hx hd0
        go_wp2_with fail
        go_ret
        exact ⟨ret_i HEE.out.symm, HX.out⟩
      · have hii' : ¬ (n : Int) < (n' : Int) := by omega
        have HEE := Lib.hid (show cmpL xs ys = 0 by
          rw [HD.out, hd0, show ys.drop n = [] from List.drop_eq_nil_of_le (by rw [HN'.out]; omega)]
          rfl)
        clear hx hd0
        go_wp2_with fail
        go_ret
        exact ⟨ret_i HEE.out.symm, HX.out⟩
set_option maxRecDepth 100000 in
set_option maxHeartbeats 4000000 in
theorem cloneInts_any (v : Value) (xs : List Int) (w : World) (hI : IsI w v xs) (hl : xs.length ≤ 1000000) :
    Calls Tryz.prog 42 #[v] w fun e w' => ∃ u, e = .returned u ∧ OwnI w.heap.size w' u xs ∧ Ext w w' := by
  have HI := Lib.hid hI
  obtain ⟨A, n, c, rfl, h0, hr, hm⟩ := hI.open_
  have he : ∀ w : World, (binOp .eql 22 (.slice A n c) (.slice none 0 0)).run Tryz.prog w = .ok (.bool A.isNone) w := fun w => Lib.run_eql_slice_nil w _ _ A n c 0 0 Tryz.underlying22
  cases A with
  | none =>
    have hx0 : xs = [] := by
      cases xs with
      | nil => rfl
      | cons x xs =>
        have hl2 := hr.len
        simp only [List.length_cons] at hl2
        obtain ⟨_, _, hA, _⟩ := hr.at_ 0 (by omega)
        cases hA
    subst hx0
    simp only [Option.isNone_none] at he
    clear hI hr h0
    go_enter Tryz.func42, Tryz.ntmps42
    go_wp2_with fail
    go_ret
    exact ⟨_, rfl, OwnI.nil _ _, by (repeat' (first | with_reducible exact Ext.refl _ | with_reducible apply Ext.alloc | with_reducible apply Ext.drew | with_reducible apply Ext.drewN | with_reducible refine Ext.setCell ?_ ?_ _ | with_reducible apply Ext.step | with_reducible assumption | with_reducible exact Nat.le_refl _ | (simp; done) | (simp; omega)))⟩
  | some ad =>
    simp only [Option.isNone_some] at he
    have HM := Lib.hid (OwnI.made w.heap.size w 0 (Nat.le_refl _) #[] (by decide) rfl)
    have HU := Lib.hid (HI.out.ext ((Ext.refl w).alloc (.cells #[] 3)))
    have HBB := Lib.hid (show w.heap.size ≤ (w.alloc (.cells #[] 3)).heap.size by simp)
    have HZ := Lib.hid (show ([] : List Int).length + xs.length ≤ 10000000000 by rw [List.length_nil]; omega)
    clear hI hr h0
    go_enter Tryz.func42, Tryz.ntmps42
    go_wp2_with (at_builtin; refine app_all rfl _ _ rfl rfl rfl HU.out HM.out HBB.out HZ.out ?_; intro v1 w1 o1 b1; have HO1 := Lib.hid o1; have HB1 := Lib.hid b1; clear o1 b1)
    go_ret
    exact ⟨_, rfl, by simpa using HO1.out, ((Ext.refl w).alloc _).below HB1.out (Nat.le_refl _)⟩
end
section
/- PSim: read.Simplest: what it finds, and the table that it lays. Condition: none in the plain part. -/
open Go.RowKit Go.ChangeMaps

/-- The table of what fits. -/
def fitsB (F : Int → List (Int × Int)) (n : Nat) (start ad : Int) (m : Nat) : List (List Bool) := (List.range m).map fun c : Nat => (List.range n).map fun ph : Nat => fitB F (start + (c : Int) * ad) (c : Int) ph
theorem fitsB_len (F : Int → List (Int × Int)) (n : Nat) (start ad : Int) (m : Nat) : (fitsB F n start ad m).length = m := by simp [fitsB]
theorem fitsB_succ (F : Int → List (Int × Int)) (n : Nat) (start ad : Int) (m : Nat) : fitsB F n start ad (m + 1) = fitsB F n start ad m ++ [(List.range n).map fun ph : Nat => fitB F (start + (m : Int) * ad) (m : Int) ph] := by
  unfold fitsB
  rw [List.range_succ, List.map_append]
  rfl
/-- A row of the table while it is filled: the first m entries of the list are marked. -/
def markTo (L : List Int) (n m : Nat) : List Bool := (List.range n).map fun ph : Nat => decide ((ph : Int) ∈ L.take m)
theorem markTo_len (L : List Int) (n m : Nat) : (markTo L n m).length = n := by simp [markTo]
theorem markTo_zero (L : List Int) (n : Nat) : markTo L n 0 = List.replicate n false := by
  apply List.ext_getElem
  · simp [markTo]
  · intro i h1 h2
    simp [markTo]
theorem markTo_set {L : List Int} {n m ph : Nat} (h : L[m]? = some (ph : Int)) : (markTo L n m).set ph true = markTo L n (m + 1) := by
  apply List.ext_getElem
  · simp [markTo]
  · intro i h1 h2
    rw [List.getElem_set]
    simp only [markTo, List.getElem_map, List.getElem_range]
    have e : L.take (m + 1) = L.take m ++ [(ph : Int)] := by rw [List.take_add_one, h]; rfl
    rw [e]
    by_cases hp : ph = i
    · subst hp
      rw [if_pos rfl]
      simp
    · rw [if_neg hp]
      have : ¬ (i : Int) = (ph : Int) := by omega
      simp [List.mem_append, this]
theorem markTo_all (F : Int → List (Int × Int)) (n : Nat) (x c : Int) : markTo (fitTo F x c n) n (fitTo F x c n).length = (List.range n).map fun ph : Nat => fitB F x c ph := by
  unfold markTo
  refine List.map_congr_left fun ph hp => ?_
  rw [List.take_length]
  have : ((ph : Int) ∈ fitTo F x c n) ↔ fitB F x c ph = true := by
    unfold fitTo
    rw [List.mem_map]
    constructor
    · rintro ⟨q, hq, e⟩
      obtain rfl : q = ph := by omega
      exact (List.mem_filter.1 hq).2
    · intro h
      exact ⟨ph, List.mem_filter.2 ⟨hp, h⟩, rfl⟩
  cases hb : fitB F x c ph
  · rw [decide_eq_false]; rw [this, hb]; decide
  · rw [decide_eq_true]; rw [this, hb]
theorem fitTo_at {F : Int → List (Int × Int)} {n : Nat} {x c : Int} {m : Nat} (h : m < (fitTo F x c n).length) : ∃ ph : Nat, (fitTo F x c n)[m] = (ph : Int) ∧ ph < n := by
  have := List.getElem_mem h
  generalize (fitTo F x c n)[m] = z at *
  unfold fitTo at this
  obtain ⟨q, hq, e⟩ := List.mem_map.1 this
  exact ⟨q, e.symm, List.mem_range.1 (List.mem_filter.1 hq).1⟩
theorem fitTo_le (F : Int → List (Int × Int)) (n : Nat) (x c : Int) : (fitTo F x c n).length ≤ n := by
  unfold fitTo
  rw [List.length_map]
  have := List.length_filter_le (fitB F x c) (List.range n)
  rwa [List.length_range] at this
/-- Of two lists the first. -/
def pickO : Option (List Int) → Option (List Int) → Option (List Int)
  | none, b => b
  | some l, none => some l
  | some l, some m => if cmpL l m < 0 then some l else some m
def bestTo (fits : List (List Bool)) (n st first : Nat) : Nat → Option (List Int)
  | 0 => none
  | k + 1 => pickO (shiftsO fits n st k first) (bestTo fits n st first k)
/-- What is found: the first number of shifts, and the first phase, for which there are shifts; and the first of these. -/
structure SimIs (fits : List (List Bool)) (n st first : Nat) (best : List Int) : Prop where
  s1 : 1 ≤ st
  s2 : st ≤ 12
  fi : first < n
  is : bestTo fits n st first n = some best
  no : ∀ f, f < first → bestTo fits n st f n = none
  few : ∀ s, 1 ≤ s → s < st → ∀ f, f < n → bestTo fits n s f n = none
theorem shiftsO_len {fits : List (List Bool)} {n st sum first : Nat} {l : List Int} (hs : 1 ≤ st) (h : shiftsO fits n st sum first = some l) : l.length = st := by
  unfold shiftsO at h
  split at h
  · cases h
  · rename_i l' ph e
    split at h
    · simp only [Option.some.injEq] at h
      rw [← h, List.length_append, shfTo_len e, List.length_singleton]
      omega
    · cases h
theorem bestTo_len {fits : List (List Bool)} {n st first : Nat} (hs : 1 ≤ st) : ∀ {k : Nat} {l : List Int}, bestTo fits n st first k = some l → l.length = st
  | 0, l, h => by cases h
  | k + 1, l, h => by
    unfold bestTo at h
    cases h1 : shiftsO fits n st k first with
    | none => rw [h1] at h; exact bestTo_len hs h
    | some a =>
      cases h2 : bestTo fits n st first k with
      | none => rw [h1, h2] at h; simp only [pickO, Option.some.injEq] at h; rw [← h]; exact shiftsO_len hs h1
      | some b =>
        rw [h1, h2] at h
        simp only [pickO] at h
        split at h
        · simp only [Option.some.injEq] at h; rw [← h]; exact shiftsO_len hs h1
        · simp only [Option.some.injEq] at h; rw [← h]; exact bestTo_len hs h2

section
variable {α : Type} {K : EK α} {O : EK RowH}
/-- One more row. -/
theorem TabM.push {B : Nat} {w w1 w2 : World} {v v' : Value} {Ts : List RowH} {T1 : RowH} {xss : List (List α)} {ys : List α} (h : TabM O K B w v Ts xss) (hne : O.ty ≠ K.ty) (x : Ext w w1) (o : K.Own w.heap.size w1 (rowH T1) ys) (gr : w1.grownBy w2 v.ownBlock) (ho : O.Own B w2 v' (Ts ++ [T1])) (hB : B ≤ w.heap.size) :
    TabM O K B w2 v' (Ts ++ [T1]) (xss ++ [ys]) := by
  have hl := h.len
  have key : ∀ p (hp : p < Ts.length), ∀ r, (rowH Ts[p]).ownBlock = some r → r < w.heap.size := fun p hp r hr => ((h.row p hp (by omega)).lt r hr).2
  have hnew : ∀ r, (rowH T1).ownBlock = some r → w.heap.size ≤ r := fun r hr => (o.lt r hr).1
  refine ⟨ho, by simp [hl], fun q a b => ?_, fun p q a b hpq => ?_⟩
  · by_cases hq : q < Ts.length
    · rw [List.getElem_append_left hq, List.getElem_append_left (by omega)]
      exact ((h.row q hq (by omega)).ext x).kept gr (own_ne ((h.row q hq (by omega)).ext x) (h.own.ext x) (Ne.symm hne))
    · have e : q = Ts.length := by
        simp only [List.length_append, List.length_singleton] at a
        omega
      subst e
      have h2 : Ts.length - xss.length = 0 := by omega
      rw [List.getElem_append_right (Nat.le_refl _), List.getElem_append_right (by omega)]
      simp only [Nat.sub_self, h2, List.getElem_cons_zero]
      exact (o.mono hB).kept gr (own_ne o (h.own.ext x) (Ne.symm hne))
  · simp only [List.length_append, List.length_singleton] at a b
    by_cases hp : p < Ts.length <;> by_cases hq : q < Ts.length
    · rw [List.getElem_append_left hp, List.getElem_append_left hq]
      exact h.dist p q hp hq hpq
    · have e : q = Ts.length := by omega
      subst e
      have e1 : (Ts ++ [T1])[Ts.length] = T1 := by simp
      rw [List.getElem_append_left hp, e1]
      cases hr : (rowH Ts[p]).ownBlock with
      | none => exact .inl rfl
      | some r =>
        refine .inr fun h1 => ?_
        have h2 := hnew r h1.symm
        have h3 := key p hp r hr
        omega
    · have e : p = Ts.length := by omega
      subst e
      have e1 : (Ts ++ [T1])[Ts.length] = T1 := by simp
      rw [List.getElem_append_left hq, e1]
      cases hr : (rowH T1).ownBlock with
      | none => exact .inl rfl
      | some r =>
        refine .inr fun h1 => ?_
        have h2 := hnew r hr
        have h3 := key q hq r h1.symm
        omega
    · omega
theorem TabM.nil (B : Nat) (w : World) : TabM O K B w (.slice none 0 0) [] [] :=
  ⟨EK.Own.nil _ _, rfl, fun q a _ => absurd a (by simp), fun p q a _ _ => absurd a (by simp)⟩
end
end
open Go.RowKit Go.ChangeMaps

theorem rowsK_table : rowsK.ty ≠ 90 := by decide
theorem own_falsesS (W : World) (B N : Nat) (hB : B ≤ W.heap.size) (hN : N ≤ 1000) : boolK.Own B (W.alloc (.cells (madeCells #[.bool false] N) 4)) (.slice (some ⟨W.heap.size, 0, none⟩) N N) (List.replicate N false) := by
  have := EK.Own.lit (K := boolK) (B := B) W (madeCells #[.bool false] N) (List.replicate N false) (by
    rw [toList_madeCells_one]
    clear hN
    induction N with
    | zero => rfl
    | succ N ih => rw [List.replicate_succ, List.replicate_succ, List.flatMap_cons, ← ih]; rfl) hB (by simp [maxLen]; omega)
  rw [List.length_replicate] at this
  exact this
theorem rowsK_head : rowsK.ty ≠ 46 := by decide
theorem TabM.setOther {α : Type} {K : EK α} {O : EK RowH} {B b o : Nat} {w : World} {u v : Value} {Ts : List RowH} {xss : List (List α)} (h : TabM O K B w v Ts xss) (hb : b < B) : TabM O K B (w.setCell ⟨b, o, none⟩ u) v Ts xss :=
  ⟨h.own.setCell hb, h.len, fun q a c => (h.row q a c).setCell hb, h.dist⟩
/-- A row of bools is put behind the table. -/
theorem rowPush {B b1 N : Nat} {w w1 w3 : World} {v v' : Value} {Ts : List RowH} {fs : List (List Bool)} {r : List Bool} {u : Obj} (h : TabM rowsK boolK B w v Ts fs) (x : Ext w w1) (o : boolK.Own w.heap.size w1 (.slice (some ⟨w.heap.size, 0, none⟩) N N) r) (o3 : rowsK.Own B w3 v' (Ts ++ [(some ⟨w.heap.size, 0, none⟩, N, N)]))
    (g : (w1.alloc u).grownBy w3 v.ownBlock) (hB : B ≤ w.heap.size) (hb : b1 + 1 < B) :
    (∀ d c (u : Value), d < b1 + 2 → TabM rowsK boolK B (w3.setCell ⟨d, c, none⟩ u) v' (Ts ++ [(some ⟨w.heap.size, 0, none⟩, N, N)]) (fs ++ [r])) ∧ ∀ b cs T, BoxAt b cs T (w1.alloc u) → rowsK.ty ≠ T → BoxAt b cs T w3 := by
  have hx := x.alloc u
  refine ⟨fun d c u hd => (h.push rows_ne hx (o.ext ((Ext.refl _).alloc _)) g o3 hB).setOther (by omega), fun b cs T hbx hne => hbx.grown (h.own.ext hx) hne g⟩
theorem own_row {α : Type} {K : EK α} {B g : Nat} {W : World} {v : Value} {xs : List α} {cs : Array Value} (h : K.Own B W v xs) (hg : g < B) : K.Own B (W.setRow g cs) v xs := by
  refine h.kept (row := some g) ⟨rfl, rfl, rfl, by simp [World.setRow], fun i _ hi => setRow_other W _ i _ (fun e => hi (by rw [e]))⟩ ?_
  cases hv : v.ownBlock with
  | none => exact .inl rfl
  | some k =>
    refine .inr fun e => ?_
    have := (h.lt k hv).1
    simp only [Option.some.injEq] at e
    omega
/-- A whole struct is stored. -/
theorem doneO_store {B : Nat} {F : Fence} {nn : Nat} {P : Program} {W : World} {g : Nat} {t : TypeId} {z : Array Value} {v : Value} (hg : W.heap[g]? = some (.cells z t (0, 0))) (hi : (P.info? t).map (·.size) = some v.cells.size) (hz : z.size = v.cells.size)
    (h1 : v.cells.all (·.oneCell') = true) {o : Oper} {a : Act} {x d : Operand} (ho : o.op = .store t d x) (hd : a.eval d = .pointer (some ⟨g, 0, none⟩)) (hx : a.eval x = v) (hB : B ≤ g) {K : Value → World → Prop} (hK : ∀ u, K u (W.setRow g v.cells)) :
    doneO B F nn P W K ((execOp a.eval o).run P W) := by
  obtain ⟨n, hr, hn⟩ := run_store_block (P := P) hg hi hz h1 ho hd hx
  rw [hr]
  have hb : Below B W (W.setRow g v.cells) := ⟨rfl, rfl, rfl, by simp [World.setRow], fun k hk => setRow_other W _ k _ (by omega)⟩
  rcases hn with rfl | ⟨u, rfl⟩
  · exact ⟨hb, hK _⟩
  · exact ⟨hb, hK _⟩
/-- The best list as yet. -/
structure BestIs (B : Nat) (W : World) (v : Value) (o : Option (List Int)) : Prop where
  no : o = none → v = .slice none 0 0
  yes : ∀ l, o = some l → intK.Own B W v l
  shp : ∃ A k c, v = .slice A k c
theorem BestIs.none_ (B : Nat) (W : World) : BestIs B W (.slice none 0 0) none := ⟨fun _ => rfl, fun _ h => (by cases h), ⟨_, _, _, rfl⟩⟩
theorem BestIs.ext {B : Nat} {W W' : World} {v : Value} {o : Option (List Int)} (h : BestIs B W v o) (x : Ext W W') : BestIs B W' v o := ⟨h.no, fun l e => (h.yes l e).ext x, h.shp⟩
def pickV (v5 v : Value) : Option (List Int) → Option (List Int) → Value
  | none, _ => v
  | some _, none => v5
  | some l, some m => if cmpL l m < 0 then v5 else v
theorem BestIs.pick {B : Nat} {W : World} {v5 v : Value} {o5 b0 : Option (List Int)} (h5 : ∀ l, o5 = some l → intK.Own B W v5 l) (hs : ∃ A k c, v5 = .slice A k c) (h : BestIs B W v b0) : BestIs B W (pickV v5 v o5 b0) (pickO o5 b0) := by
  cases o5 with
  | none => cases b0 <;> exact h
  | some l =>
    have hn : BestIs B W v5 (some l) := ⟨fun h => (by cases h), fun l' h' => (by cases h'; exact h5 l rfl), hs⟩
    cases b0 with
    | none => exact hn
    | some m =>
      simp only [pickV, pickO]
      split
      · exact hn
      · exact h
/-- What Simplest returns. -/
def SimRet (p : PrT) (w : World) (e : Ending) (w' : World) : Prop := ∃ v : PrV, e = .returned (.tuple #[p.val v, .int .i64 0]) ∧ PrIs w' v p ∧ Ext w w'

set_option maxRecDepth 100000 in
set_option maxHeartbeats 16000000 in
theorem sim_one (hb ho hc : Nat) (va vb rv : Value) (p : OneT) (start : Int) (la : Nat) (w : World) (h : OneAt w hb ho va vb rv p) (hk : OneOk p) (hs : 0 ≤ start ∧ start ≤ 10000)
    (F : Int → List (Int × Int)) (hF : F = basesF (liftL p.ros p.rub) p.th p.rd) (hla : F (la : Int) ≠ []) (hle : ∀ d, F d ≠ [] → 0 ≤ d ∧ d ≤ (la : Int)) (hl11 : la ≤ 11)
    (hne : ∀ c : Nat, c ≤ la → fitTo F (start + (c : Int) * p.ad) (c : Int) p.ros.length ≠ [])
    (stF first : Nat) (best : List Int) (hsim : SimIs (fitsB F p.ros.length start p.ad (la + 1)) p.ros.length stF first best) :
    Calls Tryz.prog 18 #[oneV hb ho hc rv p.th p.ad, .agg #[.int .i64 0, .int .i64 p.th, .int .i64 p.ad, .int .i64 start, .int .i64 start], .int .i64 start] w
      (SimRet ⟨mvL p.ros first, p.rub, start, p.th, p.ad, best⟩ w) := by
  have HFT := Lib.hid fun (W : World) (x : Ext w W) => fits_one hb ho hc va vb rv p start la W (h.ext x) hk hs F hF hla hle hl11 hne
  obtain ⟨zs, rs, th, ad, rd⟩ := p
  simp only at HFT hsim hne ⊢
  obtain ⟨AR, nr, cr, rfl, -, -, -, -⟩ := h.rd.open_
  obtain ⟨hF1, ⟨t1, t2⟩, ⟨a1, a2⟩, -, -⟩ := hk
  simp only at hF1 t1 t2 a1 a2
  have HROS := Lib.hid h.ros
  have HRUB := Lib.hid h.rub
  have HCK := Lib.hid (show checkB zs = true by
    have := (fine_checkP hF1).1
    unfold checkE at this
    by_cases e : checkB zs = true
    · exact e
    · rw [if_neg e] at this; omega)
  obtain ⟨Av, n, cv, rfl, hvn, hzr, -⟩ := h.ros.open_
  obtain ⟨Ab, nb, cb, rfl, -, hbr, -⟩ := h.rub.open_
  have hln := hzr.len
  have hlb := hbr.len
  simp only at hln hlb
  have hlo : 3 ≤ n := by rw [← hln]; exact hF1.lo
  have hhi : n ≤ 96 := by rw [← hln]; exact hF1.hi
  have HRL := Lib.hid (show rs.length ≤ 1000000 by have := hF1.le31; omega)
  rw [hln] at HFT hsim hne
  have HH := Lib.hid (And.intro h.h0 h.h1)
  obtain ⟨s1, s2⟩ := hs
  have HSIM := Lib.hid hsim
  have HLN := Lib.hid hln
  obtain ⟨KK, hKK⟩ : ∃ K, K = la + 1 := ⟨_, rfl⟩
  rw [← hKK] at HFT HSIM
  have hK12 : KK ≤ 12 := by omega
  have hK1 : 1 ≤ KK := by omega
  clear h hF1 hzr hbr hln hlb hF hla hle hne hsim hvn hKK
  go_enter Tryz.func18, Tryz.ntmps18
  go_wp2_with fail
  refine lay_calls (fun W => BoxAt w.heap.size #[.slice (some ⟨hb, ho, none⟩) 1 hc, .int .i64 th, .int .i64 th, .int .i64 ad, .int .i64 ad, .slice AR nr cr] 28 W ∧ BoxAt (w.heap.size + 1) #[.int .i64 0, .int .i64 th, .int .i64 ad, .int .i64 start, .int .i64 start] 57 W ∧
    BoxAt (w.heap.size + 1 + 1) #[.slice none 0 0, .slice none 0 0, .int .i64 0, .int .i64 0, .int .i64 0, .slice none 0 0] 24 W ∧ Ext w W) ⟨?_, ?_, ?_, by (repeat' (first | with_reducible exact Ext.refl _ | with_reducible apply Ext.alloc | with_reducible apply Ext.drew | with_reducible apply Ext.drewN | with_reducible refine Ext.setCell ?_ ?_ _ | with_reducible apply Ext.step | with_reducible assumption | with_reducible exact Nat.le_refl _ | (simp; done) | (simp; omega)))⟩ ?_
  · exact (BoxAt.new w _ _).ext (((Ext.refl _).alloc _).alloc _)
  · have := (BoxAt.new (w.alloc (.cells #[.slice (some ⟨hb, ho, none⟩) 1 hc, .int .i64 th, .int .i64 th, .int .i64 ad, .int .i64 ad, .slice AR nr cr] 28)) #[.int .i64 0, .int .i64 th, .int .i64 ad, .int .i64 start, .int .i64 start] 57).ext ((Ext.refl _).alloc (.cells #[.slice none 0 0, .slice none 0 0, .int .i64 0, .int .i64 0, .int .i64 0, .slice none 0 0] 24))
    simpa using this
  · have := (BoxAt.new ((w.alloc (.cells #[.slice (some ⟨hb, ho, none⟩) 1 hc, .int .i64 th, .int .i64 th, .int .i64 ad, .int .i64 ad, .slice AR nr cr] 28)).alloc (.cells #[.int .i64 0, .int .i64 th, .int .i64 ad, .int .i64 start, .int .i64 start] 57)) #[.slice none 0 0, .slice none 0 0, .int .i64 0, .int .i64 0, .int .i64 0, .slice none 0 0] 24)
    simpa using this
  rintro W0 ⟨bp, bf, br, x0⟩
  refine (HFT.out _ x0).mono ?_
  rintro e W1 ⟨av, Ts0, rfl, tb0, x1⟩
  have HX1 := Lib.hid (x0.trans x1)
  have HTB := Lib.hid (tb0.mono (B' := w.heap.size) x0.bel.size)
  have HBF := Lib.hid (bf.ext x1)
  have HBR := Lib.hid (br.ext x1)
  have hbp := bp.ext x1
  have p0 := hbp.cell (i := 0) rfl
  have f0 := HBF.out.cell (i := 0) rfl
  have lp := cell_lt p0
  have lf := cell_lt f0
  obtain ⟨h0, h1⟩ := HH.out
  replace h0 := HX1.out.cell_some h0
  replace h1 := HX1.out.cell_some h1
  have lh := cell_lt h0
  have hTl : Ts0.length = KK := by rw [tb0.len, fitsL, List.length_map, List.length_range]
  obtain ⟨ga, ca, rfl, hga⟩ : ∃ g c, av = .slice (some ⟨g, 0, none⟩) KK c ∧ g < W1.heap.size := by
    obtain ⟨g, c, rfl, _, hg, _⟩ := tb0.own.slot (j := 0) (by omega)
    exact ⟨g, c, by rw [hTl], hg⟩
  clear tb0 x0 x1 bp bf br hbp
  go_wp2_with fail
  refine lay_wp (fun W => BoxAt W1.heap.size #[.slice Av n cv, .slice Ab nb cb] 46 W ∧ BoxAt (W1.heap.size + 1) #[.int .i64 (n : Int), .slice none 0 0] 90 W ∧ Ext W1 W) ⟨(BoxAt.new W1 _ _).ext ((Ext.refl _).alloc _), ?_, by (repeat' (first | with_reducible exact Ext.refl _ | with_reducible apply Ext.alloc | with_reducible apply Ext.drew | with_reducible apply Ext.drewN | with_reducible refine Ext.setCell ?_ ?_ _ | with_reducible apply Ext.step | with_reducible assumption | with_reducible exact Nat.le_refl _ | (simp; done) | (simp; omega)))⟩ ?_
  · have := BoxAt.new (W1.alloc (.cells #[.slice Av n cv, .slice Ab nb cb] 46)) #[.int .i64 (n : Int), .slice none 0 0] 90
    simpa using this
  rintro W2 ⟨bh, bt, x2⟩
  have HBH := Lib.hid bh
  have HBT := Lib.hid bt
  have HX2 := Lib.hid x2
  have HSZ := Lib.hid (show W1.heap.size + 1 < W2.heap.size from bt.lt)
  have HTL := Lib.hid hTl
  have hmk : ∀ W : World, (Instr.makeSlice 91 (.int .i64 (n : Int)) (.int .i64 (n : Int))).run Tryz.prog W = .ok (.slice (some ⟨W.heap.size, 0, none⟩) n n) (W.alloc (.cells (madeCells #[.bool false] n) 4)) := fun W =>
    run_make_row' (P := Tryz.prog) 91 4 (.bool false) 1 Tryz.underlying91 boolK.info rfl .i64 .i64 n (by omega) (by omega) W
  clear p0 f0 lp lf h0 h1 lh hTl hga bh bt x2
  go_loopw [48] (fun iv W => ∃ (q : Nat) (Ts : List RowH) (vf : Value), q ≤ KK ∧ iv = .int .i64 (q : Int) ∧ TabM rowsK boolK W2.heap.size W vf Ts (fitsB F n start ad q) ∧ BoxAt W1.heap.size #[.slice Av n cv, .slice Ab nb cb] 46 W ∧ BoxAt (W1.heap.size + 1) #[.int .i64 (n : Int), vf] 90 W ∧ Ext W1 W ∧ Hid (W2.heap.size ≤ W.heap.size)) (fun iv _ => KK - (intOf iv).toNat)
  case atStart => exact ⟨0, [], _, by omega, rfl, TabM.nil _ _, HBH.out, HBT.out, HX2.out, Lib.hid (Nat.le_refl _)⟩
  case round =>
    obtain ⟨q, Ts, vf, hq, rfl, htf, hbh, hbt, hx, HSW⟩ := hrel
    have HTF := Lib.hid htf
    have HBHq := Lib.hid hbh
    have HBTq := Lib.hid hbt
    have HXq := Lib.hid hx
    obtain ⟨Af, nf, cf, rfl⟩ := htf.own.shape
    by_cases hqK : q < KK
    · have hqi : (q : Int) < (KK : Int) := by omega
      have htb := HTB.out.ext hx
      have hqT : q < Ts0.length := by rw [HTL.out]; exact hqK
      have hqF : q < (fitsL F n start ad KK).length := by rw [fitsL, List.length_map, List.length_range]; exact hqK
      have hrow := htb.row q hqT hqF
      have e1 : (fitsL F n start ad KK)[q] = fitTo F (start + (q : Int) * ad) (q : Int) n := by simp [fitsL]
      rw [e1] at hrow
      have HLL := Lib.hid (fitTo_le F n (start + (q : Int) * ad) (q : Int))
      obtain ⟨L, hL⟩ : ∃ L, L = fitTo F (start + (q : Int) * ad) (q : Int) n := ⟨_, rfl⟩
      have HAT := Lib.hid fun (m : Nat) (h : m < L.length) => (show ∃ ph : Nat, L[m] = (ph : Int) ∧ ph < n from by subst hL; exact fitTo_at h)
      have HLE := Lib.hid hL
      rw [← hL] at hrow HLL
      obtain ⟨g', cg, hge, _, hgl, hgc, -⟩ := htb.own.slot (j := q) hqT
      simp only [Value.slice.injEq, Option.some.injEq, Addr.mk.injEq] at hge
      obtain ⟨⟨rfl, -⟩, -, -⟩ := hge
      have r0 := hgc 0 _ rfl
      simp only [rowsIK, Nat.mul_one, Nat.add_zero] at r0
      obtain ⟨Ar, mm, cr2, hrv, hmm, -, hrr, -⟩ := hrow.is.open_
      rw [show Value.slice Ts0[q].1 Ts0[q].2.1 Ts0[q].2.2 = .slice Ar mm cr2 from hrv] at r0
      have HRR := Lib.hid hrr
      have HMM := Lib.hid hmm
      have hmb : mm ≤ 96 := by have := HLL.out; omega
      have k0 := hbt.cell (i := 0) rfl
      have k1 := hbt.cell (i := 1) rfl
      have lr := cell_lt r0
      have lk := cell_lt k0
      obtain ⟨wq, rfl⟩ : ∃ wq, wq = wr := ⟨_, rfl⟩
      clear htf hbh hbt hx htb hqT hqF hrow e1 hL hgc hrv hmm hrr
      go_wp2_with fail
      clear k0 k1 lk r0 lr
      go_loopw [57] (fun iv W => ∃ m : Nat, m ≤ mm ∧ iv = .int .i64 (m : Int) ∧ boolK.Own wq.heap.size W (.slice (some ⟨wq.heap.size, 0, none⟩) n n) (markTo L n m) ∧ Ext wq W) (fun iv _ => mm - (intOf iv).toNat)
      case atStart => exact ⟨0, by omega, rfl, by rw [markTo_zero]; exact own_falsesS wq _ n (Nat.le_refl _) (by omega), (Ext.refl _).alloc _⟩
      case round =>
        obtain ⟨m, hm, rfl, hom, hxm⟩ := hrel
        have HOM := Lib.hid hom
        have HXM := Lib.hid hxm
        by_cases hmlt : m < mm
        · have hmi : (m : Int) < (mm : Int) := by omega
          have hml : m < L.length := by rw [HMM.out]; exact hmlt
          obtain ⟨ph, hph, hpn⟩ := HAT.out m hml
          obtain ⟨b, o, rfl, _, m0⟩ := ints_at HRR.out m hml
          replace m0 := hxm.cell_some m0
          rw [hph] at m0
          have HPH := Lib.hid (show L[m]? = some (ph : Int) by rw [List.getElem?_eq_getElem hml, hph])
          have hpi : (ph : Int) < (n : Int) := by omega
          obtain ⟨g', cg, hge, _, hgl, hgc, hgf⟩ := hom.slot (j := ph) (by rw [markTo_len]; exact hpn)
          simp only [Value.slice.injEq, Option.some.injEq, Addr.mk.injEq] at hge
          obtain ⟨⟨rfl, -⟩, -, -⟩ := hge
          have d0 := hgc 0 _ rfl
          simp only [boolK, Nat.mul_one, Nat.add_zero] at d0
          have df := hgf ph
          have lm := cell_lt m0
          clear hom hxm hgc hgf hph hml
          go_wp2_with fail
          go_roundw
          case rel => exact ⟨m + 1, by omega, by go_num, by rw [← markTo_set HPH.out]; exact HOM.out.put1N (markTo_len _ _ _) hpn rfl true _ rfl, HXM.out.setCell (p := ⟨wq.heap.size, ph, none⟩) (Nat.le_refl _) _⟩
          case measure => simp [intOf]; omega
        · obtain rfl : mm = m := by omega
          have HOA := Lib.hid (show boolK.Own wq.heap.size wr (.slice (some ⟨wq.heap.size, 0, none⟩) n n) ((List.range n).map fun ph : Nat => fitB F (start + (q : Int) * ad) (q : Int) ph) by
            have := hom
            rw [← HMM.out, HLE.out, markTo_all] at this
            exact this)
          have hbt := HBTq.out.ext hxm
          have k1 := hbt.cell (i := 1) rfl
          have lk := cell_lt k1
          have HSR := Lib.hid (Nat.le_trans HSW.out hxm.bel.size)
          have HTN := Lib.hid (show Ts.length ≤ 1000000000 by rw [HTF.out.len, fitsB_len]; omega)
          clear hom hxm hbt hmk
          go_wp2_with (at_builtin; refine EK.app (K := rowsK) (B := W2.heap.size) (xs := Ts) (v := .slice Af nf cf) rfl (.tmp 66) (.tmp 68) rfl wr.heap.size 1 (some ⟨wq.heap.size, 0, none⟩, n, n) rfl rfl (fun ii u hu => cell_new hu) (HTF.out.own.ext (HXM.out.alloc _)) (by simp; exact Nat.le_succ_of_le HSR.out) HTN.out ?_; intro v' w3 o3 b3 g3; have HTG := Lib.hid (rowPush HTF.out HXM.out HOA.out o3 g3 HSW.out HSZ.out); have HBN := Lib.hid (HTG.out.2 _ _ _ (HBTq.out.ext (HXM.out.alloc _)) rowsK_table); have HBG := Lib.hid (HTG.out.2 _ _ _ (HBHq.out.ext (HXM.out.alloc _)) rowsK_head); have HX3 := Lib.hid (show Ext W1 w3 from (HXq.out.trans (HXM.out.alloc (.cells #[rowH (some ⟨wq.heap.size, 0, none⟩, n, n)] 91))).below (b3.mono (by have := HSZ.out; omega)) (Nat.le_refl _)); have HS3 := Lib.hid (Nat.le_trans (show W2.heap.size ≤ (wr.alloc (.cells #[rowH (some ⟨wq.heap.size, 0, none⟩, n, n)] 91)).heap.size by simp; exact Nat.le_succ_of_le HSR.out) g3.size); have n1 := HBN.out.cell (i := 1) rfl; have n2 := frozen_of_row w3 (W1.heap.size + 1) 1 _ _ HBN.out; have n3 := cell_lt n1; obtain ⟨A3, k3, c3, rfl⟩ := o3.shape; clear o3 b3 g3)
          go_roundw
          case rel =>
            refine ⟨q + 1, Ts ++ [(some ⟨wq.heap.size, 0, none⟩, n, n)], .slice A3 k3 c3, by omega, by go_num, ?_, HBG.out.setOther (p := ⟨W1.heap.size + 1, 1, none⟩) (by simp) _, ?_, HX3.out.setCell (p := ⟨W1.heap.size + 1, 1, none⟩) (by simp) _, Lib.hid (by simpa using HS3.out)⟩
            · rw [fitsB_succ]
              exact HTG.out.1 _ _ _ (Nat.lt_succ_self _)
            · exact HBN.out.setCell 1 _
          case measure => simp [intOf]; omega
    · obtain rfl : KK = q := by omega
      have hti : TableIs wr (.slice Af nf cf) n (fitsB F n start ad KK) := ⟨htf.is, fun l hl => by
        unfold fitsB at hl
        obtain ⟨c, -, rfl⟩ := List.mem_map.1 hl
        simp, by omega, hhi, by rw [fitsB_len]; omega⟩
      obtain ⟨fits, hfits⟩ : ∃ fits, fits = fitsB F n start ad KK := ⟨_, rfl⟩
      rw [← hfits] at hti HSIM
      have HSH := Lib.hid fun (st f sum : Nat) (W : World) (x : Ext wr W) (h1 : 1 ≤ st) (h2 : st ≤ 12) (h3 : f < n) (h4 : sum < n) => shifts_any (.slice Af nf cf) n fits st f sum W (hti.ext x) h1 h2 h3 h4
      obtain ⟨W4, rfl⟩ : ∃ z, z = wr := ⟨_, rfl⟩
      have hst12 := HSIM.out.s2
      have hst1 := HSIM.out.s1
      have hfn := HSIM.out.fi
      clear htf hbh hbt hx hti hfits HTF hqK hq hmk hK12 hK1 HTB HTL HFT
      go_wp2_with fail
      go_loopw [72] (fun iv W => ∃ i : Nat, i + 1 ≤ stF ∧ iv = .int .i64 (i : Int) ∧ Ext W4 W) (fun iv _ => 12 - (intOf iv).toNat)
      case atStart => exact ⟨0, by omega, rfl, Ext.refl _⟩
      case round =>
        obtain ⟨i, hi, rfl, hx⟩ := hrel
        have HXi := Lib.hid hx
        have hii : (i : Int) < 12 := by omega
        have k0 := (HBTq.out.ext hx).cell (i := 0) rfl
        have lk := cell_lt k0
        clear hx
        go_wp2_with fail
        clear k0 lk
        go_loopw [77] (fun iv W => ∃ f : Nat, f ≤ n ∧ iv = .int .i64 (f : Int) ∧ Hid (i + 1 = stF → f ≤ first) ∧ Ext W4 W) (fun iv _ => n - (intOf iv).toNat)
        case atStart => exact ⟨0, by omega, rfl, Lib.hid (fun _ => Nat.zero_le _), HXi.out⟩
        case round =>
          obtain ⟨f, hf, rfl, HFI, hx⟩ := hrel
          have HXf := Lib.hid hx
          by_cases hfl : f < n
          · have hfi : (f : Int) < (n : Int) := by omega
            have k0 := (HBTq.out.ext hx).cell (i := 0) rfl
            have lk := cell_lt k0
            clear hx
            go_wp2_with fail
            clear k0 lk
            go_loopw [82, 19] (fun sv bv W => ∃ k : Nat, k ≤ n ∧ sv = .int .i64 (k : Int) ∧ BestIs W4.heap.size W bv (bestTo fits n (i + 1) f k) ∧ Ext W4 W) (fun sv _ _ => n - (intOf sv).toNat)
            case atStart => exact ⟨0, by omega, rfl, BestIs.none_ _ _, HXf.out⟩
            case round =>
              obtain ⟨k, hk, rfl, hb, hx⟩ := hrel
              have HBI := Lib.hid hb
              have HXk := Lib.hid hx
              obtain ⟨b0, hb0⟩ : ∃ b, b = bestTo fits n (i + 1) f k := ⟨_, rfl⟩
              have HB0 := Lib.hid hb0
              have hbl : ∀ l, b0 = some l → l.length = i + 1 := fun l h => bestTo_len (by omega) (by rw [← hb0]; exact h)
              rw [← hb0] at HBI
              have HBL := Lib.hid hbl
              obtain ⟨Abv, nbv, cbv, rfl⟩ := hb.shp
              by_cases hkn : k < n
              · have hki : (k : Int) < (n : Int) := by omega
                have k0 := (HBTq.out.ext hx).cell (i := 0) rfl
                have k1 := (HBTq.out.ext hx).cell (i := 1) rfl
                have lk := cell_lt k0
                have w1 : IntKind.i64.wrap ((i : Int) + 1) = ((i + 1 : Nat) : Int) := IntWalk.i64_in _ (by omega)
                have HSC := Lib.hid (HSH.out (i + 1) f k wr hx (by omega) (by omega) hfl hkn)
                obtain ⟨o5, ho5⟩ : ∃ o, o = shiftsO fits n (i + 1) k f := ⟨_, rfl⟩
                have HO5 := Lib.hid ho5
                rw [← ho5, show ((i + 1 : Nat) : Int) = (i : Int) + 1 by omega] at HSC
                clear hb hx hb0 hbl ho5
                go_wp2_with fail
                refine HSC.out.mono ?_
                rintro e W5 ⟨v5, rfl, own5, ⟨A5, n5, c5, rfl⟩, x5⟩
                have HX5 := Lib.hid (HXk.out.trans x5)
                have HBI5 := Lib.hid (HBI.out.ext x5)
                have HST := Lib.hid (show BestIs W4.heap.size W5 (pickV (.slice A5 n5 c5) (.slice Abv nbv cbv) o5 b0) (bestTo fits n (i + 1) f (k + 1)) from by
                  have e : bestTo fits n (i + 1) f (k + 1) = pickO o5 b0 := by rw [HO5.out, HB0.out]; rfl
                  rw [e]
                  exact BestIs.pick (fun l h => (own5 l h).mono HXk.out.bel.size) ⟨_, _, _, rfl⟩ HBI5.out)
                cases o5 with
                | none =>
                  clear own5 x5 k0 k1 lk w1
                  go_wp2_with fail
                  go_roundw
                  case rel => exact ⟨k + 1, by omega, by go_num, HST.out, HX5.out⟩
                  case measure => simp [intOf]; omega
                | some l =>
                  cases b0 with
                  | none =>
                    have hbv := HBI.out.no rfl
                    simp only [Value.slice.injEq] at hbv
                    obtain ⟨rfl, rfl, rfl⟩ := hbv
                    have he : ∀ w : World, (binOp .eql 22 (.slice none 0 0) (.slice none 0 0)).run Tryz.prog w = .ok (.bool true) w := fun w => Lib.run_eql_slice_nil w _ _ none 0 0 0 0 Tryz.underlying22
                    clear own5 x5 k0 k1 lk w1
                    go_wp2_with fail
                    go_roundw
                    case rel => exact ⟨k + 1, by omega, by go_num, HST.out, HX5.out⟩
                    case measure => simp [intOf]; omega
                  | some m =>
                    obtain ⟨g5, k5, hgv⟩ : ∃ g c, Value.slice Abv nbv cbv = .slice (some ⟨g, 0, none⟩) nbv c := by
                      obtain ⟨g, c, e, _⟩ := (HBI.out.yes m rfl).slot (j := 0) (by have := HBL.out m rfl; omega)
                      have e' := e
                      simp only [Value.slice.injEq] at e'
                      exact ⟨g, c, by rw [e, e'.2.1]⟩
                    simp only [Value.slice.injEq, true_and] at hgv
                    obtain ⟨rfl, rfl⟩ := hgv
                    have he : ∀ w : World, (binOp .eql 22 (.slice (some ⟨g5, 0, none⟩) nbv cbv) (.slice none 0 0)).run Tryz.prog w = .ok (.bool false) w := fun w => Lib.run_eql_slice_nil w _ _ _ nbv cbv 0 0 Tryz.underlying22
                    have HCP := Lib.hid (cmpList_any _ _ l m W5 (own5 l rfl).is (HBI5.out.yes m rfl).is)
                    obtain ⟨z, hz⟩ : ∃ z, z = cmpL l m := ⟨_, rfl⟩
                    rw [← hz] at HCP
                    simp only [pickV, ← hz] at HST
                    clear own5 x5 k0 k1 lk w1 hz
                    by_cases hz0 : z < 0
                    · rw [if_pos hz0] at HST
                      go_wp2_with (go_at_call 40; refine HCP.out.mono ?_; rintro e W6 ⟨rfl, x6⟩; have HX6 := Lib.hid x6; clear x6)
                      go_roundw
                      case rel => exact ⟨k + 1, by omega, by go_num, HST.out.ext HX6.out, HX5.out.trans HX6.out⟩
                      case measure => simp [intOf]; omega
                    · rw [if_neg hz0] at HST
                      go_wp2_with (go_at_call 40; refine HCP.out.mono ?_; rintro e W6 ⟨rfl, x6⟩; have HX6 := Lib.hid x6; clear x6)
                      go_roundw
                      case rel => exact ⟨k + 1, by omega, by go_num, HST.out.ext HX6.out, HX5.out.trans HX6.out⟩
                      case measure => simp [intOf]; omega
              · obtain rfl : n = k := by omega
                by_cases hfound : i + 1 = stF ∧ f = first
                · obtain ⟨hi1, rfl⟩ := hfound
                  obtain rfl : stF = i + 1 := hi1.symm
                  have HBS := Lib.hid (show b0 = some best by rw [HB0.out]; exact HSIM.out.is)
                  have HOB := Lib.hid (HBI.out.yes best HBS.out)
                  obtain ⟨g5, k5, hgv⟩ : ∃ g c, Value.slice Abv nbv cbv = .slice (some ⟨g, 0, none⟩) nbv c := by
                    obtain ⟨g, c, e, _⟩ := HOB.out.slot (j := 0) (by have := HBL.out best HBS.out; omega)
                    have e' := e
                    simp only [Value.slice.injEq] at e'
                    exact ⟨g, c, by rw [e, e'.2.1]⟩
                  simp only [Value.slice.injEq, true_and] at hgv
                  obtain ⟨rfl, rfl⟩ := hgv
                  have h0 := (HBHq.out.ext hx).cell (i := 0) rfl
                  have lh := cell_lt h0
                  have HXW := Lib.hid (HX1.out.trans (HXq.out.trans hx))
                  have HTD := Lib.hid (show Calls Tryz.prog 41 #[.slice Av n cv, .int .i64 (f : Int)] wr (RetOE wr (mvL zs f) 0) from by
                    have := Turned_any _ zs (f : Int) wr (HROS.out.ext HXW.out)
                    rwa [turnedL, if_pos HCK.out, show checkE zs = 0 by unfold checkE; rw [if_pos HCK.out]] at this)
                  clear hb hx hb0 hbl
                  go_wp2_with fail
                  refine HTD.out.mono ?_
                  rintro e W6 ⟨v6, rfl, own6, x6⟩
                  obtain ⟨A6, n6, c6, rfl⟩ := (intK_own.2 own6).shape
                  have HX6 := Lib.hid x6
                  have HO6 := Lib.hid own6
                  clear x6 own6 h0 lh
                  have h1 := (HBHq.out.ext (HXk.out.trans HX6.out)).cell (i := 1) rfl
                  have f1 := (HBF.out.ext (HXq.out.trans (HXk.out.trans HX6.out))).cell (i := 1) rfl
                  have f2 := (HBF.out.ext (HXq.out.trans (HXk.out.trans HX6.out))).cell (i := 2) rfl
                  have lh := cell_lt h1
                  have lf := cell_lt f1
                  have y1 := But.cells (D := []) h1 (by simp)
                  have y2 := But.cells (D := []) f1 (by simp)
                  have y3 := But.cells (D := []) f2 (by simp)
                  have HCL := Lib.hid fun (W : World) (x : Ext W6 W) => cloneInts_any (.slice Ab nb cb) rs W (HRUB.out.ext (HXW.out.trans (HX6.out.trans x))) HRL.out
                  go_wp2_with fail
                  refine (wpIn_wide (n := 3)).1 ?_
                  have HB6 := Lib.hid (HBR.out.ext (HXq.out.trans (HXk.out.trans HX6.out)))
                  refine wpIn_region_tree (B := w.heap.size + 1 + 1) 13 [0, 4, 5, 6, 7, 8, 9, 11] (Nat.le_of_lt HB6.out.lt) (by kernel_rfl) (by decide +kernel) ?_
                  repeat (refine wpQ_step (by rfl) (fun _ _ _ => trivial) (fun K hK => ?_); go_simp; refine hK _ ?_; clear hK K)
                  refine wpQ_nil ?_
                  change wpAnyT _ _ _ _ _ _ _ _ _ (4 + 1) _ _ _
                  refine wpAnyT_step [1] (by kernel_rfl) (by decide) (by decide) ?_
                  intro i hi
                  simp only [List.mem_cons, List.not_mem_nil, or_false] at hi
                  subst hi
                  refine ⟨_, by rfl, midT_step (by rfl) (fun _ _ _ => trivial) (fun δ K' hK' => ?_)⟩
                  have E1 := Lib.hid (show Ext W6 δ.wd from ⟨δ, rfl⟩)
                  go_simp
                  refine ⟨Below.refl _ _, hK' _ _ ?_⟩
                  clear hK' K'
                  change wpAnyT _ _ _ _ _ _ _ _ _ (3 + 1) _ _ _
                  refine wpAnyT_step [2] (by kernel_rfl) (by decide) (by decide) ?_
                  intro i hi
                  simp only [List.mem_cons, List.not_mem_nil, or_false] at hi
                  subst hi
                  refine ⟨_, by rfl, midT_step (by rfl) (fun _ _ _ => trivial) (fun δ2 K' hK' => ?_)⟩
                  have E2 := Lib.hid (E1.out.trans (show Ext δ.wd δ2.wd from ⟨δ2, rfl⟩))
                  replace h1 := E2.out.cell_some h1
                  have lh2 := cell_lt h1
                  go_simp
                  refine ⟨Below.refl _ _, hK' _ _ ?_⟩
                  clear hK' K' h1 lh2
                  change wpAnyT _ _ _ _ _ _ _ _ _ (2 + 1) _ _ _
                  refine wpAnyT_step [3] (by kernel_rfl) (by decide) (by decide) ?_
                  intro i hi
                  simp only [List.mem_cons, List.not_mem_nil, or_false] at hi
                  subst hi
                  refine ⟨_, by rfl, midT_step (by rfl) (fun _ _ _ => trivial) (fun δ3 K' hK' => ?_)⟩
                  have E3 := Lib.hid (E2.out.trans (show Ext δ2.wd δ3.wd from ⟨δ3, rfl⟩))
                  go_simp
                  refine (callsIn_wide.2 (HCL.out δ3.wd E3.out)).mono ?_
                  rintro e Wb ⟨v7, rfl, own7, xb⟩
                  obtain ⟨A7, n7, c7, rfl⟩ := (intK_own.2 own7).shape
                  refine ⟨_, rfl, xb.bel.mono (Nat.le_trans (Nat.le_of_lt HB6.out.lt) E3.out.bel.size), hK' _ _ ?_⟩
                  have EB := Lib.hid (E3.out.trans xb)
                  have HO7 := Lib.hid own7
                  clear hK' K' xb own7
                  change wpAnyT _ _ _ _ _ _ _ _ _ (1 + 1) _ _ _
                  refine wpAnyT_step [10] (by kernel_rfl) (by decide) (by decide) ?_
                  intro i hi
                  simp only [List.mem_cons, List.not_mem_nil, or_false] at hi
                  subst hi
                  refine ⟨_, by rfl, midT_step (by rfl) (fun _ _ _ => trivial) (fun δ10 K' hK' => ?_)⟩
                  have E4 := Lib.hid (EB.out.trans (show Ext Wb δ10.wd from ⟨δ10, rfl⟩))
                  have X4 := Lib.hid (show Ext Wb δ10.wd from ⟨δ10, rfl⟩)
                  go_simp
                  refine ⟨Below.refl _ _, hK' _ _ ?_⟩
                  clear hK' K'
                  change wpAnyT _ _ _ _ _ _ _ _ _ (0 + 1) _ _ _
                  refine wpAnyT_step [12] (by kernel_rfl) (by decide) (by decide) ?_
                  intro i hi
                  simp only [List.mem_cons, List.not_mem_nil, or_false] at hi
                  subst hi
                  refine ⟨_, by rfl, midT_step (by rfl) (fun _ _ _ => trivial) (fun δ12 K' hK' => ?_)⟩
                  have X5 := Lib.hid (show Ext δ10.wd δ12.wd from ⟨δ12, rfl⟩)
                  have E5 := Lib.hid (E4.out.trans X5.out)
                  have HB7 := Lib.hid (HB6.out.ext E5.out)
                  refine doneO_store (g := w.heap.size + 1 + 1) (t := 24) (x := .tmp 126) (d := .tmp 6) (v := PrT.val ⟨mvL zs f, rs, start, th, ad, best⟩ ⟨.slice A6 n6 c6, .slice A7 n7 c7, .slice (some ⟨g5, 0, none⟩) nbv cbv⟩) HB7.out (by kernel_rfl) rfl (by simp [Value.oneCell', Value.cells]) rfl (by rfl) (by rfl) (Nat.le_refl _) (fun u => hK' _ _ ?_)
                  refine ⟨by kernel_rfl, fun w6 x6' => ?_⟩
                  have hb9 := (HB7.out.setRow (PrT.cells ⟨mvL zs f, rs, start, th, ad, best⟩ ⟨.slice A6 n6 c6, .slice A7 n7 c7, .slice (some ⟨g5, 0, none⟩) nbv cbv⟩)).ext x6'
                  have HPF := Lib.hid (show PrIs w6 ⟨.slice A6 n6 c6, .slice A7 n7 c7, .slice (some ⟨g5, 0, none⟩) nbv cbv⟩ ⟨mvL zs f, rs, start, th, ad, best⟩ from
                    ⟨(intK_own.1 ((own_row (intK_own.2 (HO6.out.ext E5.out)) (Nat.lt_of_lt_of_le HBR.out.lt (HXq.out.trans HXk.out).bel.size)).ext x6')).isI,
                     (intK_own.1 ((own_row (intK_own.2 (HO7.out.ext (X4.out.trans X5.out))) (Nat.lt_of_lt_of_le HB6.out.lt E3.out.bel.size)).ext x6')).isI,
                     (intK_own.1 ((own_row (HOB.out.ext (HX6.out.trans E5.out)) (Nat.lt_of_lt_of_le HBR.out.lt HXq.out.bel.size)).ext x6')).isI⟩)
                  have HX9 := Lib.hid (show Ext w w6 from ((setRow_but _ _ _).below (HXW.out.trans (HX6.out.trans E5.out)) (by simp only [List.mem_singleton]; intro d hd; subst hd; omega)).trans x6')
                  have d0 := hb9.cell (i := 0) rfl
                  have d1 := hb9.cell (i := 1) rfl
                  have d2 := hb9.cell (i := 2) rfl
                  have d3 := hb9.cell (i := 3) rfl
                  have d4 := hb9.cell (i := 4) rfl
                  have d5 := hb9.cell (i := 5) rfl
                  have ld := cell_lt d0
                  clear hb9 x6' f1 f2 lh lf y1 y2 y3
                  simp only [List.drop_succ_cons, List.drop_zero]
                  gi_wp2
                  go_wp2_with fail
                  refine bodyPost_ret (v := .tuple #[PrT.val ⟨mvL zs f, rs, start, th, ad, best⟩ ⟨.slice A6 n6 c6, .slice A7 n7 c7, .slice (some ⟨g5, 0, none⟩) nbv cbv⟩, .int .i64 0]) (by simp [results, Tryz.results18, go_sem, d0, d1, d2, d3, d4, d5]) rfl ?_
                  exact ⟨_, rfl, HPF.out, HX9.out⟩
                · have HNB := Lib.hid (show b0 = none by
                    rw [HB0.out]
                    by_cases e : i + 1 = stF
                    · rw [e]
                      exact HSIM.out.no f (by have := HFI.out e; omega)
                    · exact HSIM.out.few (i + 1) (by omega) (by omega) f hfl)
                  have hbv := HBI.out.no HNB.out
                  simp only [Value.slice.injEq] at hbv
                  obtain ⟨rfl, rfl, rfl⟩ := hbv
                  have HNE := Lib.hid hfound
                  clear hb hx hb0 hbl hfound
                  go_wp2_with fail
                  go_roundw
                  case rel => exact ⟨f + 1, by omega, by go_num, Lib.hid (fun e => by have := HFI.out e; have e2 : f ≠ first := fun e2 => HNE.out ⟨e, e2⟩; omega), HXk.out⟩
                  case measure => simp [intOf]; omega
          · have HNS := Lib.hid (show i + 1 ≠ stF from fun e => by have := HFI.out e; omega)
            obtain rfl : n = f := by omega
            have hi2 : i + 1 + 1 ≤ stF := by have := HNS.out; omega
            clear hx
            go_wp2_with fail
            go_roundw
            case rel => exact ⟨i + 1, by omega, by go_num, HXf.out⟩
            case measure => simp [intOf]; omega
end
section
/- PBaseP: Which phases fit: in plain words. No program. Condition: readings without noise (fits_see). -/
section
/- PPer: Least periods, and lifts that turn with the rosette: plain (the parts of RPer and RPer2 that the top laws want). No program. -/

theorem mvL_neg_cancel {zs : List Int} (a b : Int) : mvL zs a = mvL zs b ↔ mvL zs (a - b) = zs := by
  constructor
  · intro h
    have h1 := mvL_add zs a (-b)
    rw [h, mvL_add, show b + -b = 0 by omega, mvL_zero] at h1
    rw [show a - b = a + -b by omega]
    exact h1.symm
  · intro h
    have h1 := mvL_add zs (a - b) b
    rw [h, show a - b + b = a by omega] at h1
    exact h1.symm

theorem search_least {P : Nat → Prop} (hd : ∀ t, P t ∨ ¬ P t) : ∀ m : Nat, (∃ t, 1 ≤ t ∧ t ≤ m ∧ P t ∧ ∀ s, 1 ≤ s → s < t → ¬ P s) ∨ (∀ s, 1 ≤ s → s ≤ m → ¬ P s)
  | 0 => .inr fun s h1 h2 => absurd h1 (by omega)
  | m + 1 => by
    rcases search_least hd m with ⟨t, h1, h2, h3, h4⟩ | h
    · exact .inl ⟨t, h1, by omega, h3, h4⟩
    · rcases hd (m + 1) with hp | hp
      · exact .inl ⟨m + 1, by omega, Nat.le_refl _, hp, fun s h1 h2 => h s h1 (by omega)⟩
      · refine .inr fun s h1 h2 => ?_
        rcases (by omega : s ≤ m ∨ s = m + 1) with h3 | rfl
        · exact h s h1 h3
        · exact hp
theorem exists_least {zs : List Int} (hn : 1 ≤ zs.length) : ∃ t, LeastT zs t ∧ t ≤ zs.length := by
  rcases search_least (P := fun t : Nat => mvL zs t = zs) (fun t => Classical.em _) zs.length with ⟨t, h1, h2, h3, h4⟩ | h
  · exact ⟨t, ⟨h1, h3, h4⟩, h2⟩
  · exact absurd (mvL_len_eq zs) (h _ hn (Nat.le_refl _))
section
variable {zs ys b : List Int} {t : Nat}
theorem LeastT.dvd (h : LeastT zs t) : zs.length % t = 0 := (least_iff h zs.length).1 (mvL_len_eq zs)
theorem LeastT.le (h : LeastT zs t) (hn : 1 ≤ zs.length) : t ≤ zs.length := Nat.le_of_dvd hn (Nat.dvd_of_mod_eq_zero h.dvd)
theorem LeastT.period (h : LeastT zs t) (hn : 1 ≤ zs.length) : periodOf zs = (t : Int) := by rw [periodOf, least_len h hn]
theorem LeastT.int (h : LeastT zs t) (hn : 1 ≤ zs.length) (a : Int) : mvL zs a = zs ↔ a % (t : Int) = 0 := by
  rw [← mvL_emod]
  obtain ⟨k, hk, hk2⟩ := emod_nat a hn
  rw [hk, least_iff h]
  have h1 : a % (t : Int) = ((k % t : Nat) : Int) := by
    have hd : (zs.length : Int) % (t : Int) = 0 := by have := h.dvd; omega
    have h2 := Int.emod_add_mul_ediv a (zs.length : Int)
    obtain ⟨q, hq⟩ := Int.dvd_of_emod_eq_zero hd
    rw [hk] at h2
    have h3 : a = (k : Int) + (t : Int) * (q * (a / (zs.length : Int))) := by rw [← Int.mul_assoc, ← hq]; exact h2.symm
    rw [h3, Int.add_mul_emod_self_left]
    omega
  omega
theorem LeastT.eq_iff (h : LeastT zs t) (hn : 1 ≤ zs.length) (a c : Int) : mvL zs a = mvL zs c ↔ (a - c) % (t : Int) = 0 := by rw [mvL_neg_cancel, h.int hn]

theorem lift_turn (f b : List Int) (hb : 1 ≤ b.length) (a : Int) : liftL (mvL f a) b = mvL (liftL f b) a := by
  refine list_ext (by rw [liftL_len, mvL_len, mvL_len, liftL_len]) fun i hi => ?_
  rw [liftL_len, mvL_len] at hi
  have hn : 1 ≤ f.length := by omega
  have e1 := Int.emod_nonneg ((i : Int) - a) (show (f.length : Int) ≠ 0 by omega)
  have e2 := Int.emod_lt_of_pos ((i : Int) - a) (show (0 : Int) < f.length by omega)
  rw [mvL_at (by rw [liftL_len]; exact hi), liftL_len]
  have hp : (((i : Int) - a) % (f.length : Int)).toNat < f.length := by omega
  have key : ∀ j, j < b.length → askOf (mvL f a) b b.length i j = askOf f b b.length (((i : Int) - a) % (f.length : Int)).toNat j := fun j hj => by
    rw [askOf_plc _ _ hj, askOf_plc _ _ hj, mvL_len, mvL_at (plc_lt hn), plc_cast hn]
    congr 3
    unfold plc
    rw [Int.toNat_of_nonneg e1, emod_sub_emod, Int.emod_add_emod]
    congr 2
    omega
  have h1 : ∀ M, (liftL (mvL f a) b)[i]?.getD 0 ≤ M ↔ (liftL f b)[(((i : Int) - a) % (f.length : Int)).toNat]?.getD 0 ≤ M := fun M => by
    rw [lift_le_iff hb (by rw [mvL_len]; exact hi), lift_le_iff hb hp]
    exact ⟨fun h j hj => by rw [← key j hj]; exact h j hj, fun h j hj => by rw [key j hj]; exact h j hj⟩
  exact Int.le_antisymm ((h1 _).2 (Int.le_refl _)) ((h1 _).1 (Int.le_refl _))
end
end

section
variable {L : List Int} {th : Int} {F : Int → List (Int × Int)}
/-- What a reading asks of a place. -/
def askB (L : List Int) (th : Int) (r : Int × Int × Int × Int) (x : Int) (ph : Nat) : Bool := inB (r.2.2.1 - highM L th r.2.1.toNat ph) (r.2.2.2 - highM L th r.2.1.toNat ph) x
theorem inB_up (s : Int × Int) (lo hi h x : Int) : inB (spanUp s lo hi h).1 (spanUp s lo hi h).2 x = (inB s.1 s.2 x && inB (lo - h) (hi - h) x) := by
  rw [Bool.eq_iff_iff, Bool.and_eq_true, inB_iff, inB_iff, inB_iff]
  simp only [spanUp]
  omega
theorem fit_up (r : Int × Int × Int × Int) (hF : ∀ d, F d = [] ∨ (F d).length = L.length) (hn : 1 ≤ L.length) {x d : Int} (hx : -1099511627776 ≤ x ∧ x ≤ 1099511627776) {ph : Nat} (hp : ph < L.length) :
    fitB (baseUp L th F r) x d ph = (fitB F x d ph && (!decide (r.1 = d) || askB L th r x ph)) := by
  unfold baseUp
  by_cases hd : r.1 = d
  · subst hd
    have h1 : ∀ xs : List (Int × Int), xs.length = L.length → (rowTo L th r xs L.length)[ph]?.getD (0, 0) = spanUp (xs[ph]?.getD (0, 0)) r.2.2.1 r.2.2.2 (highM L th r.2.1.toNat ph) := fun xs hxs => by
      simp [rowTo, hp]
    have h2 := addF_len r.1 hF
    have h3 : rowTo L th r (addF L.length F r.1 r.1) L.length ≠ [] := fun e => by
      have := congrArg List.length e
      rw [rowTo_len, List.length_nil] at this
      omega
    have h4 : fitB F x r.1 ph = inB ((addF L.length F r.1 r.1)[ph]?.getD (0, 0)).1 ((addF L.length F r.1 r.1)[ph]?.getD (0, 0)).2 x := by
      unfold fitB addF
      by_cases e : F r.1 = []
      · rw [if_pos e, upd_at, decide_eq_true e, Bool.true_or]
        have : (infS L.length)[ph]?.getD (0, 0) = (-1099511627776, 1099511627776) := by simp [infS, hp]
        rw [this]
        exact (inB_iff.2 hx).symm
      · rw [if_neg e, decide_eq_false e, Bool.false_or]
    rw [h4]
    unfold fitB
    rw [upd_at, decide_eq_false h3, h1 _ h2, inB_up, decide_eq_true rfl]
    rfl
  · have h1 : ∀ ys : List (Int × Int), updM' (addF L.length F r.1) r.1 ys d = F d := fun ys => by
      unfold updM'
      rw [if_neg (fun e => hd e.symm)]
      unfold addF
      split
      · unfold updM'
        rw [if_neg (fun e => hd e.symm)]
      · rfl
    unfold fitB
    rw [h1, decide_eq_false hd]
    simp
theorem up_ne (r : Int × Int × Int × Int) (hn : 1 ≤ L.length) (d : Int) : baseUp L th F r d ≠ [] ↔ F d ≠ [] ∨ r.1 = d := by
  unfold baseUp
  by_cases hd : r.1 = d
  · subst hd
    rw [upd_at]
    refine ⟨fun _ => .inr rfl, fun _ e => ?_⟩
    have := congrArg List.length e
    rw [rowTo_len, List.length_nil] at this
    omega
  · have : updM' (addF L.length F r.1) r.1 (rowTo L th r (addF L.length F r.1 r.1) L.length) d = F d := by
      unfold updM'
      rw [if_neg (fun e => hd e.symm)]
      unfold addF
      split
      · unfold updM'
        rw [if_neg (fun e => hd e.symm)]
      · rfl
    rw [this]
    exact ⟨fun h => .inl h, fun h => h.resolve_right hd⟩
end
theorem up_len {L : List Int} {th : Int} {F : Int → List (Int × Int)} (r : Int × Int × Int × Int) (hF : ∀ d, F d = [] ∨ (F d).length = L.length) : ∀ d, baseUp L th F r d = [] ∨ (baseUp L th F r d).length = L.length := fun d => by
  unfold baseUp
  by_cases hd : d = r.1
  · subst hd
    rw [upd_at]
    exact .inr (rowTo_len _ _ _ _ _)
  · unfold updM'
    rw [if_neg hd]
    unfold addF
    split
    · unfold updM'
      rw [if_neg hd]
      exact hF d
    · exact hF d
theorem fold_fit {L : List Int} {th : Int} (hn : 1 ≤ L.length) {x d : Int} (hx : -1099511627776 ≤ x ∧ x ≤ 1099511627776) {ph : Nat} (hp : ph < L.length) : ∀ (rd : List (Int × Int × Int × Int)) (F : Int → List (Int × Int)), (∀ d, F d = [] ∨ (F d).length = L.length) →
    fitB (rd.foldl (baseUp L th) F) x d ph = (fitB F x d ph && rd.all fun r => !decide (r.1 = d) || askB L th r x ph)
  | [], F, _ => by simp
  | r :: rd, F, hF => by
    rw [List.foldl_cons, fold_fit hn hx hp rd _ (up_len r hF), fit_up r hF hn hx hp, List.all_cons, Bool.and_assoc]
theorem fold_ne {L : List Int} {th : Int} (hn : 1 ≤ L.length) (d : Int) : ∀ (rd : List (Int × Int × Int × Int)) (F : Int → List (Int × Int)), rd.foldl (baseUp L th) F d ≠ [] ↔ F d ≠ [] ∨ ∃ r ∈ rd, r.1 = d
  | [], F => by simp
  | r :: rd, F => by
    rw [List.foldl_cons, fold_ne hn d rd, up_ne r hn, or_assoc]
    simp
theorem bases_fit {L : List Int} {th : Int} (hn : 1 ≤ L.length) {x d : Int} (hx : -1099511627776 ≤ x ∧ x ≤ 1099511627776) {ph : Nat} (hp : ph < L.length) (rd : List (Int × Int × Int × Int)) :
    fitB (basesF L th rd) x d ph = true ↔ ∀ r ∈ rd, r.1 = d → askB L th r x ph = true := by
  unfold basesF
  rw [fold_fit hn hx hp rd _ (fun _ => .inl rfl), Bool.and_eq_true, List.all_eq_true]
  constructor
  · rintro ⟨_, h⟩ r hr e
    have := h r hr
    rw [decide_eq_true e] at this
    simpa using this
  · intro h
    refine ⟨rfl, fun r hr => ?_⟩
    by_cases e : r.1 = d
    · rw [h r hr e, Bool.or_true]
    · rw [decide_eq_false e]; rfl
theorem bases_ne {L : List Int} {th : Int} (hn : 1 ≤ L.length) (d : Int) (rd : List (Int × Int × Int × Int)) : basesF L th rd d ≠ [] ↔ ∃ r ∈ rd, r.1 = d := by
  unfold basesF
  rw [fold_ne hn]
  simp
/-- The readings of the first cuts of a program. -/
theorem mem_see {p : PrT} {N : Int} {C : Nat} {r : Int × Int × Int × Int} : r ∈ seeL p N C ↔ ∃ j i : Nat, j < C ∧ i < p.ros.length ∧ r = ((j : Int), (i : Int), (cutL p j)[i]?.getD 0 - N, (cutL p j)[i]?.getD 0 + N) := by
  unfold seeL rowS
  rw [List.mem_flatMap]
  constructor
  · rintro ⟨j, hj, h⟩
    obtain ⟨i, hi, rfl⟩ := List.mem_map.1 h
    exact ⟨j, i, List.mem_range.1 hj, List.mem_range.1 hi, rfl⟩
  · rintro ⟨j, i, hj, hi, rfl⟩
    exact ⟨j, List.mem_range.2 hj, List.mem_map.2 ⟨i, List.mem_range.2 hi, rfl⟩⟩
theorem mul_eq_of {a b t : Int} (ht : 1 ≤ t) (h : t * a = t * b) : a = b := Int.eq_of_mul_eq_mul_left (by omega) h
/-- Without noise a phase fits a cut where the lift, turned by it, is the cut's shape. -/
theorem fit_see {p : PrT} (hg : Good p) {C : Nat} {c : Nat} (hc : c < C) (hC : C ≤ 12) {ph : Nat} (hp : ph < p.ros.length) :
    fitB (basesF (liftL p.ros p.rub) p.throw (seeL p 0 C)) (p.start + (c : Int) * p.adv) (c : Int) ph = true ↔ mvL (liftL p.ros p.rub) ph = mvL (liftL p.ros p.rub) (phaseZ p c) := by
  have hN := hg.nums
  have hll := liftL_len p.ros p.rub
  have hn := hN.n1
  have hb : -12000 ≤ (c : Int) * p.adv ∧ (c : Int) * p.adv ≤ 12000 := by
    have h1 := Int.mul_le_mul_of_nonneg_left hN.a.1 (show (0 : Int) ≤ c by omega)
    have h2 := Int.mul_le_mul_of_nonneg_left hN.a.2 (show (0 : Int) ≤ c by omega)
    omega
  have hs := hN.s
  rw [bases_fit (by omega) ⟨by omega, by omega⟩ (by omega)]
  have hat : ∀ i, i < p.ros.length → (mvL (liftL p.ros p.rub) ph)[i]?.getD 0 = (liftL p.ros p.rub)[(i + (liftL p.ros p.rub).length - ph) % (liftL p.ros p.rub).length]?.getD 0 := fun i hi => by
    rw [mvL_at (by omega)]
    congr 2
    rw [hll]
    have e : ((i : Int) - (ph : Int)) % (p.ros.length : Int) = (((i + p.ros.length - ph) % p.ros.length : Nat) : Int) := by
      rw [Int.natCast_emod, show ((i + p.ros.length - ph : Nat) : Int) = (i : Int) - ph + p.ros.length by omega, Int.add_emod_right]
    rw [e, Int.toNat_natCast]
  have hcut : ∀ i, i < p.ros.length → (cutL p c)[i]?.getD 0 = p.start + (c : Int) * p.adv + p.throw * (mvL (liftL p.ros p.rub) (phaseZ p c))[i]?.getD 0 := fun i hi => by
    rw [cutL_at hi, mvL_at (by omega), hll]
  constructor
  · intro h
    refine list_ext (by rw [mvL_len, mvL_len]) fun i hi => ?_
    rw [mvL_len] at hi
    have hi' : i < p.ros.length := by omega
    have h1 := h _ (mem_see.2 ⟨c, i, hc, hi', rfl⟩) rfl
    unfold askB highM at h1
    simp only [Int.toNat_natCast] at h1
    rw [inB_iff, ← hat i hi', hcut i hi'] at h1
    exact mul_eq_of hN.t.1 (by omega)
  · intro h r hr e
    obtain ⟨j, i, hj, hi, rfl⟩ := mem_see.1 hr
    simp only at e
    obtain rfl : j = c := by omega
    unfold askB highM
    simp only [Int.toNat_natCast]
    rw [inB_iff, ← hat i hi, hcut i hi, h]
    omega
theorem see_ne {p : PrT} (hg : Good p) {N : Int} {C : Nat} {th : Int} (d : Int) : basesF (liftL p.ros p.rub) th (seeL p N C) d ≠ [] ↔ ∃ c : Nat, d = (c : Int) ∧ c < C := by
  have hN := hg.nums
  have hll := liftL_len p.ros p.rub
  have hn := hN.n1
  rw [bases_ne (by omega)]
  constructor
  · rintro ⟨r, hr, rfl⟩
    obtain ⟨j, i, hj, hi, rfl⟩ := mem_see.1 hr
    exact ⟨j, rfl, hj⟩
  · rintro ⟨c, rfl, hc⟩
    exact ⟨_, mem_see.2 ⟨c, 0, hc, by omega, rfl⟩, rfl⟩
/-- The table of what fits the first cuts of a program. -/
def shapeB (p : PrT) (C : Nat) : List (List Bool) := (List.range C).map fun c : Nat => (List.range p.ros.length).map fun ph : Nat => decide (mvL (liftL p.ros p.rub) ph = mvL (liftL p.ros p.rub) (phaseZ p c))
theorem fits_shape {p : PrT} (hg : Good p) {C : Nat} (hC : C ≤ 12) : fitsB (basesF (liftL p.ros p.rub) p.throw (seeL p 0 C)) p.ros.length p.start p.adv C = shapeB p C := by
  unfold fitsB shapeB
  refine List.map_congr_left fun c hc => List.map_congr_left fun ph hp => ?_
  rw [Bool.eq_iff_iff, fit_see hg (List.mem_range.1 hc) hC (List.mem_range.1 hp), decide_eq_true_iff]
theorem fit_some {p : PrT} (hg : Good p) {C : Nat} (hC : C ≤ 12) {c : Nat} (hc : c < C) : fitTo (basesF (liftL p.ros p.rub) p.throw (seeL p 0 C)) (p.start + (c : Int) * p.adv) (c : Int) p.ros.length ≠ [] := by
  obtain ⟨h1, h2⟩ := phaseZ_bd hg.nums (c : Int)
  obtain ⟨k, hk⟩ : ∃ k : Nat, phaseZ p c = (k : Int) := ⟨(phaseZ p c).toNat, by omega⟩
  have hk2 : k < p.ros.length := by omega
  intro e
  have : (k : Int) ∈ fitTo (basesF (liftL p.ros p.rub) p.throw (seeL p 0 C)) (p.start + (c : Int) * p.adv) (c : Int) p.ros.length := by
    unfold fitTo
    refine List.mem_map.2 ⟨k, List.mem_filter.2 ⟨List.mem_range.2 hk2, ?_⟩, rfl⟩
    rw [fit_see hg hc hC hk2, hk]
  rw [e] at this
  cases this
end
open Go.RowKit

set_option maxRecDepth 100000 in
set_option maxHeartbeats 4000000 in
theorem sameProg_eq (p : PrT) (u v : PrV) (w : World) (hu : PrIs w u p) (hv : PrIs w v p) :
    Calls Tryz.prog 19 #[p.val u, p.val v] w fun e w' => e = .returned (.bool true) ∧ Ext w w' := by
  have H1 := Lib.hid fun (W : World) (x : Ext w W) => same_any u.r v.r p.ros p.ros W (hu.ros.ext x) (hv.ros.ext x)
  have H2 := Lib.hid fun (W : World) (x : Ext w W) => same_any u.b v.b p.rub p.rub W (hu.rub.ext x) (hv.rub.ext x)
  have H3 := Lib.hid fun (W : World) (x : Ext w W) => same_any u.s v.s p.sh p.sh W (hu.sh.ext x) (hv.sh.ext x)
  have e1 : (p.ros == p.ros) = true := beq_self_eq_true _
  have e2 : (p.rub == p.rub) = true := beq_self_eq_true _
  have e3 : (p.sh == p.sh) = true := beq_self_eq_true _
  rw [e1] at H1
  rw [e2] at H2
  rw [e3] at H3
  clear e1 e2 e3
  obtain ⟨ur, ub, us⟩ := u
  obtain ⟨vr, vb, vs⟩ := v
  obtain ⟨ros, rub, st, th, ad, sh⟩ := p
  obtain ⟨A1, n1, c1, rfl, -⟩ := hu.ros.open_
  obtain ⟨A2, n2, c2, rfl, -⟩ := hu.rub.open_
  obtain ⟨A3, n3, c3, rfl, -⟩ := hu.sh.open_
  obtain ⟨A4, n4, c4, rfl, -⟩ := hv.ros.open_
  obtain ⟨A5, n5, c5, rfl, -⟩ := hv.rub.open_
  obtain ⟨A6, n6, c6, rfl, -⟩ := hv.sh.open_
  simp only at H1 H2 H3 ⊢
  clear hu hv
  go_enter Tryz.func19, Tryz.ntmps19
  go_wp2_with fail
  refine lay_calls (fun W => BoxAt w.heap.size #[.slice A1 n1 c1, .slice A2 n2 c2, .int .i64 st, .int .i64 th, .int .i64 ad, .slice A3 n3 c3] 24 W ∧ BoxAt (w.heap.size + 1) #[.slice A4 n4 c4, .slice A5 n5 c5, .int .i64 st, .int .i64 th, .int .i64 ad, .slice A6 n6 c6] 24 W ∧ Ext w W) ⟨(BoxAt.new w _ _).ext ((Ext.refl _).alloc _), ?_, by (repeat' (first | with_reducible exact Ext.refl _ | with_reducible apply Ext.alloc | with_reducible apply Ext.drew | with_reducible apply Ext.drewN | with_reducible refine Ext.setCell ?_ ?_ _ | with_reducible apply Ext.step | with_reducible assumption | with_reducible exact Nat.le_refl _ | (simp; done) | (simp; omega)))⟩ ?_
  · have := BoxAt.new (w.alloc (.cells #[.slice A1 n1 c1, .slice A2 n2 c2, .int .i64 st, .int .i64 th, .int .i64 ad, .slice A3 n3 c3] 24)) #[.slice A4 n4 c4, .slice A5 n5 c5, .int .i64 st, .int .i64 th, .int .i64 ad, .slice A6 n6 c6] 24
    simpa using this
  rintro W0 ⟨b0, b1, x0⟩
  refine (H1.out _ x0).mono ?_
  rintro e W1 ⟨rfl, x1⟩
  have HB1 := Lib.hid (b0.ext x1)
  have HB2 := Lib.hid (b1.ext x1)
  have HX1 := Lib.hid (x0.trans x1)
  clear b0 b1 x0 x1
  have p1 := HB1.out.cell (i := 1) rfl
  have q1 := HB2.out.cell (i := 1) rfl
  have lp := cell_lt p1
  have lq := cell_lt q1
  go_wp2_with fail
  refine (H2.out _ HX1.out).mono ?_
  rintro e W2 ⟨rfl, x2⟩
  have HB3 := Lib.hid (HB1.out.ext x2)
  have HB4 := Lib.hid (HB2.out.ext x2)
  have HX2 := Lib.hid (HX1.out.trans x2)
  clear x2 p1 q1 lp lq
  have p1 := HB3.out.cell (i := 5) rfl
  have q1 := HB4.out.cell (i := 5) rfl
  have lp := cell_lt p1
  have lq := cell_lt q1
  go_wp2_with fail
  refine (H3.out _ HX2.out).mono ?_
  rintro e W3 ⟨rfl, x3⟩
  have HB5 := Lib.hid (HB3.out.ext x3)
  have HB6 := Lib.hid (HB4.out.ext x3)
  have HX3 := Lib.hid (HX2.out.trans x3)
  clear x3 p1 q1 lp lq
  have p2 := HB5.out.cell (i := 2) rfl
  have q2 := HB6.out.cell (i := 2) rfl
  have p3 := HB5.out.cell (i := 3) rfl
  have q3 := HB6.out.cell (i := 3) rfl
  have p4 := HB5.out.cell (i := 4) rfl
  have q4 := HB6.out.cell (i := 4) rfl
  have lp := cell_lt p2
  have lq := cell_lt q2
  go_wp2_with fail
  go_ret
  exact ⟨by simp, HX3.out⟩

def aliveP : PrT := ⟨[0, 3, 0, 0, 3, 0], [0], 100, 2, 10, [1]⟩
theorem aliveP_good : Good aliveP := ⟨by decide, by decide, by decide⟩
def aliveO : OneT := ⟨[0, 3, 0, 0, 3, 0], [0], 2, 10, seeL aliveP 0 2⟩
theorem aliveO_ok : OneOk aliveO := by
  refine ⟨aliveP_good.fine, by decide, by decide, by decide, ?_⟩
  have : ∀ r ∈ seeL aliveP 0 2, (0 ≤ r.1 ∧ r.1 ≤ 11) ∧ (0 ≤ r.2.1 ∧ r.2.1 ≤ ((6 : Nat) : Int) - 1) ∧ -300000 ≤ r.2.2.1 ∧ r.2.2.1 ≤ r.2.2.2 ∧ r.2.2.2 ≤ 300000 := by decide
  exact this
theorem aliveS : SimIs (shapeB aliveP 2) 6 1 0 [1] := by
  refine ⟨by decide, by decide, by decide, by decide, fun f h => by omega, fun s h1 h2 => by omega⟩
theorem aliveM : mvL [0, 3, 0, 0, 3, 0] ((0 : Nat) : Int) = [0, 3, 0, 0, 3, 0] := by decide

set_option maxRecDepth 100000 in
set_option maxHeartbeats 8000000 in
theorem alive09d_any (w : World) : Calls Tryz.prog 4 #[] w fun e w' => e = .returned (.bool true) ∧ Ext w w' := by
  have HSE := Lib.hid fun (v : PrV) (W : World) (h : PrIs W v aliveP) => see_any aliveP v 2 0 W h aliveP_good (by decide) (by decide) (by decide)
  have HSI := Lib.hid fun (hb hc : Nat) (va vb rv : Value) (W : World) (h : OneAt W hb 0 va vb rv aliveO) => (show Calls Tryz.prog 18 #[oneV hb 0 hc rv 2 10, .agg #[.int .i64 0, .int .i64 2, .int .i64 10, .int .i64 100, .int .i64 100], .int .i64 100] W (SimRet aliveP W) from by
    have hf := fits_shape aliveP_good (C := 2) (by decide)
    have := sim_one hb 0 hc va vb rv aliveO 100 1 W h aliveO_ok (by decide) _ rfl ((see_ne aliveP_good (C := 2) _).2 ⟨1, rfl, by decide⟩) (fun d hd => by
      obtain ⟨c, rfl, hc⟩ := (see_ne aliveP_good (C := 2) _).1 hd
      omega) (by decide) (fun c hc => fit_some aliveP_good (C := 2) (by decide) (by omega)) 1 0 [1] (by
        have e : fitsB (basesF (liftL aliveO.ros aliveO.rub) aliveO.th aliveO.rd) aliveO.ros.length 100 aliveO.ad (1 + 1) = shapeB aliveP 2 := hf
        rw [e]
        exact aliveS)
    rw [show mvL aliveO.ros ((0 : Nat) : Int) = [0, 3, 0, 0, 3, 0] from aliveM] at this
    exact this)
  have HSP := Lib.hid fun (u v : PrV) (W : World) (hu : PrIs W u aliveP) (hv : PrIs W v aliveP) => sameProg_eq aliveP u v W hu hv
  go_enter Tryz.func4, Tryz.ntmps4
  go_wp2_with fail
  refine lay_calls (fun W => BoxAt (w.heap.size + 1 + 1 + 1) #[.slice (some ⟨w.heap.size, 0, none⟩) 6 6, .slice (some ⟨w.heap.size + 1, 0, none⟩) 1 1, .int .i64 100, .int .i64 2, .int .i64 10, .slice (some ⟨w.heap.size + 1 + 1, 0, none⟩) 1 1] 24 W ∧
    PrIs W ⟨.slice (some ⟨w.heap.size, 0, none⟩) 6 6, .slice (some ⟨w.heap.size + 1, 0, none⟩) 1 1, .slice (some ⟨w.heap.size + 1 + 1, 0, none⟩) 1 1⟩ aliveP ∧ Ext w W) ⟨?_, ⟨?_, ?_, ?_⟩, by (repeat' (first | with_reducible exact Ext.refl _ | with_reducible apply Ext.alloc | with_reducible apply Ext.drew | with_reducible apply Ext.drewN | with_reducible refine Ext.setCell ?_ ?_ _ | with_reducible apply Ext.step | with_reducible assumption | with_reducible exact Nat.le_refl _ | (simp; done) | (simp; omega)))⟩ ?_
  · have := BoxAt.new (((w.alloc (.cells #[.int .i64 0, .int .i64 3, .int .i64 0, .int .i64 0, .int .i64 3, .int .i64 0] 3)).alloc (.cells #[.int .i64 0] 3)).alloc (.cells #[.int .i64 1] 3)) #[.slice (some ⟨w.heap.size, 0, none⟩) 6 6, .slice (some ⟨w.heap.size + 1, 0, none⟩) 1 1, .int .i64 100, .int .i64 2, .int .i64 10, .slice (some ⟨w.heap.size + 1 + 1, 0, none⟩) 1 1] 24
    simp only [World.size_alloc] at this
    exact this
  · have := EK.Own.lit (K := intK) (B := w.heap.size) w #[.int .i64 0, .int .i64 3, .int .i64 0, .int .i64 0, .int .i64 3, .int .i64 0] [0, 3, 0, 0, 3, 0] rfl (Nat.le_refl _) (by decide)
    exact (intK_own.1 this).isI.ext (((Ext.refl _).alloc _).alloc _ |>.alloc _)
  · have := EK.Own.lit (K := intK) (B := w.heap.size) (w.alloc (.cells #[.int .i64 0, .int .i64 3, .int .i64 0, .int .i64 0, .int .i64 3, .int .i64 0] 3)) #[.int .i64 0] [0] rfl (by simp) (by decide)
    simp only [World.size_alloc] at this
    exact (intK_own.1 this).isI.ext (((Ext.refl _).alloc _).alloc _)
  · have := EK.Own.lit (K := intK) (B := w.heap.size) ((w.alloc (.cells #[.int .i64 0, .int .i64 3, .int .i64 0, .int .i64 0, .int .i64 3, .int .i64 0] 3)).alloc (.cells #[.int .i64 0] 3)) #[.int .i64 1] [1] rfl (by simp; omega) (by decide)
    simp only [World.size_alloc] at this
    exact (intK_own.1 this).isI.ext ((Ext.refl _).alloc _)
  rintro W0 ⟨b0, pr0, x0⟩
  refine (HSE.out _ _ pr0).mono ?_
  rintro e W1 ⟨rv, rfl, own1, x1⟩
  obtain ⟨A1, n1, c1, rfl⟩ := own1.shape
  have HX1 := Lib.hid (x0.trans x1)
  have HB1 := Lib.hid (b0.ext x1)
  have HP1 := Lib.hid (pr0.ext x1)
  have HO1 := Lib.hid own1
  have p0 := HB1.out.cell (i := 0) rfl
  have p1 := HB1.out.cell (i := 1) rfl
  have lp := cell_lt p0
  clear x0 b0 pr0 x1 own1
  go_wp2_with fail
  refine lay_calls (fun W => BoxAt W1.heap.size #[.slice (some ⟨w.heap.size, 0, none⟩) 6 6, .slice (some ⟨w.heap.size + 1, 0, none⟩) 1 1] 46 W ∧ Ext W1 W) ⟨(BoxAt.new W1 _ _).ext ((Ext.refl _).alloc _), by (repeat' (first | with_reducible exact Ext.refl _ | with_reducible apply Ext.alloc | with_reducible apply Ext.drew | with_reducible apply Ext.drewN | with_reducible refine Ext.setCell ?_ ?_ _ | with_reducible apply Ext.step | with_reducible assumption | with_reducible exact Nat.le_refl _ | (simp; done) | (simp; omega)))⟩ ?_
  rintro W2 ⟨b2, x2⟩
  have HX2 := Lib.hid x2
  refine (HSI.out W1.heap.size 1 _ _ _ W2 ⟨b2.cell (i := 0) rfl, b2.cell (i := 1) rfl, HP1.out.ros.ext x2, HP1.out.rub.ext x2, HO1.out.is.ext x2⟩).mono ?_
  rintro e W3 ⟨v3, rfl, pr3, x3⟩
  have HX3 := Lib.hid (x2.trans x3)
  have HP3 := Lib.hid pr3
  obtain ⟨vr, vb, vs⟩ := v3
  obtain ⟨Ar, nr, cr, rfl, -⟩ := pr3.ros.open_
  obtain ⟨Ab, nb, cb, rfl, -⟩ := pr3.rub.open_
  obtain ⟨As, ns, cs, rfl, -⟩ := pr3.sh.open_
  clear b2 x2 x3 pr3 p0 p1 lp
  have hb3 := HB1.out.ext HX3.out
  have HB3 := Lib.hid hb3
  have p0 := hb3.cell (i := 0) rfl
  have p1 := hb3.cell (i := 1) rfl
  have p2 := hb3.cell (i := 2) rfl
  have p3 := hb3.cell (i := 3) rfl
  have p4 := hb3.cell (i := 4) rfl
  have p5 := hb3.cell (i := 5) rfl
  have lp := cell_lt p0
  clear hb3
  unfold PrT.val
  go_wp2_with fail
  refine (HSP.out ⟨.slice Ar nr cr, .slice Ab nb cb, .slice As ns cs⟩ ⟨_, _, _⟩ _ (HP3.out.ext ((Ext.refl _).alloc _)) (HP1.out.ext (HX3.out.alloc _))).mono ?_
  rintro e W4 ⟨rfl, x4⟩
  have HX4 := Lib.hid (HX1.out.trans ((HX3.out.alloc _).trans x4))
  clear x4 p0 p1 p2 p3 p4 p5 lp
  go_wp2_with fail
  go_ret
  exact ⟨rfl, HX4.out⟩
end Go.Proofs.YtkjgcmdabelohaaGreat
