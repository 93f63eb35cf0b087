/- What hides a slip hides it, with the fewest cuts: in plain Lean. Condition: none. -/
import Derived.Test.YtgeapenglcohfaaGHidL
import Derived.Test.YtgeapenglcohfaaGWei
namespace Go.Proofs.Ytgeapenglcohfaa

/-- The slips of a list follow one another, from `last` on. -/
def chainB (most : Int) : Int → List Int → Bool
  | _, [] => true
  | last, n :: ns => inB (-20) 20 n && decide (n - last ≤ most) && decide (last - n ≤ most) && chainB most n ns
def cN : List Int → Int
  | [] => 0
  | x :: xs => cN xs + (if x = 0 then 0 else 1)
def cS : List Int → Int
  | [] => 0
  | x :: xs => cS xs + max x (-x)
theorem cN_app (xs ys : List Int) : cN (xs ++ ys) = cN xs + cN ys := by
  induction xs with
  | nil => simp [cN]
  | cons x xs ih => simp only [List.cons_append, cN, ih]; omega
theorem cS_app (xs ys : List Int) : cS (xs ++ ys) = cS xs + cS ys := by
  induction xs with
  | nil => simp [cS]
  | cons x xs ih => simp only [List.cons_append, cS, ih]; omega
theorem nzTo_eq (l : List Int) : ∀ j, j ≤ l.length → nzTo l j = cN (l.take j) ∧ absTo l j = cS (l.take j)
  | 0, _ => by simp [nzTo, absTo, cN, cS]
  | j + 1, h => by
    obtain ⟨h1, h2⟩ := nzTo_eq l j (by omega)
    have hj : j < l.length := by omega
    rw [List.take_succ_eq_append_getElem hj, cN_app, cS_app, ← h1, ← h2]
    rw [show nzTo l (j + 1) = if l[j]?.getD 0 = 0 then nzTo l j else nzTo l j + 1 from rfl, show absTo l (j + 1) = absTo l j + max (l[j]?.getD 0) (-(l[j]?.getD 0)) from rfl]
    rw [List.getElem?_eq_getElem hj]
    simp only [Option.getD_some, cN, cS]
    split <;> omega
theorem weigh_eq (l : List Int) : weighN l = cN l ∧ weighS l = cS l := by
  obtain ⟨h1, h2⟩ := nzTo_eq l l.length (Nat.le_refl _)
  rw [List.take_length] at h1 h2
  exact ⟨h1, h2⟩
theorem chain_app (most : Int) : ∀ (xs : List Int) (last x : Int), chainB most last (xs ++ [x]) = true ↔ chainB most last xs = true ∧ inB (-20) 20 x = true ∧ x - (xs.getLast?.getD last) ≤ most ∧ (xs.getLast?.getD last) - x ≤ most
  | [], last, x => by simp [chainB, and_assoc]
  | y :: ys, last, x => by
    rw [List.cons_append]
    unfold chainB
    rw [Bool.and_eq_true, Bool.and_eq_true (_ && _) (chainB most y ys), chain_app most ys y x, List.getLast?_cons]
    simp only [Option.getD_some, and_assoc]

def leC (a b : Int × Int) : Prop := a.1 < b.1 ∨ (a.1 = b.1 ∧ a.2 ≤ b.2)
theorem leC.trans {a b c : Int × Int} (h : leC a b) (k : leC b c) : leC a c := by unfold leC at *; omega
theorem leC.anti {a b : Int × Int} (h : leC a b) (k : leC b a) : a.1 = b.1 ∧ a.2 = b.2 := by unfold leC at *; omega

/-- With r cuts behind it, s can be hidden just if it is near enough. -/
theorem rowR_can {made most : Int} (hm : 0 ≤ most) (hmd : -20 ≤ made ∧ made ≤ 20) : ∀ (r : Nat) (s : Int), (-20 ≤ s ∧ s ≤ 20) → ((rowR made most r s).2.2 = true ↔ max (s - made) (made - s) ≤ most * r)
  | 0, s, hs => by simp only [rowR, decide_eq_true_eq]; simp only [Int.natCast_zero, Int.mul_zero]; omega
  | r + 1, s, hs => by
    have e : most * ((r + 1 : Nat) : Int) = most * r + most := by rw [Int.natCast_add, Int.mul_add]; simp
    have h0 : 0 ≤ most * (r : Int) := Int.mul_nonneg hm (by omega)
    have en : ∀ j, nearR j s most = true ↔ j - s ≤ most ∧ s - j ≤ most := fun j => by simp only [nearR, decide_eq_true_eq]; omega
    simp only [rowR]
    rcases rowTo_spec (rowR made most r) s most 41 with ⟨h1, h2⟩ | ⟨i, h1, h2⟩
    · rw [h1, e]
      simp only [Bool.false_eq_true, false_iff]
      intro h
      -- a slip that is nearer
      obtain ⟨j, hj1, hj2, hj3⟩ : ∃ j : Int, (-20 ≤ j ∧ j ≤ 20) ∧ (j - s ≤ most ∧ s - j ≤ most) ∧ max (j - made) (made - j) ≤ most * r := by
        rcases (by omega : s - most ≤ made ∧ made ≤ s + most ∨ s + most < made ∨ made < s - most) with h | h | h
        · exact ⟨made, by omega, by omega, by omega⟩
        · exact ⟨s + most, by omega, by omega, by omega⟩
        · exact ⟨s - most, by omega, by omega, by omega⟩
      exact h2 j ⟨by omega, (en j).2 hj2, (rowR_can hm hmd r j hj1).2 hj3⟩
    · rw [h1, e]
      have h3 := h2.mem
      have h4 := (rowR_can hm hmd r i (by have := h3.1; omega)).1 h3.2.2
      have h5 := (en i).1 h3.2.1
      have h6 : (moreC (rowR made most r i) s).2.2 = true := h3.2.2
      rw [h6]
      simp only [true_iff]
      omega
/-- No chain costs less than what the table says. -/
theorem rowR_least {made most : Int} : ∀ (cs : List Int) (last : Int), chainB most last (cs ++ [made]) = true →
    ∃ j, (-20 ≤ j ∧ j ≤ 20) ∧ nearR j last most = true ∧ (rowR made most cs.length j).2.2 = true ∧ leC ((rowR made most cs.length j).1, (rowR made most cs.length j).2.1) (cN cs, cS cs) ∧ (cs ++ [made]).head? = some j
  | [], last, h => by
    simp only [List.nil_append, chainB, Bool.and_eq_true, decide_eq_true_eq, Bool.and_true, inB_iff] at h
    refine ⟨made, h.1.1, by simp only [nearR, decide_eq_true_eq]; omega, by simp [rowR], by simp [rowR, leC, cN, cS], rfl⟩
  | c :: cs, last, h => by
    rw [List.cons_append] at h
    unfold chainB at h
    simp only [Bool.and_eq_true, decide_eq_true_eq, inB_iff] at h
    obtain ⟨⟨⟨hc, h1⟩, h2⟩, h3⟩ := h
    obtain ⟨j, hj1, hj2, hj3, hj4, hj5⟩ := rowR_least cs c h3
    have hcand : CandR (rowR made most cs.length) c most 41 j := ⟨by omega, hj2, hj3⟩
    rcases rowTo_spec (rowR made most cs.length) c most 41 with ⟨e1, e2⟩ | ⟨i, e1, e2⟩
    · exact absurd hcand (e2 j)
    · have hmin := e2.min j hcand
      refine ⟨c, hc, by simp only [nearR, decide_eq_true_eq]; omega, ?_, ?_, rfl⟩
      · rw [List.length_cons, rowR, e1]
        exact e2.mem.2.2
      · rw [List.length_cons, rowR, e1]
        unfold moreC leC Lex at *
        simp only [cN, cS] at *
        split <;> omega

/-- What the search has chosen after i + 1 steps. -/
structure Chosen (made most : Int) (left : Nat) (last : Int) (i : Nat) (ps : List Int) (la : Int) : Prop where
  len : ps.length = i
  chain : chainB most last (ps ++ [la]) = true
  can : (rowR made most (left - i) la).2.2 = true
  best : ∃ p1, (ps ++ [la]).head? = some p1 ∧ Least (CandD (rowR made most left) last most 41) (rowR made most left) p1 ∧
    (rowR made most left p1).1 = cN ps + (rowR made most (left - i) la).1 ∧ (rowR made most left p1).2.1 = cS ps + (rowR made most (left - i) la).2.1
theorem hideR_chosen {made most : Int} (left : Nat) (last : Int) : ∀ i, i ≤ left → ∀ xs la, hideR made most left last (i + 1) = some (xs, la) → ∃ ps, xs = (ps ++ [la]).take left ∧ Chosen made most left last i ps la
  | 0, _, xs, la, h => by
    simp only [hideR, Option.bind_some] at h
    split at h
    · cases h
    · rename_i hn
      simp only [Option.some.injEq, Prod.mk.injEq] at h
      obtain ⟨h1, h2⟩ := h
      rcases pickDn_spec (rowR made most left) last most 41 (by omega) with ⟨e1, _⟩ | e1
      · exact absurd (by rw [Nat.sub_zero, e1]; decide) hn
      · simp only [Nat.sub_zero] at h1 h2
        rw [h2] at e1 h1
        have hd := e1.mem
        have hnr : la - last ≤ most ∧ last - la ≤ most := by have := hd.2.1; simp only [nearR, decide_eq_true_eq] at this; omega
        refine ⟨[], ?_, ⟨rfl, ?_, hd.2.2, la, rfl, e1, by simp [cN], by simp [cS]⟩⟩
        · rw [← h1]
          cases left with
          | zero => simp
          | succ l => simp
        · simp only [List.nil_append, chainB, Bool.and_eq_true, decide_eq_true_eq, inB_iff, and_true]
          have := hd.1
          omega
  | i + 1, hi, xs, la, h => by
    rw [hideR] at h
    cases hp : hideR made most left last (i + 1) with
    | none => rw [hp] at h; cases h
    | some x =>
      obtain ⟨xs0, la0⟩ := x
      rw [hp] at h
      simp only [Option.bind_some] at h
      obtain ⟨ps, hx, hC⟩ := hideR_chosen left last i (by omega) xs0 la0 hp
      split at h
      · cases h
      · rename_i hn
        simp only [Option.some.injEq, Prod.mk.injEq] at h
        obtain ⟨h1, h2⟩ := h
        have hr : left - i = (left - (i + 1)) + 1 := by omega
        rcases pickDn_spec (rowR made most (left - (i + 1))) la0 most 41 (by omega) with ⟨e1, _⟩ | e1
        · exact absurd (by rw [e1]; decide) hn
        · rw [h2] at e1 h1
          have hd := e1.mem
          have hnr : la - la0 ≤ most ∧ la0 - la ≤ most := by have := hd.2.1; simp only [nearR, decide_eq_true_eq] at this; omega
          have hL := hC.len
          refine ⟨ps ++ [la0], ?_, ⟨by simp [hL], ?_, hd.2.2, ?_⟩⟩
          · rw [← h1, hx]
            by_cases hil : i + 1 < left
            · rw [if_pos hil, List.take_of_length_le (by simp; omega), List.take_of_length_le (by simp; omega)]
            · rw [if_neg hil]
              have : left = i + 1 := by omega
              rw [List.take_of_length_le (by simp; omega), List.take_append_of_le_length (by simp; omega), List.take_of_length_le (by simp; omega)]
          · rw [chain_app]
            refine ⟨hC.chain, ?_, ?_⟩
            · rw [inB_iff]; have := hd.1; omega
            · simp only [List.getLast?_append, List.getLast?_singleton, Option.some_or, Option.getD_some]
              exact hnr
          · obtain ⟨p1, g1, g2, g3, g4⟩ := hC.best
            refine ⟨p1, ?_, g2, ?_⟩
            · cases ps with
              | nil => simpa using g1
              | cons q qs => simpa using g1
            · -- the cost of la0 is that of la, with la0
              have hrow : rowR made most (left - i) la0 = moreC (rowR made most (left - (i + 1)) la) la0 := by
                rw [hr, rowR]
                have eR : ∀ j, CandR (rowR made most (left - (i + 1))) la0 most 41 j ↔ CandD (rowR made most (left - (i + 1))) la0 most 41 j := fun j => by
                  unfold CandR CandD
                  constructor <;> rintro ⟨h1, h2⟩ <;> exact ⟨by omega, h2⟩
                rcases rowTo_spec (rowR made most (left - (i + 1))) la0 most 41 with ⟨_, e3⟩ | ⟨k, e3, e4⟩
                · exact absurd ((eR _).2 e1.mem) (e3 _)
                · have := (e4.cong eR fun _ _ => ⟨rfl, rfl⟩).uniq e1
                  rw [e3, this]
              rw [hrow] at g3 g4
              unfold moreC at g3 g4
              simp only at g3 g4
              rw [g3, g4, cN_app, cS_app]
              simp only [cN, cS]
              constructor
              · split <;> omega
              · omega

/-- The search ends with none just if the two are too far apart. -/
theorem hideR_none {made most : Int} (hm : 0 ≤ most) (hmd : -20 ≤ made ∧ made ≤ 20) (left : Nat) (last : Int) (hl : -20 ≤ last ∧ last ≤ 20) (hd : max (last - made) (made - last) ≤ most * ((left : Int) + 1)) : ∀ i, i ≤ left + 1 → ∃ xs la, hideR made most left last i = some (xs, la)
    ∧ (-20 ≤ la ∧ la ≤ 20) ∧ max (la - made) (made - la) ≤ most * ((left : Int) + 1 - i)
  | 0, _ => ⟨[], last, rfl, hl, by simpa using hd⟩
  | i + 1, hi => by
    obtain ⟨xs, la, h1, h2, h3⟩ := hideR_none hm hmd left last hl hd i (by omega)
    have e : most * ((left : Int) + 1 - i) = most * ((left : Int) - i) + most := by
      rw [show (left : Int) + 1 - i = ((left : Int) - i) + 1 by omega, Int.mul_add]; simp
    have hcast : ((left - i : Nat) : Int) = (left : Int) - i := by omega
    have h0 : 0 ≤ most * ((left : Int) - i) := Int.mul_nonneg hm (by omega)
    obtain ⟨j, hj1, hj2, hj3⟩ : ∃ j : Int, (-20 ≤ j ∧ j ≤ 20) ∧ (j - la ≤ most ∧ la - j ≤ most) ∧ max (j - made) (made - j) ≤ most * ((left : Int) - i) := by
      rcases (by omega : la - most ≤ made ∧ made ≤ la + most ∨ la + most < made ∨ made < la - most) with h | h | h
      · exact ⟨made, by omega, by omega, by omega⟩
      · exact ⟨la + most, by omega, by omega, by omega⟩
      · exact ⟨la - most, by omega, by omega, by omega⟩
    have hcan : CandD (rowR made most (left - i)) la most 41 j := ⟨by omega, by simp only [nearR, decide_eq_true_eq]; omega, (rowR_can hm hmd _ j hj1).2 (by rw [hcast]; exact hj3)⟩
    rcases pickDn_spec (rowR made most (left - i)) la most 41 (by omega) with ⟨_, e2⟩ | e1
    · exact absurd hcan (e2 j)
    · have hmem := e1.mem
      have hn := (rowR_can hm hmd (left - i) _ (by have := hmem.1; omega)).1 hmem.2.2
      rw [hcast] at hn
      refine ⟨if i < left then xs ++ [pickDn (rowR made most (left - i)) la most 41] else xs, pickDn (rowR made most (left - i)) la most 41, ?_, by have := hmem.1; omega, ?_⟩
      · rw [hideR, h1]
        simp only [Option.bind_some]
        rw [if_neg (by have := hmem.1; omega)]
      · rw [show (left : Int) + 1 - ((i + 1 : Nat) : Int) = (left : Int) - i by omega]
        exact hn

theorem chain_far {most : Int} (hm : 0 ≤ most) : ∀ (cs : List Int) (last made : Int), chainB most last (cs ++ [made]) = true → max (last - made) (made - last) ≤ most * ((cs.length : Int) + 1)
  | [], last, made, h => by
    simp only [List.nil_append, chainB, Bool.and_eq_true, decide_eq_true_eq, Bool.and_true] at h
    simp only [List.length_nil, Int.natCast_zero, Int.zero_add, Int.mul_one]
    omega
  | c :: cs, last, made, h => by
    rw [List.cons_append] at h
    unfold chainB at h
    simp only [Bool.and_eq_true, decide_eq_true_eq] at h
    have := chain_far hm cs c made h.2
    have e : most * (((c :: cs).length : Int) + 1) = most * ((cs.length : Int) + 1) + most := by
      rw [List.length_cons, Int.natCast_add, show ((cs.length : Int) + ((1 : Nat) : Int) + 1) = ((cs.length : Int) + 1) + 1 by omega, Int.mul_add]; simp
    omega

abbrev headL (l : List Int) : Int := l[0]?.getD 0
abbrev lastL (l : List Int) : Int := l[l.length - 1]?.getD 0
/-- What the arguments must be. -/
structure HidArgs (made : List Int) (left most : Int) : Prop where
  len : 1 ≤ made.length ∧ made.length ≤ 60
  rng : ∀ x ∈ made, -20 ≤ x ∧ x ≤ 20
  left : 0 ≤ left ∧ left ≤ 60
  most : 0 ≤ most ∧ most ≤ 20
theorem hidArgs_iff {made : List Int} {left most : Int} : (made.length ≤ 60 ∧ hideOk made left most = true) ↔ HidArgs made left most := by
  unfold hideOk
  simp only [Bool.and_eq_true, decide_eq_true_eq, inB_iff, allB, List.all_eq_true]
  exact ⟨fun h => ⟨⟨h.2.1.1, h.1⟩, h.2.1.2, h.2.2.1, h.2.2.2⟩, fun h => ⟨h.len.2, ⟨h.len.1, h.rng⟩, h.left, h.most⟩⟩
theorem HidArgs.ends {made : List Int} {left most : Int} (h : HidArgs made left most) : (-20 ≤ headL made ∧ headL made ≤ 20) ∧ -20 ≤ lastL made ∧ lastL made ≤ 20 := by
  have h1 := h.len.1
  unfold headL lastL
  rw [List.getElem?_eq_getElem (show 0 < made.length by omega), List.getElem?_eq_getElem (show made.length - 1 < made.length by omega)]
  exact ⟨h.rng _ (List.getElem_mem _), h.rng _ (List.getElem_mem _)⟩
theorem hideE_ok {made : List Int} {left most : Int} (h : HidArgs made left most) : hideE made left most = if (hideRes made left most).isSome then 0 else 6 := by
  obtain ⟨h1, h2⟩ := hidArgs_iff.2 h
  unfold hideE
  rw [if_neg (by omega), if_pos h2]
theorem hideO_ok {made : List Int} {left most : Int} (h : HidArgs made left most) : hideO made left most = ((hideRes made left most).map Prod.fst).getD [] := by
  obtain ⟨h1, h2⟩ := hidArgs_iff.2 h
  unfold hideO
  rw [if_neg (by omega), if_pos h2]
theorem hide_cases (made : List Int) (left most : Int) : HidArgs made left most ∨ (hideE made left most ≠ 0 ∧ hideE made left most ≠ 6 ∧ hideO made left most = []) := by
  by_cases h : made.length ≤ 60 ∧ hideOk made left most = true
  · exact .inl (hidArgs_iff.1 h)
  · refine .inr ?_
    unfold hideE hideO
    by_cases h1 : 60 < made.length
    · rw [if_pos h1, if_pos h1]; exact ⟨by decide, by decide, rfl⟩
    · rw [if_neg h1, if_neg h1, if_neg (fun h2 => h ⟨by omega, h2⟩), if_neg (fun h2 => h ⟨by omega, h2⟩)]; exact ⟨by decide, by decide, rfl⟩
theorem hide_found {made : List Int} {left most : Int} (h : HidArgs made left most) : (hideRes made left most).isSome = true ↔ max (lastL made - headL made) (headL made - lastL made) ≤ most * (left + 1) := by
  obtain ⟨hh, hl⟩ := h.ends
  have hL : ((left.toNat : Nat) : Int) = left := by have := h.left; omega
  constructor
  · intro hs
    unfold hideRes at hs
    obtain ⟨x, hx⟩ := Option.isSome_iff_exists.1 hs
    obtain ⟨xs, la⟩ := x
    obtain ⟨ps, _, hC⟩ := hideR_chosen left.toNat _ left.toNat (Nat.le_refl _) xs la hx
    have h1 := hC.can
    rw [Nat.sub_self] at h1
    simp only [rowR, decide_eq_true_eq] at h1
    have := chain_far h.most.1 ps _ la hC.chain
    rw [hC.len, hL, h1] at this
    exact this
  · intro hd
    obtain ⟨xs, la, h1, _⟩ := hideR_none h.most.1 hh left.toNat (lastL made) hl (by rw [hL]; exact hd) (left.toNat + 1) (Nat.le_refl _)
    unfold hideRes
    rw [h1]
    rfl
theorem hide_best {made : List Int} {left most : Int} (h : HidArgs made left most) (hs : (hideRes made left most).isSome = true) : (hideO made left most).length = left.toNat ∧ chainB most (lastL made) (hideO made left most ++ [headL made]) = true ∧
    ∀ cs : List Int, cs.length = left.toNat → chainB most (lastL made) (cs ++ [headL made]) = true → leC (cN (hideO made left most), cS (hideO made left most)) (cN cs, cS cs) := by
  rw [hideO_ok h]
  unfold hideRes at *
  obtain ⟨x, hx⟩ := Option.isSome_iff_exists.1 hs
  obtain ⟨xs, la⟩ := x
  obtain ⟨ps, h1, hC⟩ := hideR_chosen left.toNat _ left.toNat (Nat.le_refl _) xs la hx
  rw [hx]
  simp only [Option.map_some, Option.getD_some]
  rw [List.take_append_of_le_length (by rw [hC.len]; exact Nat.le_refl _), List.take_of_length_le (by rw [hC.len]; exact Nat.le_refl _)] at h1
  subst h1
  have h2 := hC.can
  rw [Nat.sub_self] at h2
  simp only [rowR, decide_eq_true_eq] at h2
  subst h2
  refine ⟨hC.len, hC.chain, fun cs hcs hch => ?_⟩
  obtain ⟨p1, g1, g2, g3, g4⟩ := hC.best
  rw [Nat.sub_self] at g3 g4
  simp only [rowR] at g3 g4
  unfold headL lastL at *
  obtain ⟨j, j1, j2, j3, j4, _⟩ := rowR_least cs _ hch
  rw [hcs] at j3 j4
  have hmin := g2.min j ⟨by omega, j2, j3⟩
  unfold Lex at hmin
  unfold leC at *
  simp only at *
  omega
/-- The signs turned. -/
theorem chain_neg {most : Int} : ∀ (cs : List Int) (last : Int), chainB most (-last) (cs.map (- ·)) = chainB most last cs
  | [], _ => rfl
  | c :: cs, last => by
    rw [List.map_cons]
    unfold chainB
    rw [chain_neg cs c]
    congr 1
    rw [Bool.eq_iff_iff]
    simp only [Bool.and_eq_true, inB_iff, decide_eq_true_eq]
    omega
theorem cN_neg (cs : List Int) : cN (cs.map (- ·)) = cN cs := by
  induction cs with
  | nil => rfl
  | cons c cs ih => simp only [List.map_cons, cN, ih]; split <;> split <;> omega
theorem cS_neg (cs : List Int) : cS (cs.map (- ·)) = cS cs := by
  induction cs with
  | nil => rfl
  | cons c cs ih => simp only [List.map_cons, cS, ih]; omega
theorem HidArgs.neg {made : List Int} {left most : Int} (h : HidArgs made left most) : HidArgs (made.map (- ·)) left most :=
  ⟨by simpa using h.len, fun x hx => by
    obtain ⟨y, hy, rfl⟩ := List.mem_map.1 hx
    have := h.rng y hy
    omega, h.left, h.most⟩
theorem ends_neg (made : List Int) : headL (made.map (- ·)) = -headL made ∧ lastL (made.map (- ·)) = -lastL made := by
  unfold headL lastL
  rw [List.getElem?_map, List.getElem?_map, List.length_map]
  constructor
  · cases made[0]? <;> simp
  · cases made[made.length - 1]? <;> simp
/-- The law of the slips of the other sign. -/
theorem hide_back {made : List Int} {left most : Int} (h : HidArgs made left most) : hideE (made.map (- ·)) left most = hideE made left most ∧ weighN (hideO (made.map (- ·)) left most) = weighN (hideO made left most) ∧ weighS (hideO (made.map (- ·)) left most) = weighS (hideO made left most) := by
  have h' := h.neg
  obtain ⟨e1, e2⟩ := ends_neg made
  have hf := hide_found h
  have hf' := hide_found h'
  have hiff : (hideRes (made.map (- ·)) left most).isSome = (hideRes made left most).isSome := by
    rw [Bool.eq_iff_iff, hf, hf', e1, e2]
    constructor <;> intro h <;> omega
  refine ⟨by rw [hideE_ok h, hideE_ok h', hiff], ?_⟩
  obtain ⟨w1, w2⟩ := weigh_eq (hideO made left most)
  obtain ⟨w3, w4⟩ := weigh_eq (hideO (made.map (- ·)) left most)
  rw [w1, w2, w3, w4]
  cases hs : (hideRes made left most).isSome with
  | false =>
    rw [hs] at hiff
    rw [hideO_ok h, hideO_ok h']
    rw [Option.isSome_eq_false_iff, Option.isNone_iff_eq_none] at hs hiff
    rw [hs, hiff]
    exact ⟨rfl, rfl⟩
  | true =>
    rw [hs] at hiff
    obtain ⟨a1, a2, a3⟩ := hide_best h hs
    obtain ⟨b1, b2, b3⟩ := hide_best h' hiff
    rw [e1, e2] at b2 b3
    have k1 := a3 ((hideO (made.map (- ·)) left most).map (- ·)) (by rw [List.length_map, b1]) (by
      have := chain_neg (most := most) (hideO (made.map (- ·)) left most ++ [-headL made]) (-lastL made)
      rw [b2, List.map_append] at this
      simpa using this)
    have k2 := b3 ((hideO made left most).map (- ·)) (by rw [List.length_map, a1]) (by
      have := chain_neg (most := most) (hideO made left most ++ [headL made]) (lastL made)
      rw [a2, List.map_append] at this
      simpa using this)
    rw [cN_neg, cS_neg] at k1 k2
    have := leC.anti k2 k1
    exact this
theorem chain_zero {most : Int} (hm : 0 ≤ most) : ∀ n, chainB most 0 (List.replicate n 0 ++ [0]) = true
  | 0 => by simp [chainB, inB]; omega
  | n + 1 => by
    rw [List.replicate_succ, List.cons_append]
    unfold chainB
    rw [chain_zero hm n]
    simp [inB]; omega
theorem c_zero : ∀ n, cN (List.replicate n 0) = 0 ∧ cS (List.replicate n 0) = 0
  | 0 => ⟨rfl, rfl⟩
  | n + 1 => by
    obtain ⟨h1, h2⟩ := c_zero n
    rw [List.replicate_succ]
    simp only [cN, cS, h1, h2]
    exact ⟨rfl, rfl⟩
theorem cN_nn (l : List Int) : 0 ≤ cN l := by
  induction l with
  | nil => exact Int.le_refl _
  | cons x xs ih => simp only [cN]; split <;> omega
/-- A family without a slip. -/
theorem hide_still {made : List Int} {left most : Int} (h : HidArgs made left most) (hz : ∀ x ∈ made, x = 0) : weighN (hideO made left most) = 0 ∧ hideE made left most = 0 := by
  have h1 := h.len.1
  have e0 : headL made = 0 := by
    unfold headL
    rw [List.getElem?_eq_getElem (show 0 < made.length by omega)]
    exact hz _ (List.getElem_mem _)
  have e1 : lastL made = 0 := by
    unfold lastL
    rw [List.getElem?_eq_getElem (show made.length - 1 < made.length by omega)]
    exact hz _ (List.getElem_mem _)
  have hs : (hideRes made left most).isSome = true := (hide_found h).2 (by
    rw [e0, e1]
    have := Int.mul_nonneg h.most.1 (show (0 : Int) ≤ left + 1 by have := h.left; omega)
    simpa using this)
  refine ⟨?_, by rw [hideE_ok h, if_pos hs]⟩
  obtain ⟨_, _, a3⟩ := hide_best h hs
  rw [e0, e1] at a3
  have k := a3 (List.replicate left.toNat 0) (by simp) (chain_zero h.most.1 _)
  obtain ⟨c1, c2⟩ := c_zero left.toNat
  rw [c1, c2] at k
  rw [(weigh_eq _).1]
  have := cN_nn (hideO made left most)
  unfold leC at k
  simp only at k
  omega
end Go.Proofs.Ytgeapenglcohfaa
