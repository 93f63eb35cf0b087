/- What rosette.Contacts collects, and which steps are needed. No program. -/
import Derived.Test.YtaaceadcnnfngaaRNeeF
import Derived.Test.YtaaceadcnnfngaaRNum
namespace Go.Proofs.Ytaaceadcnnfngaa

/-- The steps that the drops touch, by their bits, in the rubber's order. -/
def cTo (n m p b : Nat) (pre : List Nat) : List Int := (pre.filter fun j => b.testBit (min j m)).map fun j => ((p : Int) + (((min j m : Nat) : Int) - (m : Int) / 2)) % (n : Int)
theorem cTo_snoc (n m p b : Nat) (pre : List Nat) (j : Nat) : cTo n m p b (pre ++ [j]) = cTo n m p b pre ++ (if b.testBit (min j m) then [((p : Int) + (((min j m : Nat) : Int) - (m : Int) / 2)) % (n : Int)] else []) := by
  simp only [cTo, List.filter_append, List.map_append]
  cases h : b.testBit (min j m) <;> simp [h]
theorem cTo_len (n m p b : Nat) (pre : List Nat) : (cTo n m p b pre).length ≤ pre.length := by
  rw [cTo, List.length_map]
  exact List.length_filter_le _ _

/-- Offsets that are less than a round apart lie at different places. -/
theorem plc_inj {n p : Nat} {d e : Int} (h1 : d - e < n) (h2 : e - d < n) (h : plc n p d = plc n p e) (hn : 1 ≤ n) : d = e := by
  have hd := plc_cast (k := p) (d := d) hn
  have he := plc_cast (k := p) (d := e) hn
  rw [h, he] at hd
  have h3 : ((p : Int) + d - (p + e)) % n = 0 := by rw [Int.sub_emod, hd, Int.sub_self]; rfl
  have h4 : (n : Int) ∣ (p : Int) + d - (p + e) := Int.dvd_of_emod_eq_zero h3
  obtain ⟨k, hk⟩ := h4
  have h5 : d - e = n * k := by omega
  rcases Int.lt_trichotomy k 0 with h6 | h6 | h6
  · have := Int.mul_le_mul_of_nonneg_left (show k ≤ -1 by omega) (show (0 : Int) ≤ n by omega)
    rw [Int.mul_neg, Int.mul_one] at this
    omega
  · subst h6
    omega
  · have := Int.mul_le_mul_of_nonneg_left (show 1 ≤ k by omega) (show (0 : Int) ≤ n by omega)
    rw [Int.mul_one] at this
    omega

section
variable {xs ys : List Int} {p : Nat} {L : Int}
/-- The place of the rubber's drop j. -/
def at_ (xs ys : List Int) (p j : Nat) : Nat := plc xs.length p ((j : Int) - (ys.length : Int) / 2)
def touB (xs ys : List Int) (p : Nat) (L : Int) (j : Nat) : Bool := decide (askOf xs ys ys.length p j = L)
theorem at_lt (hf : Fine xs ys) (p j : Nat) : at_ xs ys p j < xs.length := plc_lt hf.n1
theorem at_inj (hf : Fine xs ys) {i j : Nat} (hi : i < ys.length) (hj : j < ys.length) (h : at_ xs ys p i = at_ xs ys p j) : i = j := by
  have h1 := hf.le
  have := plc_inj (by omega) (by omega) h hf.n1
  omega
theorem contB_iff (_ : Fine xs ys) {q j : Nat} (hj : j < ys.length) : contB xs ys p L q j = true ↔ at_ xs ys p j = q ∧ touB xs ys p L j = true := by
  rw [contB, Bool.and_eq_true, decide_eq_true_eq, decide_eq_true_eq, touB, decide_eq_true_eq, askOf_plc xs ys hj]
  constructor
  · rintro ⟨h1, h2⟩
    exact ⟨h1, by rw [h1]; exact h2⟩
  · rintro ⟨h1, h2⟩
    exact ⟨h1, by rw [at_] at h1; rw [h1] at h2; exact h2⟩
/-- The step is touched. -/
def touQ (xs ys : List Int) (p : Nat) (L : Int) (q : Nat) : Bool := (List.range ys.length).any fun j => touB xs ys p L j && decide (at_ xs ys p j = q)
theorem touQ_iff {q : Nat} : touQ xs ys p L q = true ↔ ∃ j, j < ys.length ∧ touB xs ys p L j = true ∧ at_ xs ys p j = q := by simp [touQ]
def tQ (xs ys : List Int) (p : Nat) (L : Int) (k : Nat) : List Int := ((List.range k).filter (touQ xs ys p L)).map fun q : Nat => (q : Int)
theorem filter_one {P : Nat → Bool} {a : Nat} (h : ∀ i, P i = true ↔ i = a) : ∀ k, (List.range k).filter P = if a < k then [a] else []
  | 0 => rfl
  | k + 1 => by
    rw [List.range_succ, List.filter_append, filter_one h k]
    by_cases h1 : k = a
    · subst h1
      simp [(h k).2 rfl]
    · have h2 : P k = false := by
        rcases hp : P k with _ | _
        · rfl
        · exact absurd ((h k).1 hp) h1
      by_cases h3 : a < k
      · simp [h2, h3, show a < k + 1 by omega]
      · simp [h2, h3, show ¬ a < k + 1 by omega]
theorem conIn_eq (hf : Fine xs ys) (q : Nat) : conIn xs ys p L q ys.length = if touQ xs ys p L q then [(q : Int)] else [] := by
  unfold conIn
  by_cases h : touQ xs ys p L q = true
  · rw [if_pos h]
    obtain ⟨a, ha, h1, h2⟩ := touQ_iff.1 h
    have e : (List.range ys.length).filter (contB xs ys p L q) = (List.range ys.length).filter (fun i => decide (i = a)) := by
      refine List.filter_congr fun i hi => ?_
      rw [Bool.eq_iff_iff, contB_iff hf (List.mem_range.1 hi), decide_eq_true_eq]
      constructor
      · rintro ⟨h3, _⟩
        exact at_inj hf (List.mem_range.1 hi) ha (h3.trans h2.symm)
      · rintro rfl
        exact ⟨h2, h1⟩
    rw [e, filter_one (a := a) (fun i => by simp), if_pos ha]
    rfl
  · rw [if_neg h]
    have e : (List.range ys.length).filter (contB xs ys p L q) = [] := by
      rw [List.filter_eq_nil_iff]
      intro i hi hc
      obtain ⟨h1, h2⟩ := (contB_iff hf (List.mem_range.1 hi)).1 hc
      exact h (touQ_iff.2 ⟨i, List.mem_range.1 hi, h2, h1⟩)
    rw [e]
    rfl
theorem conTo_eq (hf : Fine xs ys) : ∀ k, conTo xs ys p L k = tQ xs ys p L k
  | 0 => rfl
  | k + 1 => by
    rw [conTo_succ, conTo_eq hf k, conIn_eq hf, tQ, tQ, List.range_succ, List.filter_append, List.map_append]
    cases h : touQ xs ys p L k <;> simp [h]
theorem tQ_sorted (k : Nat) : (tQ xs ys p L k).Pairwise (fun a b => a < b) := by
  unfold tQ
  rw [List.pairwise_map]
  refine List.Pairwise.imp (fun {a b} h => by omega) (List.Pairwise.filter _ (List.pairwise_lt_range (n := k)))
theorem tQ_mem {k : Nat} {a : Int} : a ∈ tQ xs ys p L k ↔ ∃ q : Nat, a = q ∧ q < k ∧ touQ xs ys p L q = true := by
  simp only [tQ, List.mem_map, List.mem_filter, List.mem_range]
  exact ⟨fun ⟨q, ⟨h1, h2⟩, h3⟩ => ⟨q, h3.symm, h1, h2⟩, fun ⟨q, h3, h1, h2⟩ => ⟨q, ⟨h1, h2⟩, h3.symm⟩⟩
theorem cTo_eq (hf : Fine xs ys) : cTo xs.length ys.length p (touchB xs ys p L) (List.range ys.length) = ((List.range ys.length).filter (touB xs ys p L)).map fun j : Nat => ((at_ xs ys p j : Nat) : Int) := by
  unfold cTo
  have e : (List.range ys.length).filter (fun j => (touchB xs ys p L).testBit (min j ys.length)) = (List.range ys.length).filter (touB xs ys p L) := by
    refine List.filter_congr fun j hj => ?_
    have := List.mem_range.1 hj
    rw [Nat.min_eq_left (by omega), touchB_bit, decide_eq_true this, Bool.true_and, touB]
  rw [e]
  refine List.map_congr_left fun j hj => ?_
  have := List.mem_range.1 (List.mem_filter.1 hj).1
  rw [Nat.min_eq_left (by omega), at_, plc_cast hf.n1]
/-- Sorted, the touched steps are the reference's. -/
theorem sort_touches (hf : Fine xs ys) : (cTo xs.length ys.length p (touchB xs ys p L) (List.range ys.length)).mergeSort (fun x y => decide (x ≤ y)) = conTo xs ys p L xs.length := by
  rw [cTo_eq hf, conTo_eq hf]
  have hnd : (((List.range ys.length).filter (touB xs ys p L)).map fun j : Nat => ((at_ xs ys p j : Nat) : Int)).Nodup := by
    refine nodup_map (List.Pairwise.filter _ List.nodup_range) fun i hi j hj h => ?_
    exact at_inj (p := p) hf (List.mem_range.1 (List.mem_filter.1 hi).1) (List.mem_range.1 (List.mem_filter.1 hj).1) (by omega)
  have hs := tQ_sorted (xs := xs) (ys := ys) (p := p) (L := L) xs.length
  have hp : (((List.range ys.length).filter (touB xs ys p L)).map fun j : Nat => ((at_ xs ys p j : Nat) : Int)).Perm (tQ xs ys p L xs.length) := by
    refine (List.perm_ext_iff_of_nodup hnd (hs.imp fun {a b} h => by omega)).2 fun a => ?_
    rw [tQ_mem]
    simp only [List.mem_map, List.mem_filter, List.mem_range]
    constructor
    · rintro ⟨j, ⟨h1, h2⟩, rfl⟩
      exact ⟨_, rfl, at_lt hf p j, touQ_iff.2 ⟨j, h1, h2, rfl⟩⟩
    · rintro ⟨q, rfl, _, h2⟩
      obtain ⟨j, h3, h4, h5⟩ := touQ_iff.1 h2
      exact ⟨j, ⟨h3, h4⟩, by rw [h5]⟩
  refine List.Perm.eq_of_pairwise (le := fun a b => a ≤ b) (fun a b _ _ h1 h2 => Int.le_antisymm h1 h2) ?_ (hs.imp fun {a b} h => by omega) ((List.mergeSort_perm _ _).trans hp)
  have := List.pairwise_mergeSort (le := fun x y : Int => decide (x ≤ y)) (fun a b c h1 h2 => by simp at *; omega) (fun a b => by simp; omega) (((List.range ys.length).filter (touB xs ys p L)).map fun j : Nat => ((at_ xs ys p j : Nat) : Int))
  exact this.imp fun {a b} h => by simpa using h

theorem lift_ask_le (hf : Fine xs ys) (hp : p < xs.length) {j : Nat} (hj : j < ys.length) : askOf xs ys ys.length p j ≤ (liftL xs ys)[p]?.getD 0 := (lift_le_iff hf.b1 hp).1 (Int.le_refl _) j hj
theorem lift_ask_ex (hf : Fine xs ys) (hp : p < xs.length) : ∃ j, j < ys.length ∧ touB xs ys p ((liftL xs ys)[p]?.getD 0) j = true := by
  refine Classical.byContradiction fun h => ?_
  have h1 : (liftL xs ys)[p]?.getD 0 ≤ (liftL xs ys)[p]?.getD 0 - 1 := (lift_le_iff hf.b1 hp).2 fun j hj => by
    have h2 := lift_ask_le hf hp hj
    have h3 : askOf xs ys ys.length p j ≠ (liftL xs ys)[p]?.getD 0 := fun e => h ⟨j, hj, decide_eq_true e⟩
    omega
  omega

theorem cTo_ne (hf : Fine xs ys) (hp : p < xs.length) : cTo xs.length ys.length p (touchB xs ys p ((liftL xs ys)[p]?.getD 0)) (List.range ys.length) ≠ [] := by
  rw [cTo_eq hf]
  intro h
  obtain ⟨j, hj, ht⟩ := lift_ask_ex hf hp
  have hm : j ∈ (List.range ys.length).filter (touB xs ys p ((liftL xs ys)[p]?.getD 0)) := List.mem_filter.2 ⟨List.mem_range.2 hj, ht⟩
  rw [List.map_eq_nil_iff] at h
  rw [h] at hm
  cases hm

/-- Only the step q is touched, from p. -/
def aloneB (xs ys : List Int) (p q : Nat) : Bool := (List.range ys.length).any fun j => (touchB xs ys p ((liftL xs ys)[p]?.getD 0) == 2 ^ j) && decide (at_ xs ys p j = q)
theorem aloneB_iff {q : Nat} : aloneB xs ys p q = true ↔ ∃ j, j < ys.length ∧ at_ xs ys p j = q ∧ touB xs ys p ((liftL xs ys)[p]?.getD 0) j = true ∧ ∀ i, i < ys.length → touB xs ys p ((liftL xs ys)[p]?.getD 0) i = true → i = j := by
  simp only [aloneB, List.any_eq_true, List.mem_range, Bool.and_eq_true, beq_iff_eq, decide_eq_true_eq]
  refine exists_congr fun j => and_congr_right fun hj => ?_
  constructor
  · rintro ⟨h1, h2⟩
    have hb : ∀ i, i < ys.length → (touB xs ys p ((liftL xs ys)[p]?.getD 0) i = true ↔ i = j) := fun i hi => by
      have := touchB_bit xs ys p ((liftL xs ys)[p]?.getD 0) i
      rw [h1, Nat.testBit_two_pow, decide_eq_true hi, Bool.true_and] at this
      rw [touB, ← this, decide_eq_true_eq]
      exact eq_comm
    exact ⟨h2, (hb j hj).2 rfl, fun i hi h => (hb i hi).1 h⟩
  · rintro ⟨h1, h2, h3⟩
    refine ⟨Nat.eq_of_testBit_eq fun i => ?_, h1⟩
    rw [touchB_bit, Nat.testBit_two_pow, Bool.eq_iff_iff, Bool.and_eq_true]
    simp only [decide_eq_true_eq]
    constructor
    · rintro ⟨h4, h5⟩
      exact (h3 i h4 (decide_eq_true h5)).symm
    · rintro rfl
      exact ⟨hj, of_decide_eq_true h2⟩
def aloneTo (xs ys : List Int) (k q : Nat) : Bool := (List.range k).any fun p => aloneB xs ys p q

theorem ask_set (hf : Fine xs ys) {q j : Nat} (hj : j < ys.length) : askOf (xs.set q (xs[q]?.getD 0 - 1)) ys ys.length p j = if at_ xs ys p j = q then askOf xs ys ys.length p j - 1 else askOf xs ys ys.length p j := by
  have hl := at_lt hf p j
  rw [askOf_plc _ _ hj, askOf_plc _ _ hj, List.length_set, List.getElem?_set]
  rw [at_] at hl ⊢
  split
  · rename_i h
    rw [if_pos (by omega), if_pos h.symm, h]
    simp
    omega
  · rename_i h
    rw [if_neg (fun e => h e.symm)]
/-- A step is needed just if it is above 0 and, from some step, the only one that is touched. -/
theorem needB_alone (hf : Fine xs ys) (q : Nat) : needB xs ys q = (aloneTo xs ys xs.length q && decide (0 < xs[q]?.getD 0)) := by
  have h0 := (hf.hx q).1
  by_cases hz : xs[q]?.getD 0 = 0
  · rw [needB, decide_eq_true hz, hz]
    simp
  · have hpos : decide (0 < xs[q]?.getD 0) = true := by simp; omega
    rw [needB, decide_eq_false hz, hpos, Bool.and_true, Bool.not_false, Bool.true_and, Bool.eq_iff_iff, Bool.not_eq_true', beq_eq_false_iff_ne]
    have hg := hf.less hz
    simp only [aloneTo, List.any_eq_true, List.mem_range]
    constructor
    · intro hne
      have : ∃ p, p < xs.length ∧ (liftL (xs.set q (xs[q]?.getD 0 - 1)) ys)[p]?.getD 0 ≠ (liftL xs ys)[p]?.getD 0 := by
        refine Classical.byContradiction fun h => hne (list_ext (by simp [liftL_len]) fun i hi => ?_)
        rw [liftL_len, List.length_set] at hi
        exact Classical.byContradiction fun e => h ⟨i, hi, e⟩
      obtain ⟨p, hp, hd⟩ := this
      refine ⟨p, hp, aloneB_iff.2 ?_⟩
      have hp' : p < (xs.set q (xs[q]?.getD 0 - 1)).length := by rw [List.length_set]; exact hp
      have hall : ∀ j, j < ys.length → touB xs ys p ((liftL xs ys)[p]?.getD 0) j = true → at_ xs ys p j = q := fun j hj ht => Classical.byContradiction fun hc => by
        have h1 := lift_ask_le hg hp' hj
        rw [ask_set hf hj, if_neg hc, of_decide_eq_true ht] at h1
        have h2 : (liftL (xs.set q (xs[q]?.getD 0 - 1)) ys)[p]?.getD 0 ≤ (liftL xs ys)[p]?.getD 0 := (lift_le_iff hf.b1 hp').2 fun i hi => by
          have h3 := lift_ask_le hf hp hi
          rw [ask_set hf hi]
          split <;> omega
        omega
      obtain ⟨j, hj, ht⟩ := lift_ask_ex hf hp
      exact ⟨j, hj, hall j hj ht, ht, fun i hi hti => at_inj hf hi hj ((hall i hi hti).trans (hall j hj ht).symm)⟩
    · rintro ⟨p, hp, ha⟩ he
      obtain ⟨j, hj, h1, h2, h3⟩ := aloneB_iff.1 ha
      have hp' : p < (xs.set q (xs[q]?.getD 0 - 1)).length := by rw [List.length_set]; exact hp
      have h4 : (liftL (xs.set q (xs[q]?.getD 0 - 1)) ys)[p]?.getD 0 ≤ (liftL xs ys)[p]?.getD 0 - 1 := (lift_le_iff hf.b1 hp').2 fun i hi => by
        have h5 := lift_ask_le hf hp hi
        rw [ask_set hf hi]
        split
        · omega
        · rename_i hc
          have h6 : touB xs ys p ((liftL xs ys)[p]?.getD 0) i ≠ true := fun e => hc (by rw [h3 i hi e]; exact h1)
          have h7 : askOf xs ys ys.length p i ≠ (liftL xs ys)[p]?.getD 0 := fun e => h6 (decide_eq_true e)
          omega
      rw [he] at h4
      omega
end
end Go.Proofs.Ytaaceadcnnfngaa
