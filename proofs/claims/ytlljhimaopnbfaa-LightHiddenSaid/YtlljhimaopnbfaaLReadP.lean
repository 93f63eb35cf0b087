/- What light.Read reads: plain. Condition: the shades are in lowest terms. -/
import Derived.Test.YtlljhimaopnbfaaLSort
import Derived.Test.YtlljhimaopnbfaaLComp
import Derived.Test.YtlljhimaopnbfaaLReadD
namespace Go.Proofs.Ytlljhimaopnbfaa
section
theorem leS_trans {a b c : Int × Int} (ha : FracIs a.1 a.2) (hb : FracIs b.1 b.2) (hc : FracIs c.1 c.2) (h1 : leS a b) (h2 : leS b c) : leS a c :=
  le_trans3 (by have := ha.d1; omega) (by have := hb.d1; omega) (by have := hc.d1; omega) h1 h2
theorem leS_eq {a b : Int × Int} (ha : FracIs a.1 a.2) (hb : FracIs b.1 b.2) (h1 : leS a b) (h2 : leS b a) : a = b := by
  have := frac_eq ha hb (Int.le_antisymm h1 h2)
  exact Prod.ext this.1 this.2
theorem leS_total (a b : Int × Int) : ltS a b ∨ leS b a := by
  unfold ltS leS
  omega
theorem at_mem {xs : List (Int × Int)} {j : Nat} (h : j < xs.length) : xs[j]?.getD (0, 1) ∈ xs := by
  rw [List.getElem?_eq_getElem h]
  exact List.getElem_mem h
theorem low_spec {xs : List (Int × Int)} (hx : ∀ x ∈ xs, FracIs x.1 x.2) (h0 : 0 < xs.length) : ∀ {j : Nat}, j ≤ xs.length → lowTo xs j ∈ xs ∧ ∀ i, i < j → leS (lowTo xs j) (xs[i]?.getD (0, 1))
  | 0, _ => ⟨at_mem h0, fun i h => by omega⟩
  | j + 1, hj => by
    obtain ⟨h1, h2⟩ := low_spec hx h0 (j := j) (by omega)
    have hm := at_mem (xs := xs) (j := j) (by omega)
    have hc := compare_frac (hx _ hm) (hx _ h1)
    unfold lowTo
    split
    · rename_i hlt
      have hl : ltS (xs[j]?.getD (0, 1)) (lowTo xs j) := by
        rw [hc] at hlt
        unfold ltS
        split at hlt
        · assumption
        · split at hlt <;> omega
      refine ⟨hm, fun i hi => ?_⟩
      rcases (by omega : i < j ∨ i = j) with h | rfl
      · exact leS_trans (hx _ hm) (hx _ h1) (hx _ (at_mem (by omega))) (Int.le_of_lt hl) (h2 i h)
      · exact Int.le_refl _
    · rename_i hlt
      have hl : leS (lowTo xs j) (xs[j]?.getD (0, 1)) := by
        rw [hc] at hlt
        unfold leS
        split at hlt
        · omega
        · omega
      refine ⟨h1, fun i hi => ?_⟩
      rcases (by omega : i < j ∨ i = j) with h | rfl
      · exact h2 i h
      · exact hl
theorem high_spec {xs : List (Int × Int)} (hx : ∀ x ∈ xs, FracIs x.1 x.2) (h0 : 0 < xs.length) : ∀ {j : Nat}, j ≤ xs.length → highTo xs j ∈ xs ∧ ∀ i, i < j → leS (xs[i]?.getD (0, 1)) (highTo xs j)
  | 0, _ => ⟨at_mem h0, fun i h => by omega⟩
  | j + 1, hj => by
    obtain ⟨h1, h2⟩ := high_spec hx h0 (j := j) (by omega)
    have hm := at_mem (xs := xs) (j := j) (by omega)
    have hc := compare_frac (hx _ hm) (hx _ h1)
    unfold highTo
    split
    · rename_i hlt
      have hl : ltS (highTo xs j) (xs[j]?.getD (0, 1)) := by
        rw [hc] at hlt
        unfold ltS
        split at hlt
        · omega
        · split at hlt
          · assumption
          · omega
      refine ⟨hm, fun i hi => ?_⟩
      rcases (by omega : i < j ∨ i = j) with h | rfl
      · exact leS_trans (hx _ (at_mem (by omega))) (hx _ h1) (hx _ hm) (h2 i h) (Int.le_of_lt hl)
      · exact Int.le_refl _
    · rename_i hlt
      have hl : leS (xs[j]?.getD (0, 1)) (highTo xs j) := by
        rw [hc] at hlt
        unfold leS
        split at hlt
        · omega
        · split at hlt <;> omega
      refine ⟨h1, fun i hi => ?_⟩
      rcases (by omega : i < j ∨ i = j) with h | rfl
      · exact h2 i h
      · exact hl
theorem low_le {xs : List (Int × Int)} (hx : ∀ x ∈ xs, FracIs x.1 x.2) (h0 : 0 < xs.length) : lowS xs ∈ xs ∧ ∀ x ∈ xs, leS (lowS xs) x := by
  obtain ⟨h1, h2⟩ := low_spec hx h0 (Nat.le_refl _)
  refine ⟨h1, fun x hm => ?_⟩
  obtain ⟨i, hi, rfl⟩ := List.getElem_of_mem hm
  have := h2 i hi
  rwa [List.getElem?_eq_getElem hi] at this
theorem high_le {xs : List (Int × Int)} (hx : ∀ x ∈ xs, FracIs x.1 x.2) (h0 : 0 < xs.length) : highS xs ∈ xs ∧ ∀ x ∈ xs, leS x (highS xs) := by
  obtain ⟨h1, h2⟩ := high_spec hx h0 (Nat.le_refl _)
  refine ⟨h1, fun x hm => ?_⟩
  obtain ⟨i, hi, rfl⟩ := List.getElem_of_mem hm
  have := h2 i hi
  rwa [List.getElem?_eq_getElem hi] at this

theorem cmpTo_mem {ys : List (Int × Int)} {x : Int × Int} : ∀ {j : Nat}, j ≤ ys.length → (x ∈ cmpTo ys j ↔ x ∈ ys.take j)
  | 0, _ => by simp [cmpTo]
  | j + 1, hj => by
    have ih := cmpTo_mem (x := x) (j := j) (ys := ys) (by omega)
    rw [take_snoc (d := (0, 0)) (by omega), List.mem_append, ← ih, List.mem_singleton, show cmpTo ys (j + 1) = if j = 0 ∨ ys[j]?.getD (0, 0) ≠ ys[j - 1]?.getD (0, 0) then cmpTo ys j ++ [ys[j]?.getD (0, 0)] else cmpTo ys j from rfl]
    split
    · rw [List.mem_append, List.mem_singleton]
    · rename_i h
      have h1 : j ≠ 0 := fun e => h (.inl e)
      have h2 : ys[j]?.getD (0, 0) = ys[j - 1]?.getD (0, 0) := Decidable.byContradiction fun e => h (.inr e)
      refine ⟨.inl, fun hh => hh.elim id fun e => ?_⟩
      rw [ih, e, h2, List.mem_iff_getElem?]
      refine ⟨j - 1, ?_⟩
      rw [List.getElem?_take_of_lt (by omega), List.getElem?_eq_getElem (by omega)]
      rfl
theorem cmpTo_strict {ys : List (Int × Int)} (hs : SortedS ys) (hx : ∀ x ∈ ys, FracIs x.1 x.2) : ∀ {j : Nat}, j ≤ ys.length → (cmpTo ys j).Pairwise ltS
  | 0, _ => List.Pairwise.nil
  | j + 1, hj => by
    have ih := cmpTo_strict hs hx (j := j) (by omega)
    unfold cmpTo
    split
    · rename_i h
      rw [List.pairwise_append]
      refine ⟨ih, List.pairwise_singleton _ _, fun c hc y hy => ?_⟩
      rw [List.mem_singleton.1 hy]
      rw [cmpTo_mem (by omega)] at hc
      obtain ⟨i, hi⟩ := List.mem_iff_getElem?.1 hc
      have hij : i < j := by
        have := (List.getElem?_eq_some_iff.1 hi).1
        rw [List.length_take] at this
        omega
      rw [List.getElem?_take_of_lt hij] at hi
      obtain ⟨hil, rfl⟩ := List.getElem?_eq_some_iff.1 hi
      have hne : ys[j]?.getD (0, 0) ≠ ys[j - 1]?.getD (0, 0) := h.resolve_left (by omega)
      rw [List.getElem?_eq_getElem (show j < ys.length by omega), List.getElem?_eq_getElem (show j - 1 < ys.length by omega)] at hne
      rw [List.getElem?_eq_getElem (show j < ys.length by omega)]
      simp only [Option.getD_some] at hne ⊢
      unfold SortedS at hs
      rw [List.pairwise_iff_getElem] at hs
      have hle : ∀ a b (ha : a < ys.length) (hb : b < ys.length), a ≤ b → leS ys[a] ys[b] := fun a b ha hb hab => by
        rcases Nat.lt_or_ge a b with h | h
        · exact hs a b ha hb h
        · obtain rfl : a = b := by omega
          exact Int.le_refl _
      rcases leS_total ys[i] ys[j] with h1 | h1
      · exact h1
      · exfalso
        apply hne
        refine leS_eq (hx _ (List.getElem_mem _)) (hx _ (List.getElem_mem _)) ?_ (hle (j - 1) j (by omega) (by omega) (by omega))
        exact leS_trans (hx _ (List.getElem_mem _)) (hx _ (List.getElem_mem _)) (hx _ (List.getElem_mem _)) h1 (hle i (j - 1) (by omega) (by omega) (by omega))
    · exact ih
/-- What is compact has two elements just if there are two shades; the second one is the greater one. -/
theorem read_two {xs ys : List (Int × Int)} (hp : ys.Perm xs) (hs : SortedS ys) (hx : ∀ x ∈ xs, FracIs x.1 x.2) (h0 : 0 < xs.length) :
    ((cmpTo ys ys.length).length = 2 ↔ twoB xs = true) ∧ ((cmpTo ys ys.length).length = 2 → (cmpTo ys ys.length)[1]? = some (highS xs)) := by
  have hy : ∀ x ∈ ys, FracIs x.1 x.2 := fun x h => hx x (hp.mem_iff.1 h)
  have hst := cmpTo_strict hs hy (Nat.le_refl _)
  have hm : ∀ x, x ∈ cmpTo ys ys.length ↔ x ∈ xs := fun x => by rw [cmpTo_mem (Nat.le_refl _), List.take_length, hp.mem_iff]
  obtain ⟨l1, l2⟩ := low_le hx h0
  obtain ⟨g1, g2⟩ := high_le hx h0
  generalize cmpTo ys ys.length = C at *
  have hab : C.length = 2 → ∃ a b, C = [a, b] ∧ lowS xs = a ∧ highS xs = b ∧ ltS a b := fun h => by
    obtain ⟨a, b, rfl⟩ := len_two h
    have hlt : ltS a b := by
      rw [List.pairwise_cons] at hst
      exact hst.1 b (by simp)
    have hma : a ∈ xs := (hm a).1 (by simp)
    have hmb : b ∈ xs := (hm b).1 (by simp)
    refine ⟨a, b, rfl, ?_, ?_, hlt⟩
    · have := (hm _).2 l1
      simp only [List.mem_cons, List.not_mem_nil, or_false] at this
      rcases this with h | h
      · exact h
      · have := l2 a hma
        rw [h] at this
        unfold leS ltS at *
        omega
    · have := (hm _).2 g1
      simp only [List.mem_cons, List.not_mem_nil, or_false] at this
      rcases this with h | h
      · have := g2 b hmb
        rw [h] at this
        unfold leS ltS at *
        omega
      · exact h
  constructor
  · constructor
    · intro h
      obtain ⟨a, b, rfl, h1, h2, h3⟩ := hab h
      unfold twoB
      rw [Bool.and_eq_true, Bool.not_eq_true', beq_eq_false_iff_ne, List.all_eq_true]
      refine ⟨?_, fun x hxm => ?_⟩
      · rw [h1, h2]
        rintro rfl
        unfold ltS at h3
        omega
      · have := (hm x).2 hxm
        unfold oneOf
        rw [h1, h2]
        simpa using this
    · intro h
      unfold twoB at h
      rw [Bool.and_eq_true, Bool.not_eq_true', beq_eq_false_iff_ne, List.all_eq_true] at h
      obtain ⟨h1, h2⟩ := h
      have hnd : C.Nodup := by
        rw [List.nodup_iff_pairwise_ne]
        refine hst.imp fun {a b} hab e => ?_
        subst e
        unfold ltS at hab
        omega
      have h3 : C.length ≤ 2 := List.Nodup.length_le_of_subset (l₂ := [lowS xs, highS xs]) hnd fun x hxm => by
        have := h2 x ((hm x).1 hxm)
        unfold oneOf at this
        simpa using this
      have h4 : 2 ≤ C.length := List.Nodup.length_le_of_subset (l₁ := [lowS xs, highS xs]) (by simpa using h1) fun x hxm => by
        simp only [List.mem_cons, List.not_mem_nil, or_false] at hxm
        rcases hxm with rfl | rfl
        · exact (hm _).2 l1
        · exact (hm _).2 g1
      omega
  · intro h
    obtain ⟨a, b, rfl, h1, h2, h3⟩ := hab h
    rw [h2]
    rfl
end
end Go.Proofs.Ytlljhimaopnbfaa
