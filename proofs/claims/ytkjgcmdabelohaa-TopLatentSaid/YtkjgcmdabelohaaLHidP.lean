/- A latent image and what is read of it: plain. No program. -/
import Derived.Test.YtkjgcmdabelohaaLReadP
import Derived.Test.YtkjgcmdabelohaaLShs
namespace Go.Proofs.Ytkjgcmdabelohaa
section
def mixL (ms : List Bool) (a c : Int × Int) : List (Int × Int) := ms.map fun b => if b then a else c
theorem mix_mem {ms : List Bool} {a c x : Int × Int} : x ∈ mixL ms a c ↔ (true ∈ ms ∧ x = a) ∨ (false ∈ ms ∧ x = c) := by
  unfold mixL
  rw [List.mem_map]
  constructor
  · rintro ⟨b, hb, rfl⟩
    cases b
    · exact .inr ⟨hb, rfl⟩
    · exact .inl ⟨hb, rfl⟩
  · rintro (⟨hb, rfl⟩ | ⟨hb, rfl⟩)
    · exact ⟨true, hb, rfl⟩
    · exact ⟨false, hb, rfl⟩
theorem mix_len {ms : List Bool} {a c : Int × Int} : (mixL ms a c).length = ms.length := by simp [mixL]
/-- Two shades are read just if the message has both and they differ. -/
theorem mix_read {ms : List Bool} {a c : Int × Int} (ha : FracIs a.1 a.2) (hc : FracIs c.1 c.2) (hl : ms.length ≤ 576) :
    (readE (mixL ms a c) = 0 ↔ (true ∈ ms ∧ false ∈ ms) ∧ a ≠ c) ∧ (readE (mixL ms a c) = 0 → ∃ s : Bool, readL (mixL ms a c) = ms.map (· == s)) := by
  have hfr : ∀ x ∈ mixL ms a c, FracIs x.1 x.2 := fun x hx => by
    rcases mix_mem.1 hx with ⟨_, rfl⟩ | ⟨_, rfl⟩
    · exact ha
    · exact hc
  have hall : (mixL ms a c).all fracS = true := List.all_eq_true.2 fun x hx => fracB_iff.2 (hfr x hx)
  have hE : readE (mixL ms a c) = if (mixL ms a c).length ≠ 0 ∧ twoB (mixL ms a c) = true then 0 else 6 := by
    unfold readE
    rw [if_neg (by rw [mix_len]; omega), if_pos hall]
  have h0 : readE (mixL ms a c) = 0 ↔ (mixL ms a c).length ≠ 0 ∧ twoB (mixL ms a c) = true := by
    rw [hE]
    split <;> simp_all
  have hkey : readE (mixL ms a c) = 0 → (true ∈ ms ∧ false ∈ ms) ∧ a ≠ c ∧ (highS (mixL ms a c) = a ∨ highS (mixL ms a c) = c) := fun h => by
    obtain ⟨h1, h2⟩ := h0.1 h
    have hp : 0 < (mixL ms a c).length := by omega
    obtain ⟨l1, _⟩ := low_le hfr hp
    obtain ⟨g1, _⟩ := high_le hfr hp
    unfold twoB at h2
    rw [Bool.and_eq_true, Bool.not_eq_true', beq_eq_false_iff_ne] at h2
    rcases mix_mem.1 l1 with ⟨p1, p2⟩ | ⟨p1, p2⟩ <;> rcases mix_mem.1 g1 with ⟨q1, q2⟩ | ⟨q1, q2⟩
    · exact absurd (p2.trans q2.symm) h2.1
    · exact ⟨⟨p1, q1⟩, fun e => h2.1 (by rw [p2, q2, e]), .inr q2⟩
    · exact ⟨⟨q1, p1⟩, fun e => h2.1 (by rw [p2, q2, e]), .inl q2⟩
    · exact absurd (p2.trans q2.symm) h2.1
  refine ⟨⟨fun h => ⟨(hkey h).1, (hkey h).2.1⟩, fun ⟨⟨ht, hf⟩, hne⟩ => h0.2 ?_⟩, fun h => ?_⟩
  · have hma : a ∈ mixL ms a c := mix_mem.2 (.inl ⟨ht, rfl⟩)
    have hmc : c ∈ mixL ms a c := mix_mem.2 (.inr ⟨hf, rfl⟩)
    have hp : 0 < (mixL ms a c).length := List.length_pos_of_mem hma
    refine ⟨by omega, ?_⟩
    obtain ⟨l1, l2⟩ := low_le hfr hp
    obtain ⟨g1, g2⟩ := high_le hfr hp
    have hlg : lowS (mixL ms a c) ≠ highS (mixL ms a c) := fun e => by
      have e1 := leS_eq ha hc (by
        rcases mix_mem.1 g1 with ⟨_, q⟩ | ⟨_, q⟩
        · have := l2 c hmc; rw [e, q] at this; exact this
        · have := g2 a hma; rw [q] at this; exact this) (by
        rcases mix_mem.1 g1 with ⟨_, q⟩ | ⟨_, q⟩
        · have := g2 c hmc; rw [q] at this; exact this
        · have := l2 a hma; rw [e, q] at this; exact this)
      exact hne e1
    unfold twoB
    rw [Bool.and_eq_true, Bool.not_eq_true', beq_eq_false_iff_ne, List.all_eq_true]
    refine ⟨hlg, fun x hx => ?_⟩
    unfold oneOf
    rw [Bool.or_eq_true, beq_iff_eq, beq_iff_eq]
    rcases mix_mem.1 l1 with ⟨_, p⟩ | ⟨_, p⟩ <;> rcases mix_mem.1 g1 with ⟨_, q⟩ | ⟨_, q⟩ <;> rcases mix_mem.1 hx with ⟨_, r⟩ | ⟨_, r⟩ <;> simp_all
  · obtain ⟨_, hne, hh⟩ := hkey h
    unfold readL
    rw [if_pos h]
    rcases hh with hh | hh
    · refine ⟨true, ?_⟩
      rw [hh, mixL, List.map_map]
      refine List.map_congr_left fun b _ => ?_
      cases b
      · simpa using fun e => hne e.symm
      · simp
    · refine ⟨false, ?_⟩
      rw [hh, mixL, List.map_map]
      refine List.map_congr_left fun b _ => ?_
      cases b
      · simp
      · simpa using hne
/-- How many of the first j are said. -/
def sayN (ms : List Bool) (j : Nat) : Nat := (ms.take j).count true
theorem sayN_step {ms : List Bool} {j : Nat} (h : j < ms.length) : sayN ms (j + 1) = if ms[j] = true then sayN ms j + 1 else sayN ms j := by
  unfold sayN
  rw [List.take_succ_eq_append_getElem h, List.count_append]
  cases ms[j] <;> simp
theorem sayN_le (ms : List Bool) (j : Nat) : sayN ms j ≤ j := Nat.le_trans List.count_le_length (by rw [List.length_take]; omega)
theorem say_both {ms : List Bool} : (decide (0 < sayN ms ms.length) && decide (sayN ms ms.length < ms.length)) = decide (true ∈ ms ∧ false ∈ ms) := by
  unfold sayN
  rw [List.take_length]
  rw [Bool.eq_iff_iff, Bool.and_eq_true, decide_eq_true_eq, decide_eq_true_eq, decide_eq_true_eq, List.count_pos_iff]
  refine and_congr_right fun _ => ?_
  constructor
  · intro h
    refine Decidable.byContradiction fun hn => ?_
    have : ms.count true = ms.length := List.count_eq_length.2 fun b hb => by
      cases b
      · exact absurd hb hn
      · rfl
    omega
  · intro h
    have h1 := @List.count_le_length _ _ true ms
    rcases Nat.lt_or_ge (ms.count true) ms.length with h2 | h2
    · exact h2
    · have := (List.count_eq_length.1 (Nat.le_antisymm h1 h2)) false h
      cases this
theorem shTo_mem {ya yb na nb p : Int} {ls : List (Int × Int × Int)} {i : Nat} : ∀ {j : Nat}, j ≤ ls.length → ((i : Int) ∈ shTo ya yb na nb p ls j ↔ i < j ∧ shB ya yb na nb p (ls[i]?.getD (0, 0, 0)) = true)
  | 0, _ => by simp [shTo]
  | j + 1, h => by
    have ih := shTo_mem (ya := ya) (yb := yb) (na := na) (nb := nb) (p := p) (i := i) (j := j) (ls := ls) (by omega)
    unfold shTo
    split
    · rename_i hs
      rw [List.mem_append, ih, List.mem_singleton]
      constructor
      · rintro (⟨h1, h2⟩ | h1)
        · exact ⟨by omega, h2⟩
        · obtain rfl : i = j := by omega
          exact ⟨by omega, hs⟩
      · rintro ⟨h1, h2⟩
        rcases (by omega : i < j ∨ i = j) with h3 | rfl
        · exact .inl ⟨h3, h2⟩
        · exact .inr rfl
    · rename_i hs
      rw [ih]
      constructor
      · rintro ⟨h1, h2⟩
        exact ⟨by omega, h2⟩
      · rintro ⟨h1, h2⟩
        rcases (by omega : i < j ∨ i = j) with h3 | rfl
        · exact ⟨h3, h2⟩
        · exact absurd h2 hs
theorem shErr_each {ya yb na nb p : Int} {ls : List (Int × Int × Int)} : ∀ {j : Nat}, shErr ya yb na nb p ls j = 0 → ∀ i, i < j → shE ya yb na nb p (ls[i]?.getD (0, 0, 0)) = 0
  | 0, _, i, h => by omega
  | j + 1, h, i, hi => by
    unfold shErr at h
    split at h
    · rename_i h1
      exact absurd h h1
    · rename_i h1
      rcases (by omega : i < j ∨ i = j) with h3 | rfl
      · exact shErr_each (Decidable.not_not.1 h1) i h3
      · exact h
end
end Go.Proofs.Ytkjgcmdabelohaa
