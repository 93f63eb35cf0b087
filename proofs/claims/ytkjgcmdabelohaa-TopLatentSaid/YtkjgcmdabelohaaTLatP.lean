/- TopLatent in plain Lean: what is read of a message in the light, and on which side. No program. -/
import Derived.Test.YtkjgcmdabelohaaLHidP
import Derived.Test.YtkjgcmdabelohaaTMask
namespace Go.Proofs.Ytkjgcmdabelohaa
section
theorem cmp_pos {a c : Int × Int} (ha : FracIs a.1 a.2) (hc : FracIs c.1 c.2) (hne : a ≠ c) (h : leS c a) : decide (0 < compareOf a.1 a.2 c.1 c.2) = true := by
  have hz : compareOf a.1 a.2 c.1 c.2 ≠ 0 := fun e => hne (Prod.ext ((compare_zero ha hc).1 e).1 ((compare_zero ha hc).1 e).2)
  have h2 := (compare_le hc ha).2 h
  have h3 := compare_neg hc ha
  rw [decide_eq_true_eq]
  omega
theorem cmp_neg {a c : Int × Int} (ha : FracIs a.1 a.2) (hc : FracIs c.1 c.2) (h : leS a c) : decide (0 < compareOf a.1 a.2 c.1 c.2) = false := by
  have h2 := (compare_le ha hc).2 h
  rw [decide_eq_false_iff_not]
  omega
/-- What is read, and on which side. -/
theorem mix_side {ms : List Bool} {a c : Int × Int} (ha : FracIs a.1 a.2) (hc : FracIs c.1 c.2) (hl : ms.length ≤ 576) (h : readE (mixL ms a c) = 0) : readL (mixL ms a c) = ms.map (· == decide (0 < compareOf a.1 a.2 c.1 c.2)) := by
  have hfr : ∀ x ∈ mixL ms a c, FracIs x.1 x.2 := fun x hx => by
    rcases mix_mem.1 hx with ⟨_, rfl⟩ | ⟨_, rfl⟩
    · exact ha
    · exact hc
  obtain ⟨⟨ht, hf⟩, hne⟩ := (mix_read ha hc hl).1.1 h
  have hma : a ∈ mixL ms a c := mix_mem.2 (.inl ⟨ht, rfl⟩)
  have hmc : c ∈ mixL ms a c := mix_mem.2 (.inr ⟨hf, rfl⟩)
  obtain ⟨g1, g2⟩ := high_le hfr (List.length_pos_of_mem hma)
  unfold readL
  rw [if_pos h, mixL, List.map_map]
  rcases mix_mem.1 g1 with ⟨_, e⟩ | ⟨_, e⟩
  · have hp := cmp_pos ha hc hne (by have := g2 c hmc; rwa [e] at this)
    rw [← mixL, e, hp]
    refine List.map_congr_left fun b _ => ?_
    cases b
    · simpa using fun e => hne e.symm
    · simp
  · have hp := cmp_neg ha hc (by have := g2 a hma; rwa [e] at this)
    rw [← mixL, e, hp]
    refine List.map_congr_left fun b _ => ?_
    cases b
    · simp
    · simpa using hne
theorem mix_none {ms : List Bool} {a c : Int × Int} (ha : FracIs a.1 a.2) (hc : FracIs c.1 c.2) (hl : ms.length ≤ 576) (h : readE (mixL ms a c) ≠ 0) : readE (mixL ms a c) = 6 := by
  have hall : (mixL ms a c).all fracS = true := List.all_eq_true.2 fun x hx => fracB_iff.2 (by
    rcases mix_mem.1 hx with ⟨_, rfl⟩ | ⟨_, rfl⟩
    · exact ha
    · exact hc)
  have hE : readE (mixL ms a c) = if (mixL ms a c).length ≠ 0 ∧ twoB (mixL ms a c) = true then 0 else 6 := by
    unfold readE
    rw [if_neg (by rw [mix_len]; omega), if_pos hall]
  rw [hE] at h ⊢
  split at h
  · exact absurd rfl h
  · rename_i hn
    rw [if_neg hn]
/-- What one compares of a reading and of a side is the message. -/
theorem side_back {ms : List Bool} {s : Bool} : (ms.map (· == s)).map (· == s) = ms := by
  rw [List.map_map]
  conv => rhs; rw [← List.map_id ms]
  refine List.map_congr_left fun b _ => ?_
  cases b <;> cases s <;> rfl
/-- The mask's rows, one behind the other. -/
def maskF (ws : List Nat) (size cols : Nat) : List Bool := (List.range 5).flatMap fun r => maskR ws size cols r ws.length 0
theorem maskF_len {ws : List Nat} {size cols : Nat} : (maskF ws size cols).length = 5 * cols := by
  simp only [maskF, List.length_flatMap, maskR_len]
  simp [List.range_succ]
  omega
end
end Go.Proofs.Ytkjgcmdabelohaa
