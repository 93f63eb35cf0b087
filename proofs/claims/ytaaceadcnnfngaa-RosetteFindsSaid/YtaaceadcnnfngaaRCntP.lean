/- The reference's way of counting gives the same number: the plain laws. No program. -/
import Derived.Test.YtaaceadcnnfngaaRCntF
import Derived.Test.YtaaceadcnnfngaaCCount2
namespace Go.Proofs.Ytaaceadcnnfngaa

section
variable (gs ls ys : List Int) (first : Nat)
/-- What a step weighs, that is high or not; 0 where it must not be so. -/
def refA (q s bit : Nat) : Int := if (decide (ls.length ≤ q) && decide (bit ≠ first / 2 ^ (q - ls.length) % 2)) || !tchB gs ls ys q (s + bit * 2 ^ (ys.length - 1)) then 0 else if q < ls.length then (if bit = 1 then 1 else gs[q]?.getD 0) else 1
def refV : Nat → Nat → Nat → Int
  | 0, _, s => if s = first then 1 else 0
  | f + 1, q, s => refA gs ls ys first q s 0 * refV f (q + 1) (s / 2) + refA gs ls ys first q s 1 * refV f (q + 1) ((s + 2 ^ (ys.length - 1)) / 2)
end

section
variable {gs ls ys : List Int} {first : Nat}
theorem bitsX_add {m s b : Nat} (hs : s < 2 ^ m) : bitsX m b s = s + b * 2 ^ m := by
  rw [bitsX, Nat.or_comm, Nat.mul_comm b, ← Nat.two_pow_add_eq_or_of_lt hs, Nat.add_comm]
theorem okX_tch {q b s : Nat} (hq : ys.length - 1 ≤ q) (hs : s < 2 ^ (ys.length - 1)) : okX gs ls ys q b s = tchB gs ls ys q (s + b * 2 ^ (ys.length - 1)) := by
  have htb : tbAt gs ls ys q < 2 ^ ys.length := touchB_lt _ _ _ _
  rw [Bool.eq_iff_iff]
  have e1 : okX gs ls ys q b s = true ↔ (tbAt gs ls ys q &&& bitsX (ys.length - 1) b s) ≠ 0 := by simp [okX, hq]
  rw [e1, and_ne_zero htb, bitsX_add hs]
  simp only [tchB, hitH, List.any_eq_true, List.mem_range, Bool.and_eq_true]
  refine exists_congr fun j => and_congr_right fun hj => ?_
  rw [tbAt, touchB_bit, decide_eq_true hj, Bool.true_and]
  exact And.comm
theorem cnt_ref (hy : 1 ≤ ys.length) (hl : ys.length ≤ ls.length) (hf : first < 2 ^ (ys.length - 1)) : ∀ (f q s : Nat), f + q = ls.length + (ys.length - 1) → ys.length - 1 ≤ q → s < 2 ^ (ys.length - 1) →
    (ls.length < q → s / 2 ^ (ys.length - 1 - (q - ls.length)) = first % 2 ^ (q - ls.length)) → cntV gs ls ys f q first s = refV gs ls ys first f q s
  | 0, q, s, hq, _, _, hi => by
    rw [cntV, refV, if_pos]
    rcases Nat.eq_zero_or_pos (ys.length - 1) with h0 | h0
    · rw [h0] at hf
      have hs0 : s < 2 ^ 0 := by rw [← h0]; assumption
      simp at hf hs0
      omega
    · have h1 := hi (by omega)
      rw [show q - ls.length = ys.length - 1 by omega, Nat.sub_self, Nat.pow_zero, Nat.div_one, Nat.mod_eq_of_lt hf] at h1
      exact h1
  | f + 1, q, s, hq, hm, hs, hi => by
    have hst : ∀ b, stepA (ys.length - 1) q b first = first := fun b => by rw [stepA, if_neg (by omega)]
    have hsb : ∀ b, stepB (ys.length - 1) b s = (s + b * 2 ^ (ys.length - 1)) / 2 := fun b => by rw [stepB, bitsX_add hs]
    have hlt : ∀ b, b ≤ 1 → (s + b * 2 ^ (ys.length - 1)) / 2 < 2 ^ (ys.length - 1) := fun b hb => by
      have := Nat.mul_le_mul_right (2 ^ (ys.length - 1)) hb
      omega
    by_cases hn : ls.length ≤ q
    · have hbit : first / 2 ^ (q - ls.length) % 2 ≤ 1 := by omega
      obtain ⟨b, hb⟩ : ∃ b, first / 2 ^ (q - ls.length) % 2 = b := ⟨_, rfl⟩
      have hinv : (s + b * 2 ^ (ys.length - 1)) / 2 / 2 ^ (ys.length - 1 - (q + 1 - ls.length)) = first % 2 ^ (q + 1 - ls.length) := by
        have hd : q - ls.length < ys.length - 1 := by omega
        have e0 : s / 2 ^ (ys.length - 1 - (q - ls.length)) = first % 2 ^ (q - ls.length) := by
          rcases Nat.eq_or_lt_of_le hn with h | h
          · rw [← h, Nat.sub_self, Nat.sub_zero, Nat.pow_zero, Nat.mod_one, Nat.div_eq_of_lt hs]
          · exact hi h
        obtain ⟨d, hd'⟩ : ∃ d, q - ls.length = d := ⟨_, rfl⟩
        rw [hd'] at hb hd e0
        rw [show q + 1 - ls.length = d + 1 by omega, Nat.div_div_eq_div_mul]
        have e2 : 2 * 2 ^ (ys.length - 1 - (d + 1)) = 2 ^ (ys.length - 1 - d) := by
          rw [show ys.length - 1 - d = (ys.length - 1 - (d + 1)) + 1 by omega, Nat.pow_succ, Nat.mul_comm]
        have e3 : b * 2 ^ (ys.length - 1) = 2 ^ (ys.length - 1 - d) * (b * 2 ^ d) := by
          rw [Nat.mul_comm b, Nat.mul_comm b, ← Nat.mul_assoc, ← Nat.pow_add, show ys.length - 1 - d + d = ys.length - 1 by omega]
        rw [e2, e3, Nat.add_mul_div_left _ _ (Nat.two_pow_pos _), e0, ← hb, Nat.mod_pow_succ, Nat.mul_comm (2 ^ d)]
      have ih := cnt_ref hy hl hf f (q + 1) ((s + b * 2 ^ (ys.length - 1)) / 2) (by omega) (by omega) (hlt b (by omega)) (fun _ => hinv)
      have hA : ∀ b', b' ≠ b → refA gs ls ys first q s b' = 0 := fun b' h => by
        rw [refA, decide_eq_true hn, hb, decide_eq_true h]
        rfl
      have hB : refA gs ls ys first q s b = if okX gs ls ys q b s then 1 else 0 := by
        rw [refA, hb, okX_tch hm hs]
        rw [show decide (b ≠ b) = false by simp, Bool.and_false, Bool.false_or, if_neg (show ¬ q < ls.length by omega)]
        cases tchB gs ls ys q (s + b * 2 ^ (ys.length - 1)) <;> rfl
      rw [cntV, if_pos hn, hb, cntA, hst, hsb, ih, refV]
      rcases (by omega : b = 0 ∨ b = 1) with rfl | rfl
      · rw [hA 1 (by decide), hB, Nat.zero_mul, Nat.add_zero]
        split <;> simp
      · rw [hA 0 (by decide), hB, Nat.one_mul]
        split <;> simp
    · have ih : ∀ b, b ≤ 1 → cntV gs ls ys f (q + 1) first ((s + b * 2 ^ (ys.length - 1)) / 2) = refV gs ls ys first f (q + 1) ((s + b * 2 ^ (ys.length - 1)) / 2) := fun b hb =>
        cnt_ref hy hl hf f (q + 1) _ (by omega) (by omega) (hlt b hb) (fun h => by
          have : q + 1 = ls.length + 1 ∨ q + 1 ≤ ls.length := by omega
          omega)
      have hB : ∀ b, refA gs ls ys first q s b = if okX gs ls ys q b s then (if b = 1 then 1 else gs[q]?.getD 0) else 0 := fun b => by
        rw [refA, decide_eq_false hn, Bool.false_and, Bool.false_or, okX_tch hm hs, if_pos (show q < ls.length by omega)]
        cases tchB gs ls ys q (s + b * 2 ^ (ys.length - 1)) <;> rfl
      have i0 := ih 0 (by decide)
      have i1 := ih 1 (by decide)
      rw [Nat.zero_mul, Nat.add_zero] at i0
      rw [Nat.one_mul] at i1
      rw [cntV, if_neg hn, cntA, cntA, hst, hst, hsb, hsb, Nat.zero_mul, Nat.add_zero, Nat.one_mul, i0, i1, refV, hB, hB, Int.add_comm]
      congr 1
      · split <;> simp
      · split <;> simp

/-- What the first steps weigh, by the bits of a number. -/
def wtTo (gs : List Int) (q t : Nat) : Nat → Int
  | 0 => 1
  | r + 1 => (if t % 2 = 1 then 1 else gs[q]?.getD 0) * wtTo gs (q + 1) (t / 2) r
theorem sum_pairs (F : Nat → Int) : ∀ K : Nat, ((List.range (2 * K)).map F).sum = ((List.range K).map fun t => F (2 * t) + F (2 * t + 1)).sum
  | 0 => rfl
  | K + 1 => by
    rw [show 2 * (K + 1) = 2 * K + 1 + 1 by omega, List.range_succ, List.range_succ, List.range_succ, List.map_append, List.map_append, List.map_append, List.sum_append, List.sum_append, List.sum_append, sum_pairs F K]
    simp
    omega
theorem cnt_first (hl : ys.length ≤ ls.length) : ∀ (r q fa : Nat), r + q = ys.length - 1 → fa < 2 ^ q → cntV gs ls ys (ls.length + r) q fa (fa * 2 ^ r) =
    ((List.range (2 ^ r)).map fun t => wtTo gs q t r * cntV gs ls ys ls.length (ys.length - 1) (fa + t * 2 ^ q) (fa + t * 2 ^ q)).sum
  | 0, q, fa, hq, _ => by
    obtain rfl : q = ys.length - 1 := by omega
    simp [wtTo]
  | r + 1, q, fa, hq, hfa => by
    have hm : q < ys.length - 1 := by omega
    have he : 2 ^ (ys.length - 1) = 2 ^ q * 2 ^ (r + 1) := by rw [← Nat.pow_add, show q + (r + 1) = ys.length - 1 by omega]
    have hlow : fa * 2 ^ (r + 1) < 2 ^ (ys.length - 1) := by
      rw [he]
      exact Nat.mul_lt_mul_of_pos_right hfa (Nat.two_pow_pos _)
    have hA : ∀ b, b ≤ 1 → stepA (ys.length - 1) q b fa = fa + b * 2 ^ q := fun b _ => by
      rw [stepA, if_pos hm]
      exact bitsX_add hfa
    have hB : ∀ b, b ≤ 1 → stepB (ys.length - 1) b (fa * 2 ^ (r + 1)) = (fa + b * 2 ^ q) * 2 ^ r := fun b _ => by
      rw [stepB, bitsX_add hlow, he, ← Nat.mul_assoc, ← Nat.add_mul, Nat.pow_succ, ← Nat.mul_assoc, Nat.mul_div_cancel _ (by decide)]
    have ih : ∀ b, b ≤ 1 → _ := fun b hb => cnt_first hl r (q + 1) (fa + b * 2 ^ q) (by omega) (by
      have := Nat.mul_le_mul_right (2 ^ q) hb
      rw [Nat.pow_succ]
      omega)
    have h0 := ih 0 (by decide)
    have h1 := ih 1 (by decide)
    rw [show ls.length + (r + 1) = (ls.length + r) + 1 by omega, cntV, if_neg (by omega), cntA, cntA, okX_low hm, okX_low hm, if_pos rfl, if_pos rfl, hA 1 (by decide), hA 0 (by decide), hB 1 (by decide), hB 0 (by decide), h0, h1, show 2 ^ (r + 1) = 2 * 2 ^ r by rw [Nat.pow_succ, Nat.mul_comm], sum_pairs]
    have hs : ∀ (l : List Nat) (c : Int) (f g : Nat → Int), (l.map f).sum + c * (l.map g).sum = (l.map fun t => f t + c * g t).sum := fun l c f g => by
      induction l with
      | nil => simp
      | cons x l ih => simp only [List.map_cons, List.sum_cons, ← ih, Int.mul_add]; omega
    rw [hs]
    congr 1
    refine List.map_congr_left fun t _ => ?_
    have e0 : (2 * t) % 2 = 0 := by omega
    have e1 : (2 * t + 1) % 2 = 1 := by omega
    have e2 : 2 * t / 2 = t := by omega
    have e3 : (2 * t + 1) / 2 = t := by omega
    have e4 : fa + 2 * t * 2 ^ q = fa + 0 * 2 ^ q + t * 2 ^ (q + 1) := by rw [Nat.pow_succ, Nat.zero_mul, Nat.add_zero, Nat.mul_comm 2 t, Nat.mul_assoc, Nat.mul_comm 2]
    have e5 : fa + (2 * t + 1) * 2 ^ q = fa + 1 * 2 ^ q + t * 2 ^ (q + 1) := by rw [Nat.pow_succ, Nat.add_mul, Nat.mul_comm 2 t, Nat.mul_assoc, Nat.mul_comm 2]; omega
    simp only [wtTo, e0, e1, e2, e3, e4, e5, if_pos, Int.one_mul]
    rw [if_neg (by decide), Int.mul_assoc, Int.add_comm]
/-- All first states together. -/
theorem cnt_states (hy : 1 ≤ ys.length) (hl : ys.length ≤ ls.length) : cntV gs ls ys (ls.length + (ys.length - 1)) 0 0 0 =
    ((List.range (2 ^ (ys.length - 1))).map fun t => wtTo gs 0 t (ys.length - 1) * refV gs ls ys t ls.length (ys.length - 1) t).sum := by
  have h := cnt_first (gs := gs) (ls := ls) (ys := ys) hl (ys.length - 1) 0 0 (by omega) (by simp)
  rw [Nat.zero_mul] at h
  rw [h]
  congr 1
  refine List.map_congr_left fun t ht => ?_
  rw [Nat.pow_zero, Nat.mul_one, Nat.zero_add, cnt_ref hy hl (List.mem_range.1 ht) ls.length (ys.length - 1) t (by omega) (Nat.le_refl _) (List.mem_range.1 ht) (fun h => by omega)]
end
end Go.Proofs.Ytaaceadcnnfngaa
