/- The reference's way of counting, plain: sums over states, modulo a number. No program. -/
import Derived.Test.YtaaceadcnnfngaaRCntP
namespace Go.Proofs.Ytaaceadcnnfngaa
section
/-- A sum over the entries of a list, each times a value. -/
def dotV (V : Nat → Int) : List Int → Nat → Int
  | [], _ => 0
  | x :: xs, k => x * V k + dotV V xs (k + 1)
variable {V : Nat → Int}
theorem dot_set : ∀ (xs : List Int) (k t : Nat) (y : Int) (h : t < xs.length), dotV V (xs.set t y) k = dotV V xs k + (y - xs[t]) * V (k + t)
  | x :: xs, k, 0, y, _ => by
    simp only [List.set_cons_zero, dotV, List.getElem_cons_zero, Nat.add_zero, Int.sub_mul]
    omega
  | x :: xs, k, t + 1, y, h => by
    have ih := dot_set xs (k + 1) t y (by simpa using h)
    simp only [List.set_cons_succ, dotV, List.getElem_cons_succ]
    rw [ih, show k + 1 + t = k + (t + 1) by omega]
    omega
theorem dot_zero : ∀ n k, dotV V (List.replicate n 0) k = 0
  | 0, _ => rfl
  | n + 1, k => by rw [List.replicate_succ, dotV, dot_zero n, Int.zero_mul, Int.zero_add]
theorem dot_app : ∀ (xs : List Int) (k : Nat) (y : Int), dotV V (xs ++ [y]) k = dotV V xs k + y * V (k + xs.length)
  | [], k, y => by simp [dotV]
  | x :: xs, k, y => by
    simp only [List.cons_append, dotV, dot_app xs, List.length_cons]
    rw [show k + 1 + xs.length = k + (xs.length + 1) by omega]
    omega
theorem dot_take {xs : List Int} {s : Nat} (h : s < xs.length) : dotV V (xs.take (s + 1)) 0 = dotV V (xs.take s) 0 + xs[s] * V s := by
  rw [List.take_succ_eq_append_getElem h, dot_app]
  simp [Nat.min_eq_left (Nat.le_of_lt h)]
theorem dot_one {K t : Nat} (h : t < K) (y : Int) : dotV V ((List.replicate K 0).set t y) 0 = y * V t := by
  rw [dot_set _ _ _ _ (by simpa using h), dot_zero, List.getElem_replicate, Int.zero_add, Int.sub_zero, Nat.zero_add]
theorem emod_mul_add {a b c d m : Int} (h : a % m = b % m) : (c + a * d) % m = (c + b * d) % m := by
  rw [Int.emod_eq_emod_iff_emod_sub_eq_zero] at h ⊢
  rw [show c + a * d - (c + b * d) = (a - b) * d by rw [Int.sub_mul]; omega, Int.mul_emod, h, Int.zero_mul, Int.zero_emod]
theorem dot_step {xs : List Int} {t : Nat} {z c m : Int} (h : t < xs.length) (hz : z % m = (xs[t] + c) % m) : dotV V (xs.set t z) 0 % m = (dotV V xs 0 + c * V t) % m := by
  rw [dot_set _ _ _ _ h, Nat.zero_add]
  refine emod_mul_add ?_
  rw [Int.emod_eq_emod_iff_emod_sub_eq_zero] at hz ⊢
  rw [show z - xs[t] - c = z - (xs[t] + c) by omega]
  exact hz
/-- A state's vector while the next one is summed up. -/
structure DotN (V V' : Nat → Int) (m : Int) (W N : List Int) (s : Nat) (part : Int) : Prop where
  len : N.length = W.length
  bd : ∀ x ∈ N, 0 ≤ x ∧ x < m
  sum : dotV V' N 0 % m = (dotV V (W.take s) 0 + W[s]?.getD 0 * part) % m
theorem DotN.start {V V' : Nat → Int} {m : Int} {W : List Int} (hm : 0 < m) : DotN V V' m W (List.replicate W.length 0) 0 0 :=
  ⟨by simp, fun x hx => by rw [List.mem_replicate] at hx; omega, by rw [dot_zero]; simp [dotV]⟩
theorem DotN.next {V V' : Nat → Int} {m : Int} {W N : List Int} {s : Nat} (h : DotN V V' m W N s (V s)) (hs : s < W.length) : DotN V V' m W N (s + 1) 0 :=
  ⟨h.len, h.bd, by
    rw [h.sum, Int.mul_zero, Int.add_zero, dot_take hs, List.getElem?_eq_getElem hs]
    rfl⟩
/-- An entry that is 0 adds nothing. -/
theorem DotN.none {V V' : Nat → Int} {m : Int} {W N : List Int} {s : Nat} {p : Int} (h : DotN V V' m W N s p) (hs : s < W.length) (h0 : W[s] = 0) (p' : Int) : DotN V V' m W N s p' :=
  ⟨h.len, h.bd, by
    rw [h.sum, List.getElem?_eq_getElem hs, Option.getD_some, h0, Int.zero_mul, Int.zero_mul]⟩
theorem DotN.put {V V' : Nat → Int} {m : Int} {W N : List Int} {s t : Nat} {p c z a : Int} (h : DotN V V' m W N s p) (hm : 0 < m) (hs : s < W.length) (ht : t < N.length) (hc : c % m = (W[s] * a) % m) (hz : z = (N[t] + c) % m) : DotN V V' m W (N.set t z) s (p + a * V' t) := by
  refine ⟨by simpa using h.len, fun x hx => ?_, ?_⟩
  · rcases List.mem_or_eq_of_mem_set hx with h1 | rfl
    · exact h.bd x h1
    · rw [hz]
      exact ⟨Int.emod_nonneg _ (by omega), Int.emod_lt_of_pos _ hm⟩
  · rw [dot_step ht (c := c) (by rw [hz, Int.emod_emod])]
    have e1 : (dotV V' N 0 + c * V' t) % m = (dotV V' N 0 + (W[s] * a) * V' t) % m := emod_mul_add hc
    rw [e1, Int.add_emod, h.sum, ← Int.add_emod, List.getElem?_eq_getElem hs, Option.getD_some, Int.mul_add, Int.mul_assoc, Int.add_assoc]
theorem DotN.skip {V V' : Nat → Int} {m : Int} {W N : List Int} {s : Nat} {p q : Int} (h : DotN V V' m W N s p) (e : q = p) : DotN V V' m W N s q := e ▸ h
/-- A state's vector. -/
structure DotW (V : Nat → Int) (m : Int) (K : Nat) (W : List Int) (C : Int) : Prop where
  len : W.length = K
  bd : ∀ x ∈ W, 0 ≤ x ∧ x < m
  sum : dotV V W 0 % m = C % m
theorem DotN.end {V V' : Nat → Int} {m : Int} {K : Nat} {W N : List Int} {C p : Int} (h : DotN V V' m W N K p) (hW : DotW V m K W C) : DotW V' m K N C := by
  refine ⟨h.len.trans hW.len, h.bd, ?_⟩
  rw [h.sum, List.take_of_length_le (by rw [hW.len]; exact Nat.le_refl _), List.getElem?_eq_none (by rw [hW.len]; exact Nat.le_refl _), Option.getD_none, Int.zero_mul, Int.add_zero, hW.sum]
theorem dot_pick {t : Nat} : ∀ (xs : List Int) (k : Nat), k ≤ t → t < k + xs.length → dotV (fun s => if s = t then 1 else 0) xs k = xs[t - k]?.getD 0
  | [], k, h1, h2 => by simp at h2; omega
  | x :: xs, k, h1, h2 => by
    rw [dotV]
    by_cases e : k = t
    · subst e
      have : ∀ (ys : List Int) (j : Nat), k < j → dotV (fun s => if s = k then 1 else 0) ys j = 0 := by
        intro ys
        induction ys with
        | nil => intros; rfl
        | cons y ys ih =>
          intro j hj
          rw [dotV, ih (j + 1) (by omega)]
          rw [if_neg (by omega), Int.mul_zero, Int.zero_add]
      rw [this xs (k + 1) (by omega)]
      simp
    · rw [dot_pick xs (k + 1) (by omega) (by simp at h2; omega)]
      rw [if_neg e, Int.mul_zero, Int.zero_add, show t - k = (t - (k + 1)) + 1 by omega, List.getElem?_cons_succ]
theorem DotW.pick {m : Int} {K t : Nat} {W : List Int} {C : Int} (h : DotW (fun s => if s = t then 1 else 0) m K W C) (ht : t < K) : W[t]? = some (C % m) := by
  have hl : t < W.length := by rw [h.len]; exact ht
  have h1 := h.sum
  rw [dot_pick W 0 (Nat.zero_le _) (by omega), Nat.sub_zero, List.getElem?_eq_getElem hl, Option.getD_some] at h1
  obtain ⟨b1, b2⟩ := h.bd _ (List.getElem_mem hl)
  rw [List.getElem?_eq_getElem hl, ← h1, Int.emod_eq_of_lt b1 b2]
/-- The product of the first weights. -/
structure WtIs (gs : List Int) (first m : Nat) (M : Int) (q : Nat) (y : Int) : Prop where
  bd : 0 ≤ y ∧ y < M
  eq : (y * wtTo gs q (first / 2 ^ q) (m - q)) % M = wtTo gs 0 first m % M
theorem WtIs.start {gs : List Int} {first m : Nat} {M : Int} (hM : 1 < M) : WtIs gs first m M 0 1 := ⟨by omega, by simp⟩
theorem WtIs.step {gs : List Int} {first m q : Nat} {M y z : Int} (h : WtIs gs first m M q y) (hM : 0 < M) (hq : q < m) (hz : z = (y * (if first / 2 ^ q % 2 = 1 then 1 else gs[q]?.getD 0)) % M) : WtIs gs first m M (q + 1) z := by
  refine ⟨by rw [hz]; exact ⟨Int.emod_nonneg _ (by omega), Int.emod_lt_of_pos _ hM⟩, ?_⟩
  rw [← h.eq, hz, show m - q = (m - (q + 1)) + 1 by omega, wtTo, Int.mul_emod, Int.emod_emod, ← Int.mul_emod, Int.mul_assoc, Nat.pow_succ, Nat.div_div_eq_div_mul]
theorem WtIs.end {gs : List Int} {first m : Nat} {M y : Int} (h : WtIs gs first m M m y) : y % M = wtTo gs 0 first m % M := by
  rw [← h.eq, Nat.sub_self, wtTo, Int.mul_one]
theorem DotW.start {V : Nat → Int} {M : Int} {K t : Nat} {y c : Int} (hM : 0 < M) (ht : t < K) (hy : 0 ≤ y ∧ y < M) (hc : y % M = c % M) : DotW V M K ((List.replicate K 0).set t y) (c * V t) := by
  refine ⟨by simp, fun x hx => ?_, ?_⟩
  · rcases List.mem_or_eq_of_mem_set hx with h1 | rfl
    · rw [List.mem_replicate] at h1; omega
    · exact hy
  · rw [dot_one ht]
    have := emod_mul_add (c := 0) (d := V t) hc
    simpa using this
end
end Go.Proofs.Ytaaceadcnnfngaa
