/- pattern.offset: by how much the shapes of one bench are turned to be those of another one. Condition: the benches lie there, and have as many steps. -/
import Derived.Test.YtkjgcmdabelohaaGreatMBase
import Derived.Test.YtkjgcmdabelohaaGreatPAlv
namespace Go.Proofs.YtkjgcmdabelohaaGreat
section
/- PMot: pattern's gcd, repeats, motif, closes; Closes and Motif of a valid program. Condition: the bench lies there. -/
section
/- TFw: Words with periods: plain (TopTwelve: twelve cuts tell the whole pattern; the motif). No program. -/
section
variable {α : Type}
theorem per_mul {s : Nat} {a : Int → α} (h : ∀ j, a (j + s) = a j) : ∀ (m : Nat) (j : Int), a (j + (s * m : Nat)) = a j
  | 0, j => by simp
  | m + 1, j => by
    rw [show j + ((s * (m + 1) : Nat) : Int) = (j + (s * m : Nat)) + s by rw [Nat.mul_add, Nat.mul_one]; omega, h, per_mul h m]
/-- Two words with periods of at most 6 that agree at 11 places agree everywhere. -/
theorem fw_nat {s n : Nat} {a b : Int → α} (hs : 1 ≤ s) (hn : 1 ≤ n) (hs6 : s ≤ 6) (hn6 : n ≤ 6) (pa : ∀ j, a (j + s) = a j) (pb : ∀ j, b (j + n) = b j) (h : ∀ j : Nat, j ≤ 10 → a j = b j) : ∀ k : Nat, a k = b k := by
  intro k
  induction k using Nat.strongRecOn with
  | ind k ih =>
    by_cases hk : k ≤ 10
    · exact h k hk
    · by_cases e : s = n
      · subst e
        have h1 := pa ((k - s : Nat) : Int)
        have h2 := pb ((k - s : Nat) : Int)
        rw [show ((k - s : Nat) : Int) + s = (k : Int) by omega] at h1 h2
        rw [h1, h2, ih (k - s) (by omega)]
      · have h1 := pa ((k - s : Nat) : Int)
        have h2 := pb ((k - s - n : Nat) : Int)
        have h3 := pa ((k - s - n : Nat) : Int)
        have h4 := pb ((k - n : Nat) : Int)
        rw [show ((k - s : Nat) : Int) + s = (k : Int) by omega] at h1
        rw [show ((k - s - n : Nat) : Int) + n = ((k - s : Nat) : Int) by omega] at h2
        rw [show ((k - s - n : Nat) : Int) + s = ((k - n : Nat) : Int) by omega] at h3
        rw [show ((k - n : Nat) : Int) + n = (k : Int) by omega] at h4
        rw [h1, ih (k - s) (by omega), h2, ← ih (k - s - n) (by omega), ← h3, ih (k - n) (by omega), h4]
theorem fw_all {s n : Nat} {a b : Int → α} (hs : 1 ≤ s) (hn : 1 ≤ n) (hs6 : s ≤ 6) (hn6 : n ≤ 6) (pa : ∀ j, a (j + s) = a j) (pb : ∀ j, b (j + n) = b j) (h : ∀ j : Nat, j ≤ 10 → a j = b j) (j : Int) : a j = b j := by
  have h1 := per_mul pa (n * j.natAbs) j
  have h2 := per_mul pb (s * j.natAbs) j
  have e : s * (n * j.natAbs) = n * (s * j.natAbs) := by rw [← Nat.mul_assoc, ← Nat.mul_assoc, Nat.mul_comm s n]
  have hpos : (j.natAbs : Int) ≤ ((s * (n * j.natAbs) : Nat) : Int) := by
    have h3 : 1 * j.natAbs ≤ s * n * j.natAbs := Nat.mul_le_mul_right _ (Nat.mul_le_mul hs hn)
    rw [Nat.one_mul, Nat.mul_assoc] at h3
    omega
  rw [← e] at h2
  rw [← h1, ← h2]
  obtain ⟨z, hz⟩ : ∃ z : Nat, j + ((s * (n * j.natAbs) : Nat) : Int) = (z : Int) := ⟨(j + ((s * (n * j.natAbs) : Nat) : Int)).toNat, by omega⟩
  rw [hz]
  exact fw_nat hs hn hs6 hn6 pa pb h z
end
section
variable {α : Type}
def IsPer (D : Int → α) (c : Nat) : Prop := ∀ j : Int, D (j + c) = D j
theorem IsPer.mod {D : Int → α} {a b : Nat} (ha : IsPer D a) (hb : IsPer D b) : IsPer D (b % a) := fun j => by
  have h1 : ∀ m : Nat, D (j + (b % a : Nat) + (a * m : Nat)) = D (j + (b % a : Nat)) := fun m => by
    induction m with
    | zero => simp
    | succ m ih => rw [Nat.mul_add, Nat.mul_one, show j + (b % a : Nat) + ((a * m + a : Nat) : Int) = (j + (b % a : Nat) + (a * m : Nat)) + a by omega, ha, ih]
  have h2 := h1 (b / a)
  have e := Nat.mod_add_div b a
  rw [show j + (b % a : Nat) + ((a * (b / a) : Nat) : Int) = j + b by omega, hb] at h2
  exact h2.symm
theorem IsPer.gcd {D : Int → α} {a b : Nat} (ha : IsPer D a) (hb : IsPer D b) : IsPer D (Nat.gcd a b) := by
  induction a, b using Nat.gcd.induction with
  | H0 n => rw [Nat.gcd_zero_left]; exact hb
  | H1 m n _ ih => rw [Nat.gcd_rec]; exact ih (ha.mod hb) ha
/-- The least part of a period that is a period: it does not matter of which period. -/
structure LeastIs (D : Int → α) (s c : Nat) : Prop where
  pos : 1 ≤ c
  per : IsPer D c
  dvd : c ∣ s
  least : ∀ d, 1 ≤ d → d ∣ s → IsPer D d → c ≤ d
theorem least_eq {D : Int → α} {s n c1 c2 : Nat} (h1 : LeastIs D s c1) (h2 : LeastIs D n c2) : c1 = c2 := by
  have hg := h1.per.gcd h2.per
  have hp : 1 ≤ Nat.gcd c1 c2 := Nat.gcd_pos_of_pos_left _ h1.pos
  have e1 := h1.least _ hp (Nat.dvd_trans (Nat.gcd_dvd_left _ _) h1.dvd) hg
  have e2 := h2.least _ hp (Nat.dvd_trans (Nat.gcd_dvd_right _ _) h2.dvd) hg
  have f1 := Nat.le_of_dvd h1.pos (Nat.gcd_dvd_left c1 c2)
  have f2 := Nat.le_of_dvd h2.pos (Nat.gcd_dvd_right c1 c2)
  omega
/-- A list's entries, over and over. -/
def cycV (xs : List Int) (P : Int) (j : Int) : Int := (xs[(j % xs.length).toNat]?.getD 0) % P
theorem cyc_per {xs : List Int} {P : Int} : IsPer (cycV xs P) xs.length := fun j => by
  unfold cycV
  rw [Int.add_emod_right]
/-- The list repeats, modulo the period, after some of its entries. -/
def RepB (xs : List Int) (P : Int) (c : Nat) : Prop := ∀ i, c ≤ i → i < xs.length → ((xs[i]?.getD 0) - (xs[i - c]?.getD 0)) % P = 0
theorem cyc_at {xs : List Int} {P : Int} {i : Nat} (h : i < xs.length) : cycV xs P i = (xs[i]?.getD 0) % P := by
  unfold cycV
  have : ((i : Int) % xs.length).toNat = i := by
    rw [← Int.natCast_emod, Int.toNat_natCast, Nat.mod_eq_of_lt h]
  rw [this]
theorem rep_per {xs : List Int} {P : Int} {c : Nat} (hc : 1 ≤ c) (hd : c ∣ xs.length) (h0 : 1 ≤ xs.length) : RepB xs P c ↔ IsPer (cycV xs P) c := by
  constructor
  · intro h j
    obtain ⟨q, hq⟩ := hd
    have hcl : c ≤ xs.length := by
      rcases q with _ | q
      · omega
      · rw [hq, Nat.mul_add]; omega
    -- the place in the list
    obtain ⟨r, hr, hrl⟩ : ∃ r : Nat, (r : Int) = j % xs.length ∧ r < xs.length := ⟨(j % xs.length).toNat, by
      have := Int.emod_nonneg j (show (xs.length : Int) ≠ 0 by omega)
      omega, by
      have := Int.emod_lt_of_pos j (show (0 : Int) < xs.length by omega)
      have := Int.emod_nonneg j (show (xs.length : Int) ≠ 0 by omega)
      omega⟩
    have e0 : cycV xs P j = cycV xs P r := by unfold cycV; rw [hr, Int.emod_emod]
    have e1 : cycV xs P (j + c) = cycV xs P ((r + c : Nat) : Int) := by
      unfold cycV
      rw [Int.natCast_add, hr, Int.emod_add_emod]
    rw [e0, e1]
    by_cases hlt : r + c < xs.length
    · rw [cyc_at hlt, cyc_at hrl]
      have := h (r + c) (by omega) hlt
      rw [Nat.add_sub_cancel] at this
      exact Int.emod_eq_emod_iff_emod_sub_eq_zero.2 this
    · -- around the end: the entries of the residue of r are all the same
      have hall : ∀ m i : Nat, i + c * m < xs.length → cycV xs P ((i + c * m : Nat) : Int) = cycV xs P i := by
        intro m
        induction m with
        | zero => intro i _; rfl
        | succ m ih =>
          intro i hi
          rw [Nat.mul_add, Nat.mul_one] at hi ⊢
          rw [← ih i (by omega), cyc_at (by omega), cyc_at (by omega)]
          have := h (i + (c * m + c)) (by omega) hi
          rw [show i + (c * m + c) - c = i + c * m by omega] at this
          exact Int.emod_eq_emod_iff_emod_sub_eq_zero.2 this
      have e2 : cycV xs P ((r + c : Nat) : Int) = cycV xs P ((r + c - xs.length : Nat) : Int) := by
        have := cyc_per (xs := xs) (P := P) ((r + c - xs.length : Nat) : Int)
        rw [show ((r + c - xs.length : Nat) : Int) + (xs.length : Nat) = ((r + c : Nat) : Int) by omega] at this
        exact this
      rw [e2]
      -- r = i + c * m with i = r + c - length
      have hm : r = (r + c - xs.length) + c * (q - 1) := by
        rcases q with _ | q
        · omega
        · rw [Nat.add_sub_cancel]
          rw [Nat.mul_add, Nat.mul_one] at hq
          omega
      have := hall (q - 1) (r + c - xs.length) (by omega)
      rw [← hm] at this
      exact this.symm
  · intro h i hi hl
    have := h ((i - c : Nat) : Int)
    rw [show ((i - c : Nat) : Int) + c = (i : Int) by omega, cyc_at hl, cyc_at (by omega)] at this
    exact Int.emod_eq_emod_iff_emod_sub_eq_zero.1 this
end
end
section
/- PTwP: TopTwelve in plain words: the shifts that are found make the same phases, modulo the lift's period, at every cut. No program. Condition: a valid program of up to 6 shifts. -/

/-- The phase of a cut, before it is reduced. -/
def PH (sh : List Int) (j : Int) : Int := (j - j % (sh.length : Int)) / (sh.length : Int) * sumTo sh sh.length + sumTo sh (j % (sh.length : Int)).toNat
theorem phaseZ_PH (p : PrT) (j : Int) : phaseZ p j = PH p.sh j % (p.ros.length : Int) := rfl
theorem PH_at {sh : List Int} {r : Nat} (hr : r < sh.length) (m : Int) : PH sh ((r : Int) + m * (sh.length : Int)) = m * sumTo sh sh.length + sumTo sh r := by
  unfold PH
  have e : ((r : Int) + m * (sh.length : Int)) % (sh.length : Int) = (r : Int) := by
    rw [Int.add_mul_emod_self_right, Int.emod_eq_of_lt (by omega) (by omega)]
  rw [e, Int.toNat_natCast, show (r : Int) + m * (sh.length : Int) - r = m * (sh.length : Int) by omega, Int.mul_ediv_cancel _ (by omega)]
theorem PH_zero {sh : List Int} (h : 1 ≤ sh.length) : PH sh 0 = 0 := by
  have := PH_at (sh := sh) (r := 0) (by omega) 0
  simpa [sumTo] using this
/-- Each whole number is a place in a round. -/
theorem round_at (j : Int) {s : Nat} (hs : 1 ≤ s) : ∃ (r : Nat) (m : Int), r < s ∧ j = (r : Int) + m * (s : Int) := by
  have h1 := Int.emod_nonneg j (show (s : Int) ≠ 0 by omega)
  have h2 := Int.emod_lt_of_pos j (show (0 : Int) < s by omega)
  have h3 := Int.emod_add_mul_ediv j (s : Int)
  refine ⟨(j % (s : Int)).toNat, j / (s : Int), by omega, ?_⟩
  rw [Int.mul_comm] at h3
  omega
theorem PH_succ {sh : List Int} (hs : 1 ≤ sh.length) (j : Int) : PH sh (j + 1) = PH sh j + sh[(j % (sh.length : Int)).toNat]?.getD 0 := by
  obtain ⟨r, m, hr, rfl⟩ := round_at j hs
  have e : ((r : Int) + m * (sh.length : Int)) % (sh.length : Int) = (r : Int) := by
    rw [Int.add_mul_emod_self_right, Int.emod_eq_of_lt (by omega) (by omega)]
  rw [e, Int.toNat_natCast, PH_at hr]
  by_cases h1 : r + 1 < sh.length
  · rw [show (r : Int) + m * (sh.length : Int) + 1 = ((r + 1 : Nat) : Int) + m * (sh.length : Int) by omega, PH_at h1, sumTo_succ hr]
    omega
  · have h2 : r + 1 = sh.length := by omega
    rw [show (r : Int) + m * (sh.length : Int) + 1 = ((0 : Nat) : Int) + (m + 1) * (sh.length : Int) by rw [Int.add_mul, Int.one_mul]; omega, PH_at (by omega)]
    have h3 := sumTo_succ hr
    rw [h2] at h3
    rw [h3, sumTo_zero, Int.add_mul]
    omega
theorem cycV_at (sh : List Int) (P j : Int) : cycV sh P j = (sh[(j % (sh.length : Int)).toNat]?.getD 0) % P := rfl
theorem emod_sub_zero {a b P : Int} : (a - b) % P = 0 ↔ a % P = b % P := Int.emod_eq_emod_iff_emod_sub_eq_zero.symm
/-- Words that agree make phases that agree. -/
theorem PH_of_words {xs ys : List Int} {P : Int} (hx : 1 ≤ xs.length) (hy : 1 ≤ ys.length) (h : ∀ j, cycV xs P j = cycV ys P j) (j : Int) : (PH xs j - PH ys j) % P = 0 := by
  have step : ∀ j, (PH xs (j + 1) - PH ys (j + 1)) % P = (PH xs j - PH ys j) % P := fun j => by
    have h1 := h j
    rw [cycV_at, cycV_at] at h1
    rw [PH_succ hx, PH_succ hy]
    generalize xs[(j % (xs.length : Int)).toNat]?.getD 0 = a at *
    generalize ys[(j % (ys.length : Int)).toNat]?.getD 0 = b at *
    have h2 := emod_sub_zero.2 h1
    rw [show PH xs j + a - (PH ys j + b) = (PH xs j - PH ys j) + (a - b) by omega, Int.add_emod, h2, Int.add_zero, Int.emod_emod]
  have up : ∀ k : Nat, (PH xs (k : Int) - PH ys (k : Int)) % P = 0 := fun k => by
    induction k with
    | zero => simp [PH_zero hx, PH_zero hy]
    | succ k ih => rw [Int.natCast_succ, step]; exact ih
  have dn : ∀ k : Nat, (PH xs (-(k : Int)) - PH ys (-(k : Int))) % P = 0 := fun k => by
    induction k with
    | zero => simp [PH_zero hx, PH_zero hy]
    | succ k ih =>
      have := step (-((k + 1 : Nat) : Int))
      rw [show -((k + 1 : Nat) : Int) + 1 = -(k : Int) by omega] at this
      rw [← this]
      exact ih
  rcases Int.lt_or_le j 0 with hj | hj
  · have := dn (-j).toNat
    rwa [show -((-j).toNat : Int) = j by omega] at this
  · have := up j.toNat
    rwa [show (j.toNat : Int) = j by omega] at this
theorem words_of_PH {xs ys : List Int} {P j : Int} (hx : 1 ≤ xs.length) (hy : 1 ≤ ys.length) (h0 : (PH xs j - PH ys j) % P = 0) (h1 : (PH xs (j + 1) - PH ys (j + 1)) % P = 0) : cycV xs P j = cycV ys P j := by
  rw [PH_succ hx, PH_succ hy] at h1
  rw [cycV_at, cycV_at]
  generalize xs[(j % (xs.length : Int)).toNat]?.getD 0 = a at *
  generalize ys[(j % (ys.length : Int)).toNat]?.getD 0 = b at *
  refine emod_sub_zero.1 ?_
  have e : a - b = (PH xs j + a - (PH ys j + b)) - (PH xs j - PH ys j) := by omega
  rw [e, Int.sub_emod, h1, h0]
  simp

section
variable {p : PrT} {C t : Nat}
theorem shape_at {c ph : Nat} (hc : c < C) (hp : ph < p.ros.length) : ((shapeB p C)[c]?.getD [])[ph]?.getD false = decide (mvL (liftL p.ros p.rub) ph = mvL (liftL p.ros p.rub) (phaseZ p c)) := by
  simp [shapeB, hc, hp]
theorem shape_len : (shapeB p C).length = C := by simp [shapeB]
theorem mod_mod_of {a n t : Int} (h : t ∣ n) : a % n % t = a % t := Int.emod_emod_of_dvd a h
/-- Whether the cuts r, r + st, .. have phases that fit. -/
theorem free_shape (hg : Good p) (ht : LeastT (liftL p.ros p.rub) t) {st sum r ph : Nat} (hs : 1 ≤ st) : freeB (shapeB p C) p.ros.length st sum r ph = true ↔ ∀ m : Nat, r + m * st < C → ((ph : Int) + (m : Int) * (sum : Int) - PH p.sh ((r : Int) + (m : Int) * (st : Int))) % (t : Int) = 0 := by
  have hn := hg.nums.n1
  have hll := liftL_len p.ros p.rub
  have hd : (t : Int) ∣ (p.ros.length : Int) := by
    have := ht.dvd
    rw [hll] at this
    exact Int.ofNat_dvd.2 (Nat.dvd_of_mod_eq_zero this)
  rw [freeB_iff hs, shape_len]
  refine forall_congr' fun m => imp_congr_right fun hm => ?_
  have hp : (ph + m * sum) % p.ros.length < p.ros.length := Nat.mod_lt _ (by omega)
  rw [shape_at hm hp, decide_eq_true_iff, ht.eq_iff (by omega), phaseZ_PH, emod_sub_zero, emod_sub_zero]
  have e1 : ((((ph + m * sum) % p.ros.length : Nat) : Int)) % (t : Int) = ((ph : Int) + (m : Int) * (sum : Int)) % (t : Int) := by
    rw [Int.natCast_emod, mod_mod_of hd]
    simp
  have e2 : PH p.sh ((r + m * st : Nat) : Int) = PH p.sh ((r : Int) + (m : Int) * (st : Int)) := by simp
  rw [e1, mod_mod_of hd, e2]
end

theorem sumTo_app {l : List Int} {z : Int} {r : Nat} (h : r ≤ l.length) : sumTo (l ++ [z]) r = sumTo l r := by
  unfold sumTo
  rw [List.take_append_of_le_length h]
theorem sumTo_last {l : List Int} {z : Int} : sumTo (l ++ [z]) (l.length + 1) = sumTo l l.length + z := by
  rw [sumTo_succ (by simp), sumTo_app (Nat.le_refl _)]
  simp

section
variable {fits : List (List Bool)} {n st sum first : Nat}
/-- What holds of the shifts while they are chosen. -/
structure ShfIs (fits : List (List Bool)) (n st sum first k : Nat) (l : List Int) (ph : Nat) : Prop where
  len : l.length = k
  rng : ∀ x ∈ l, 0 ≤ x ∧ x ≤ (n : Int) - 1
  lt : ph < n
  eq : ((ph : Int) - ((first : Int) + sumTo l k)) % (n : Int) = 0
  free : ∀ r, 1 ≤ r → r ≤ k → ∃ q : Nat, ((q : Int) - ((first : Int) + sumTo l r)) % (n : Int) = 0 ∧ freeB fits n st sum r q = true
theorem shf_is (hf : first < n) : ∀ {k : Nat} {l : List Int} {ph : Nat}, shfTo fits n st sum first k = some (l, ph) → ShfIs fits n st sum first k l ph
  | 0, l, ph, h => by
    simp only [shfTo, Option.some.injEq, Prod.mk.injEq] at h
    obtain ⟨rfl, rfl⟩ := h
    exact ⟨rfl, by simp, hf, by simp [sumTo], fun r h1 h2 => by omega⟩
  | k + 1, l, ph, h => by
    unfold shfTo at h
    split at h
    · cases h
    · rename_i l' ph' e
      have ih := shf_is hf e
      split at h
      · cases h
      · rename_i s hs
        simp only [Option.some.injEq, Prod.mk.injEq] at h
        obtain ⟨rfl, rfl⟩ := h
        obtain ⟨hs1, hs2⟩ := nextS_some hs
        have hl := ih.len
        have e2 : sumTo (l' ++ [(s : Int)]) (k + 1) = sumTo l' k + s := by
          have := sumTo_last (l := l') (z := (s : Int))
          rwa [hl] at this
        have e3 : ((((ph' + s) % n : Nat) : Int) - ((first : Int) + sumTo (l' ++ [(s : Int)]) (k + 1))) % (n : Int) = 0 := by
          have h1 := ih.eq
          rw [emod_sub_zero] at h1 ⊢
          rw [e2, Int.natCast_emod, Int.emod_emod, ← Int.add_assoc, Int.natCast_add, Int.add_emod, h1, ← Int.add_emod]
        refine ⟨by simp [hl], fun x hx => ?_, Nat.mod_lt _ (by omega), e3, fun r h1 h2 => ?_⟩
        · rcases List.mem_append.1 hx with hx | hx
          · exact ih.rng x hx
          · simp only [List.mem_singleton] at hx
            omega
        · by_cases hr : r ≤ k
          · obtain ⟨q, hq1, hq2⟩ := ih.free r h1 hr
            exact ⟨q, by rw [sumTo_app (by omega)]; exact hq1, hq2⟩
          · obtain rfl : r = k + 1 := by omega
            exact ⟨_, e3, hs2⟩
/-- Shifts that are found. -/
theorem shifts_is (hf : first < n) (hst : 1 ≤ st) (_ : sum < n) {l : List Int} (h : shiftsO fits n st sum first = some l) : l.length = st ∧ (∀ x ∈ l, 0 ≤ x ∧ x ≤ (n : Int) - 1) ∧ (sumTo l st - (sum : Int)) % (n : Int) = 0 ∧
    ∀ r, r < st → ∃ q : Nat, ((q : Int) - ((first : Int) + sumTo l r)) % (n : Int) = 0 ∧ freeB fits n st sum r q = true := by
  unfold shiftsO at h
  split at h
  · cases h
  · rename_i l' ph e
    have ih := shf_is hf e
    have hl := ih.len
    have hlt := ih.lt
    split at h
    · rename_i hfr
      simp only [Option.some.injEq] at h
      have hst' : st = st - 1 + 1 := by omega
      have e2 : sumTo l st = sumTo l' (st - 1) + (((first + sum + n - ph) % n : Nat) : Int) := by
        rw [← h]
        have := sumTo_last (l := l') (z := (((first + sum + n - ph) % n : Nat) : Int))
        rw [hl, ← hst'] at this
        exact this
      refine ⟨by rw [← h]; simp [hl]; omega, fun x hx => ?_, ?_, fun r hr => ?_⟩
      · rw [← h] at hx
        rcases List.mem_append.1 hx with hx | hx
        · exact ih.rng x hx
        · simp only [List.mem_singleton] at hx
          have := Nat.mod_lt (first + sum + n - ph) (show 0 < n by omega)
          omega
      · have h1 := ih.eq
        rw [e2, Int.natCast_emod]
        rw [show ((first + sum + n - ph : Nat) : Int) = (first : Int) + sum + n - ph by omega]
        have e3 : (sumTo l' (st - 1) + ((first : Int) + sum + n - ph) % (n : Int) - (sum : Int)) % (n : Int) = (sumTo l' (st - 1) + ((first : Int) + sum + n - ph) - (sum : Int)) % (n : Int) := by
          rw [show sumTo l' (st - 1) + ((first : Int) + sum + n - ph) % (n : Int) - (sum : Int) = (sumTo l' (st - 1) - sum) + ((first : Int) + sum + n - ph) % (n : Int) by omega, Int.add_emod_emod]
          congr 1
          omega
        rw [e3, show sumTo l' (st - 1) + ((first : Int) + sum + n - ph) - (sum : Int) = -((ph : Int) - ((first : Int) + sumTo l' (st - 1))) + n by omega, Int.add_emod_right]
        exact Int.emod_eq_zero_of_dvd (Int.dvd_neg.2 (Int.dvd_of_emod_eq_zero h1))
      · rcases Nat.eq_zero_or_pos r with rfl | hr0
        · exact ⟨first, by simp [sumTo], hfr⟩
        · obtain ⟨q, hq1, hq2⟩ := ih.free r hr0 (by omega)
          refine ⟨q, ?_, hq2⟩
          rw [← h, sumTo_app (by omega)]
          exact hq1
    · cases h
theorem best_some : ∀ {k : Nat} {l : List Int}, bestTo fits n st first k = some l → ∃ sum, sum < k ∧ shiftsO fits n st sum first = some l
  | 0, l, h => by cases h
  | k + 1, l, h => by
    unfold bestTo at h
    cases h1 : shiftsO fits n st k first with
    | none =>
      rw [h1] at h
      obtain ⟨s, hs, e⟩ := best_some (k := k) h
      exact ⟨s, by omega, e⟩
    | some a =>
      cases h2 : bestTo fits n st first k with
      | none => rw [h1, h2] at h; simp only [pickO, Option.some.injEq] at h; exact ⟨k, by omega, by rw [h1, h]⟩
      | some b =>
        obtain ⟨s, hs, e⟩ := best_some (k := k) h2
        rw [h1, h2] at h
        simp only [pickO] at h
        split at h
        · simp only [Option.some.injEq] at h; exact ⟨k, by omega, by rw [h1, h]⟩
        · simp only [Option.some.injEq] at h; exact ⟨s, by omega, by rw [e, h]⟩
theorem best_ne {s : Nat} (h : shiftsO fits n st s first ≠ none) : ∀ {k : Nat}, s < k → bestTo fits n st first k ≠ none
  | 0, hs => by omega
  | k + 1, hs => by
    unfold bestTo
    by_cases e : s = k
    · subst e
      cases h1 : shiftsO fits n st s first with
      | none => exact absurd h1 h
      | some a =>
        cases bestTo fits n st first s with
        | none => simp [pickO]
        | some b => simp only [pickO]; split <;> simp
    · have ih := best_ne h (k := k) (by omega)
      cases shiftsO fits n st k first with
      | none => simpa [pickO] using ih
      | some a =>
        cases bestTo fits n st first k with
        | none => simp [pickO]
        | some b => simp only [pickO]; split <;> simp
end

section
variable {p : PrT} {t : Nat}
/-- The program's own shifts fit, so there are some. -/
theorem own_fit (hg : Good p) (ht : LeastT (liftL p.ros p.rub) t) : ∃ sum, sum < p.ros.length ∧ shiftsO (shapeB p 12) p.ros.length p.sh.length sum 0 ≠ none := by
  have hN := hg.nums
  have hn := hN.n1
  have hc := hN.c1
  have hll := liftL_len p.ros p.rub
  have hd : (t : Int) ∣ (p.ros.length : Int) := by
    have := ht.dvd
    rw [hll] at this
    exact Int.ofNat_dvd.2 (Nat.dvd_of_mod_eq_zero this)
  obtain ⟨sum, hs1, hs2⟩ := emod_nat (sumTo p.sh p.sh.length) (n := p.ros.length) (by omega)
  have hsum : ((sum : Int) - sumTo p.sh p.sh.length) % (t : Int) = 0 := by
    rw [emod_sub_zero, ← hs1, mod_mod_of hd]
  have hmul : ∀ m : Int, (m * (sum : Int) - m * sumTo p.sh p.sh.length) % (t : Int) = 0 := fun m => by
    rw [← Int.mul_sub, Int.mul_emod, hsum]
    simp
  refine ⟨sum, hs2, ?_⟩
  have key : ∀ k, k + 1 ≤ p.sh.length → ∃ l ph, shfTo (shapeB p 12) p.ros.length p.sh.length sum 0 k = some (l, ph) ∧ ((ph : Int) - sumTo p.sh k) % (t : Int) = 0 := fun k => by
    induction k with
    | zero => intro _; exact ⟨[], 0, rfl, by simp [sumTo]⟩
    | succ k ih =>
      intro hk
      obtain ⟨l, ph, h1, h2⟩ := ih (by omega)
      obtain ⟨a1, a2⟩ := hN.sh k
      obtain ⟨a, ha⟩ : ∃ a : Nat, p.sh[k]?.getD 0 = (a : Int) := ⟨(p.sh[k]?.getD 0).toNat, by omega⟩
      have hfr : freeB (shapeB p 12) p.ros.length p.sh.length sum (k + 1) ((ph + a) % p.ros.length) = true := by
        rw [free_shape hg ht (by omega)]
        intro m _
        rw [PH_at (by omega), sumTo_succ (by omega), ha]
        have e : ((((ph + a) % p.ros.length : Nat) : Int) + (m : Int) * sum - ((m : Int) * sumTo p.sh p.sh.length + (sumTo p.sh k + a))) % (t : Int) = ((((ph : Int) - sumTo p.sh k) + ((m : Int) * sum - (m : Int) * sumTo p.sh p.sh.length))) % (t : Int) := by
          rw [Int.natCast_emod, show ((ph + a : Nat) : Int) % (p.ros.length : Int) + (m : Int) * sum - ((m : Int) * sumTo p.sh p.sh.length + (sumTo p.sh k + a)) = ((m : Int) * sum - ((m : Int) * sumTo p.sh p.sh.length + (sumTo p.sh k + a))) + ((ph + a : Nat) : Int) % (p.ros.length : Int) by omega, Int.add_emod, mod_mod_of hd, ← Int.add_emod]
          congr 1
          omega
        rw [e, Int.add_emod, h2, hmul]
        simp
      have hne : nextS (shapeB p 12) p.ros.length p.sh.length sum (k + 1) ph ≠ none := by
        unfold nextS
        intro e
        rw [List.find?_eq_none] at e
        exact e a (List.mem_range.2 (by omega)) hfr
      cases hx : nextS (shapeB p 12) p.ros.length p.sh.length sum (k + 1) ph with
      | none => exact absurd hx hne
      | some s =>
        obtain ⟨q1, q2⟩ := nextS_some hx
        refine ⟨_, _, shfTo_next h1 hx, ?_⟩
        have h3 := (free_shape hg ht (by omega)).1 q2 0 (by have := hN.c2; omega)
        have e0 := PH_at (sh := p.sh) (r := k + 1) (by omega) 0
        simp only [Int.zero_mul, Int.add_zero, Int.zero_add] at e0
        simp only [Int.natCast_zero, Int.zero_mul, Int.add_zero] at h3
        rw [e0] at h3
        exact h3
  obtain ⟨l, ph, h1, _⟩ := key (p.sh.length - 1) (by omega)
  unfold shiftsO
  rw [h1]
  have hfr : freeB (shapeB p 12) p.ros.length p.sh.length sum 0 0 = true := by
    rw [free_shape hg ht (by omega)]
    intro m _
    rw [PH_at (by omega)]
    have := hmul m
    simp only [sumTo_zero, Int.add_zero]
    simpa using this
  simp only [hfr, if_true]
  simp
/-- What Simplest finds. -/
theorem sim_exists (hg : Good p) (ht : LeastT (liftL p.ros p.rub) t) : ∃ st first best, SimIs (shapeB p 12) p.ros.length st first best ∧ st ≤ p.sh.length := by
  obtain ⟨sum, h1, h2⟩ := own_fit hg ht
  have hN := hg.nums
  have hn := hN.n1
  have hc := hN.c1
  have hb := best_ne h2 h1
  rcases search_least (P := fun st : Nat => ∃ f, f < p.ros.length ∧ bestTo (shapeB p 12) p.ros.length st f p.ros.length ≠ none) (fun _ => Classical.em _) p.sh.length with ⟨st, s1, s2, ⟨f, hf, hbf⟩, s4⟩ | hno
  · rcases search_least (P := fun g : Nat => bestTo (shapeB p 12) p.ros.length st (g - 1) p.ros.length ≠ none) (fun _ => Classical.em _) (f + 1) with ⟨g, g1, g2, g3, g4⟩ | hno
    · cases hx : bestTo (shapeB p 12) p.ros.length st (g - 1) p.ros.length with
      | none => exact absurd hx g3
      | some best =>
        refine ⟨st, g - 1, best, ⟨s1, by have := hN.c2; omega, by omega, hx, fun f' hf' => ?_, fun s q1 q2 f' hf' => ?_⟩, s2⟩
        · have := g4 (f' + 1) (by omega) (by omega)
          simpa using this
        · have := s4 s q1 q2
          exact Classical.byContradiction fun e => this ⟨f', hf', e⟩
    · exact absurd (by simpa using hbf) (hno (f + 1) (by omega) (Nat.le_refl _))
  · exact absurd ⟨0, by omega, hb⟩ (hno p.sh.length hc (Nat.le_refl _))
/-- What is found makes the same phases, modulo the lift's period, at the first twelve cuts. -/
theorem sim_twelve (hg : Good p) (ht : LeastT (liftL p.ros p.rub) t) {st first : Nat} {best : List Int} (h : SimIs (shapeB p 12) p.ros.length st first best) :
    best.length = st ∧ (∀ x ∈ best, 0 ≤ x ∧ x ≤ (p.ros.length : Int) - 1) ∧ (first : Int) % (t : Int) = 0 ∧ ∀ c : Nat, c ≤ 11 → (PH best c - PH p.sh c) % (t : Int) = 0 := by
  have hN := hg.nums
  have hn := hN.n1
  have hll := liftL_len p.ros p.rub
  have hd : (t : Int) ∣ (p.ros.length : Int) := by
    have := ht.dvd
    rw [hll] at this
    exact Int.ofNat_dvd.2 (Nat.dvd_of_mod_eq_zero this)
  have dvd0 : ∀ {a : Int}, a % (p.ros.length : Int) = 0 → a % (t : Int) = 0 := fun {a} ha => by
    rw [← mod_mod_of hd, ha]; simp
  obtain ⟨sum, hs, hsh⟩ := best_some h.is
  obtain ⟨hl, hr, hsu, hfr⟩ := shifts_is h.fi h.s1 hs hsh
  have all : ∀ c : Nat, c ≤ 11 → ((first : Int) + PH best c - PH p.sh c) % (t : Int) = 0 := fun c hc => by
    have hs1 := h.s1
    obtain ⟨r, m, hrs, hcm⟩ : ∃ r m : Nat, r < st ∧ c = r + m * st := ⟨c % st, c / st, Nat.mod_lt _ (by omega), by have := Nat.mod_add_div c st; rw [Nat.mul_comm] at this; omega⟩
    obtain ⟨q, hq1, hq2⟩ := hfr r hrs
    have h3 := (free_shape hg ht (by omega)).1 hq2 m (by omega)
    have e1 : PH best (c : Int) = (m : Int) * sumTo best st + sumTo best r := by
      have := PH_at (sh := best) (r := r) (by omega) m
      rw [hl] at this
      rw [hcm]
      simpa using this
    have e2 : ((r : Int) + (m : Int) * (st : Int)) = (c : Int) := by rw [hcm]; simp
    rw [e2] at h3
    have h4 := dvd0 hq1
    have h5 : ((m : Int) * (sumTo best st - sum)) % (t : Int) = 0 := by
      rw [Int.mul_emod, dvd0 hsu]; simp
    have e3 : (first : Int) + PH best c - PH p.sh c = ((q : Int) + (m : Int) * sum - PH p.sh c) - ((q : Int) - ((first : Int) + sumTo best r)) + (m : Int) * (sumTo best st - sum) := by
      rw [e1, Int.mul_sub]; omega
    rw [e3, Int.add_emod, Int.sub_emod, h3, h4, h5]
    simp
  have h0 := all 0 (by omega)
  have hf0 : (first : Int) % (t : Int) = 0 := by
    rw [show ((0 : Nat) : Int) = 0 from rfl, PH_zero (by have := h.s1; omega), PH_zero (by have := hN.c1; omega)] at h0
    simpa using h0
  refine ⟨hl, hr, hf0, fun c hc => ?_⟩
  have := all c hc
  rw [show PH best c - PH p.sh c = ((first : Int) + PH best c - PH p.sh c) - first by omega, Int.sub_emod, this, hf0]
  simp
/-- And so at every cut, where there are up to 6 shifts. -/
theorem sim_all (hg : Good p) (ht : LeastT (liftL p.ros p.rub) t) (h6 : p.sh.length ≤ 6) {st first : Nat} {best : List Int} (h : SimIs (shapeB p 12) p.ros.length st first best) (hst : st ≤ p.sh.length) :
    (∀ j, cycV best t j = cycV p.sh t j) ∧ ∀ j, (PH best j - PH p.sh j) % (t : Int) = 0 := by
  obtain ⟨hl, _, _, h12⟩ := sim_twelve hg ht h
  have hc := hg.nums.c1
  have hs1 := h.s1
  have hw : ∀ j : Int, cycV best t j = cycV p.sh t j := by
    refine fw_all (s := best.length) (n := p.sh.length) (by omega) hc (by omega) h6 cyc_per cyc_per fun j hj => ?_
    have e := h12 (j + 1) (by omega)
    rw [Int.natCast_succ] at e
    exact words_of_PH (by omega) hc (h12 j (by omega)) e
  exact ⟨hw, PH_of_words (by omega) hc hw⟩
end
end
open Go.RowKit

theorem gcd_any : ∀ (b a : Nat) (w : World), a ≤ 1000 → b ≤ 1000 → Calls Tryz.prog 75 #[.int .i64 (a : Int), .int .i64 (b : Int)] w fun e w' => e = .returned (.int .i64 ((Nat.gcd a b : Nat) : Int)) ∧ Ext w w' := by
  intro b a w ha hb
  obtain ⟨g, hg⟩ : ∃ g, g = Nat.gcd a b := ⟨_, rfl⟩
  rw [← hg]
  have HG := Lib.hid hg
  clear hg
  go_enter Tryz.func75, Tryz.ntmps75
  go_wp2_with fail
  go_loopw [0, 1] (fun av bv W => ∃ x y : Nat, av = .int .i64 (x : Int) ∧ bv = .int .i64 (y : Int) ∧ x ≤ 1000 ∧ y ≤ 1000 ∧ Hid (g = Nat.gcd x y) ∧ Ext w W) (fun _ bv _ => (intOf bv).toNat)
  case atStart => exact ⟨a, b, rfl, rfl, ha, hb, HG, Ext.refl _⟩
  case round =>
    obtain ⟨x, y, rfl, rfl, hx1, hy1, HGX, hx⟩ := hrel
    have HX := Lib.hid hx
    clear hx
    by_cases hy : y = 0
    · subst hy
      have HGG := Lib.hid (show g = x by rw [HGX.out, Nat.gcd_zero_right])
      go_wp2_with fail
      go_ret
      exact ⟨ret_i (by rw [HGG.out]), HX.out⟩
    · have hyi : ((y : Int) != 0) = true := by simp; omega
      have hy0 : ¬ (y : Int) = 0 := by omega
      obtain ⟨z, hz⟩ : ∃ z, z = x % y := ⟨_, rfl⟩
      have e1 : (x : Int).tmod (y : Int) = (z : Int) := by
        rw [Int.tmod_eq_emod_of_nonneg (by omega), hz]
        exact (Int.natCast_emod _ _).symm
      have e2 : (x : Int) % (y : Int) = (z : Int) := by
        rw [hz]
        exact (Int.natCast_emod _ _).symm
      have hzy : z < y := by rw [hz]; exact Nat.mod_lt _ (by omega)
      have HGZ := Lib.hid (show g = Nat.gcd y z by rw [HGX.out, hz, Nat.gcd_comm x y, Nat.gcd_rec, Nat.gcd_comm])
      clear hz
      go_wp2_with fail
      refine (wpIn_wide (n := 3)).1 ?_
      refine wpIn_region_steps [] 5 [(0, true), (1, true), (2, true), (3, true), (4, true)] (by kernel_rfl) (by decide +kernel) ?_
      iterate 5 (refine wpSD_q (by rfl) (fun _ _ _ => trivial) (fun K hK => ?_); go_simp; refine hK _ ?_; clear hK K)
      refine wpSD_nil ?_
      intro W3 x3
      have HX3 := Lib.hid (HX.out.trans x3)
      clear x3
      simp only [List.drop_succ_cons, List.drop_zero]
      gi_wp2
      go_wp2_with fail
      go_roundw
      case rel => exact ⟨y, z, rfl, by first | rfl | (congr 1), hy1, by omega, HGZ, HX3.out⟩
      case measure => simp [intOf]; omega

/-- Whether the shifts are, modulo t, the same again after c of them. -/
def repB (sh : List Int) (t c : Nat) : Bool := (List.range sh.length).all fun i => decide (i < c) || decide ((sh[i]?.getD 0 - sh[i - c]?.getD 0) % (t : Int) = 0)
theorem repB_iff {sh : List Int} {t c : Nat} : repB sh t c = true ↔ RepB sh t c := by
  unfold repB RepB
  rw [List.all_eq_true]
  constructor
  · intro h i hi hl
    have := h i (List.mem_range.2 hl)
    rw [Bool.or_eq_true, decide_eq_true_iff, decide_eq_true_iff] at this
    rcases this with h1 | h1
    · omega
    · exact h1
  · intro h i hi
    rw [Bool.or_eq_true, decide_eq_true_iff, decide_eq_true_iff]
    by_cases hc : i < c
    · exact .inl hc
    · exact .inr (h i (by omega) (List.mem_range.1 hi))
/-- The motif's length. -/
def motB (sh : List Int) (t c : Nat) : Bool := decide (sh.length % c = 0) && repB sh t c
def motN (sh : List Int) (t : Nat) : Nat := ((List.range sh.length).find? fun i => motB sh t (i + 1)).getD 0 + 1
theorem motN_is {sh : List Int} {t : Nat} (h : 1 ≤ sh.length) : 1 ≤ motN sh t ∧ motN sh t ≤ sh.length ∧ motB sh t (motN sh t) = true ∧ ∀ c, 1 ≤ c → c < motN sh t → motB sh t c = false := by
  unfold motN
  have hlast : motB sh t (sh.length - 1 + 1) = true := by
    have e : sh.length - 1 + 1 = sh.length := by omega
    rw [e]
    unfold motB
    rw [Nat.mod_self, decide_eq_true rfl, Bool.true_and, repB_iff]
    intro i h1 h2
    omega
  cases hf : (List.range sh.length).find? fun i => motB sh t (i + 1) with
  | none =>
    rw [List.find?_eq_none] at hf
    exact absurd hlast (hf (sh.length - 1) (List.mem_range.2 (by omega)))
  | some i =>
    have h1 := List.find?_some (p := fun i => motB sh t (i + 1)) hf
    have h2 := List.mem_range.1 (List.mem_of_find?_eq_some hf)
    rw [List.find?_eq_some_iff_getElem] at hf
    obtain ⟨_, k, hk, hk2, hk3⟩ := hf
    simp only [List.getElem_range] at hk2
    subst hk2
    refine ⟨by simp, by simp; omega, h1, fun c hc hlt => ?_⟩
    simp only [Option.getD_some] at hlt
    have := hk3 (c - 1) (by omega)
    simp only [List.getElem_range, Bool.not_eq_true', show c - 1 + 1 = c by omega] at this
    exact this
theorem motN_least {sh : List Int} {t : Nat} (h : 1 ≤ sh.length) : LeastIs (cycV sh t) sh.length (motN sh t) := by
  obtain ⟨h1, h2, h3, h4⟩ := motN_is (t := t) h
  unfold motB at h3
  rw [Bool.and_eq_true, decide_eq_true_iff, repB_iff] at h3
  have hd := Nat.dvd_of_mod_eq_zero h3.1
  refine ⟨h1, (rep_per h1 hd h).1 h3.2, hd, fun d d1 d2 d3 => Nat.le_of_not_lt fun hlt => ?_⟩
  have := h4 d d1 hlt
  unfold motB at this
  rw [decide_eq_true (Nat.mod_eq_zero_of_dvd d2), Bool.true_and] at this
  rw [repB_iff.2 ((rep_per d1 d2 h).2 d3)] at this
  cases this
/-- The motif's turn, and after how many cuts the pattern closes. -/
def turnN (p : PrT) (t : Nat) : Nat := (phaseZ p (motN p.sh t)).toNat % t
def closN (p : PrT) (t : Nat) : Nat := motN p.sh t * (t / Nat.gcd t (turnN p t))
theorem LeastT.perV {p : PrT} {t : Nat} (hg : Good p) (ht : LeastT (liftL p.ros p.rub) t) : periodV (liftL p.ros p.rub) = (t : Int) := by
  unfold periodV
  have hc : checkB (liftL p.ros p.rub) = true := lift_check hg.fine
  rw [if_pos hc]
  exact ht.period (by rw [liftL_len]; have := hg.nums.n1; omega)

set_option maxRecDepth 100000 in
set_option maxHeartbeats 8000000 in
theorem repeats_any (b : Nat) (p : PrT) (v : PrV) (lv : Value) (t c : Nat) (w : World) (h : BenchAt b w p v lv) (hg : Good p) (ht : LeastT (liftL p.ros p.rub) t) (hc : 1 ≤ c ∧ c ≤ 12) :
    Calls Tryz.prog 86 #[.pointer (some ⟨b, 0, none⟩), .int .i64 (c : Int)] w fun e w' => e = .returned (.bool (repB p.sh t c)) ∧ Ext w w' := by
  have HB := Lib.hid h.box
  have hpv := ht.perV hg
  have HSH := Lib.hid h.pr.sh
  have HNS := Lib.hid hg.nums.sh
  have hn2 := hg.nums.n2
  have hc2 := hg.nums.c2
  obtain ⟨rv, bv, sv⟩ := v
  obtain ⟨A, m, ca, hsv, -, hr, -⟩ := h.pr.sh.open_
  simp only at hsv
  subst hsv
  have hlm := hr.len
  have HR := Lib.hid hr
  rw [hpv] at HB
  have ht1 := ht.pos
  have ht2 : t ≤ 96 := by
    have := ht.le (by rw [liftL_len]; have := hg.nums.n1; omega)
    rw [liftL_len] at this
    omega
  obtain ⟨c1, c2⟩ := hc
  obtain ⟨res, hres⟩ : ∃ z, z = repB p.sh t c := ⟨_, rfl⟩
  have HRES := Lib.hid (show res = true ↔ RepB p.sh t c by rw [hres, repB_iff])
  rw [← hres]
  have HLM := Lib.hid hlm
  rw [hlm] at hc2
  clear h hg ht hpv hr hres hlm HSH
  go_enter Tryz.func86, Tryz.ntmps86
  go_wp2_with fail
  go_loopw [5] (fun iv W => ∃ i : Nat, c ≤ i ∧ i ≤ max c m ∧ iv = .int .i64 (i : Int) ∧ Hid (∀ q, c ≤ q → q < i → (p.sh[q]?.getD 0 - p.sh[q - c]?.getD 0) % (t : Int) = 0) ∧ Ext w W) (fun iv _ => 24 - (intOf iv).toNat)
  case atStart => exact ⟨c, Nat.le_refl _, by omega, rfl, Lib.hid (fun q h1 h2 => by omega), Ext.refl _⟩
  case round =>
    obtain ⟨i, hi1, hi2, rfl, HAL, hx⟩ := hrel
    have HX := Lib.hid hx
    have k8 : wr.cell? ⟨b, 8, none⟩ = some (.int .i64 (m : Int)) := by rw [← HLM.out]; exact (HB.out.ext hx).cell (i := 8) rfl
    have k9 := (HB.out.ext hx).cell (i := 9) rfl
    have k5 := (HB.out.ext hx).cell (i := 5) rfl
    have lk := cell_lt k8
    by_cases hlt : i < m
    · have hii : (i : Int) < (m : Int) := by omega
      obtain ⟨b1, o1, rfl, _, m0⟩ := HR.out.at_ i hlt
      obtain ⟨b2, o2, e2, _, m1⟩ := HR.out.at_ (i - c) (by omega)
      simp only [Option.some.injEq, Addr.mk.injEq, and_true] at e2
      obtain ⟨rfl, rfl⟩ := e2
      replace m0 := hx.cell_some m0
      replace m1 := hx.cell_some m1
      have lm := cell_lt m0
      obtain ⟨x1, x2⟩ := HNS.out i
      obtain ⟨y1, y2⟩ := HNS.out (i - c)
      have HST := Lib.hid (show ∀ q, c ≤ q → q < i + 1 → (q < i ∨ q = i) from fun q _ h => by omega)
      obtain ⟨x, hxx⟩ : ∃ x, x = p.sh[i]?.getD 0 := ⟨_, rfl⟩
      obtain ⟨y, hyy⟩ : ∃ y, y = p.sh[i - c]?.getD 0 := ⟨_, rfl⟩
      rw [← hxx] at m0 x1 x2
      rw [← hyy] at m1 y1 y2
      have HXY := Lib.hid (And.intro hxx hyy)
      obtain ⟨d, hd⟩ : ∃ d, i = d + c := ⟨i - c, by omega⟩
      have hd' : i - c = d := by omega
      rw [hd'] at m1
      have wd : IntKind.i64.wrap ((i : Int) - (c : Int)) = (d : Int) := by rw [hd]; rw [show (((d + c : Nat) : Int) - (c : Int)) = (d : Int) by omega]; exact IntWalk.i64_in _ (by omega)
      have wx : IntKind.i64.wrap (x - y) = x - y := IntWalk.i64_in _ (by omega)
      have htz : ¬ t = 0 := by omega
      have hdm : (d : Int) < (m : Int) := by omega
      obtain ⟨z, hz⟩ : ∃ z, (x - y).tmod (t : Int) = z := ⟨_, rfl⟩
      have HZ := Lib.hid (show z = 0 ↔ (x - y) % (t : Int) = 0 by rw [← hz]; exact ⟨fun h => Int.emod_eq_zero_of_dvd (Int.dvd_of_tmod_eq_zero h), fun h => Int.tmod_eq_zero_of_dvd (Int.dvd_of_emod_eq_zero h)⟩)
      have y8 := But.cells (D := []) k9 (by simp)
      have y5 := But.cells (D := []) k5 (by simp)
      have y0 := But.cells (D := []) m0 (by simp)
      have y1' := But.cells (D := []) m1 (by simp)
      have HD := Lib.hid (And.intro hd hd')
      clear hx hxx hyy hd hd' k9 k5 m0 m1
      go_wp2_with fail
      refine (wpIn_wide (n := 3)).1 ?_
      refine wpIn_region_steps [] 24 [(0, true), (1, true), (2, true), (3, true), (4, true), (5, true), (6, true), (7, true), (8, true), (9, true), (10, true), (11, true), (12, true), (13, true), (14, true), (15, true), (16, true), (17, true), (18, true), (19, true), (20, true), (21, true), (22, true), (23, true)] (by kernel_rfl) (by decide +kernel) ?_
      iterate 24 (refine wpSD_q (by rfl) (fun _ _ _ => trivial) (fun K hK => ?_); go_simp; refine hK _ ?_; clear hK K)
      refine wpSD_nil ?_
      intro W3 x3
      have HX3 := Lib.hid (HX.out.trans x3)
      clear x3 y8 y5 y0 y1'
      simp only [List.drop_succ_cons, List.drop_zero]
      by_cases hz0 : z = 0
      · subst hz0
        have HAN := Lib.hid (show ∀ q, c ≤ q → q < i + 1 → (p.sh[q]?.getD 0 - p.sh[q - c]?.getD 0) % (t : Int) = 0 from fun q h1 h2 => by
          rcases HST.out q h1 h2 with h3 | rfl
          · exact HAL.out q h1 h3
          · rw [← HXY.out.1, ← HXY.out.2]; exact HZ.out.1 rfl)
        gi_wp2
        go_wp2_with fail
        go_roundw
        case rel => exact ⟨i + 1, by omega, by omega, by go_num, HAN, HX3.out⟩
        case measure => simp [intOf]; omega
      · have hz1 : (z != 0) = true := by simpa using hz0
        have HRF := Lib.hid (show res = false by
          cases hr : res
          · rfl
          · have := HRES.out.1 hr i hi1 (by rw [HLM.out]; exact hlt)
            rw [← HXY.out.1, ← HXY.out.2] at this
            exact absurd (HZ.out.2 this) hz0)
        gi_wp2
        go_wp2_with fail
        go_ret
        exact ⟨ret_b HRF.out.symm, HX3.out⟩
    · have HRT := Lib.hid (show res = true from HRES.out.2 (fun q h1 h2 => HAL.out q h1 (by have := HLM.out; omega)))
      clear hx k9 k5
      go_wp2_with fail
      go_ret
      exact ⟨ret_b HRT.out.symm, HX.out⟩

set_option maxRecDepth 100000 in
set_option maxHeartbeats 8000000 in
theorem motif_any (b : Nat) (p : PrT) (v : PrV) (lv : Value) (t : Nat) (w : World) (h : BenchAt b w p v lv) (hg : Good p) (ht : LeastT (liftL p.ros p.rub) t) :
    Calls Tryz.prog 74 #[.pointer (some ⟨b, 0, none⟩)] w fun e w' => e = .returned (.tuple #[.int .i64 ((motN p.sh t : Nat) : Int), .int .i64 ((turnN p t : Nat) : Int)]) ∧ Ext w w' := by
  have HRP := Lib.hid fun (c : Nat) (W : World) (x : Ext w W) (h1 : 1 ≤ c ∧ c ≤ 12) => repeats_any b p v lv t c W (h.ext x) hg ht h1
  have hc1 := hg.nums.c1
  have hc2 := hg.nums.c2
  obtain ⟨m1, m2, m3, m4⟩ := motN_is (t := t) hc1
  have HPH := Lib.hid fun (W : World) (x : Ext w W) => phase_any b p v lv ((motN p.sh t : Nat) : Int) W (h.ext x) hg.nums (by omega)
  obtain ⟨z1, z2⟩ := phaseZ_bd hg.nums ((motN p.sh t : Nat) : Int)
  obtain ⟨z, hz⟩ : ∃ z : Nat, phaseZ p ((motN p.sh t : Nat) : Int) = (z : Int) := ⟨(phaseZ p ((motN p.sh t : Nat) : Int)).toNat, by omega⟩
  rw [hz] at HPH
  have HTN := Lib.hid (show turnN p t = z % t by unfold turnN; rw [hz, Int.toNat_natCast])
  have HB := Lib.hid h.box
  rw [ht.perV hg] at HB
  have hn2 := hg.nums.n2
  have ht1 := ht.pos
  have hz96 : z ≤ 96 := by omega
  obtain ⟨M, hM⟩ : ∃ M, M = motN p.sh t := ⟨_, rfl⟩
  obtain ⟨T, hT⟩ : ∃ T, T = turnN p t := ⟨_, rfl⟩
  rw [← hM] at HPH m1 m2 m3 m4
  rw [← hM, ← hT]
  rw [← hT] at HTN
  obtain ⟨m, hm⟩ : ∃ m, m = p.sh.length := ⟨_, rfl⟩
  rw [← hm] at hc1 hc2 m2
  have HM := Lib.hid hm
  have HMO := Lib.hid (show ∀ c, 1 ≤ c → (motB p.sh t c = (decide (m % c = 0) && repB p.sh t c)) from fun c _ => by rw [hm]; rfl)
  have HM3 := Lib.hid m3
  have HM4 := Lib.hid m4
  clear h hg ht z1 z2 hz hM hT hm m3 m4
  go_enter Tryz.func74, Tryz.ntmps74
  go_wp2_with fail
  go_loopw [2] (fun iv W => ∃ c : Nat, 1 ≤ c ∧ c ≤ M ∧ iv = .int .i64 (c : Int) ∧ Ext w W) (fun iv _ => 24 - (intOf iv).toNat)
  case atStart => exact ⟨1, Nat.le_refl _, m1, rfl, Ext.refl _⟩
  case round =>
    obtain ⟨c, h1, h2, rfl, hx⟩ := hrel
    have HX := Lib.hid hx
    have k8 : wr.cell? ⟨b, 8, none⟩ = some (.int .i64 (m : Int)) := by rw [HM.out]; exact (HB.out.ext hx).cell (i := 8) rfl
    have lk := cell_lt k8
    have hc0 : ¬ c = 0 := by omega
    have e1 : (m : Int).tmod (c : Int) = ((m % c : Nat) : Int) := by
      rw [Int.tmod_eq_emod_of_nonneg (by omega)]
      exact (Int.natCast_emod _ _).symm
    have e2 : (m : Int) % (c : Int) = ((m % c : Nat) : Int) := (Int.natCast_emod _ _).symm
    have HCR := Lib.hid (HRP.out c wr hx ⟨h1, by omega⟩)
    obtain ⟨rb, hrb⟩ : ∃ z, z = repB p.sh t c := ⟨_, rfl⟩
    rw [← hrb] at HCR
    have HRB := Lib.hid hrb
    obtain ⟨q, hq⟩ : ∃ q, q = m % c := ⟨_, rfl⟩
    rw [← hq] at e1 e2
    have HQ := Lib.hid hq
    have hmo := HMO.out c h1
    rw [← hrb, ← hq] at hmo
    clear hrb hq hx
    by_cases hq0 : q = 0
    · subst hq0
      cases rb
      · have hcM : c < M := Nat.lt_of_le_of_ne h2 (fun e => by rw [e, HM3.out] at hmo; cases hmo)
        clear hmo
        go_wp2_with (go_at_call 86; refine HCR.out.mono ?_; rintro e w' ⟨rfl, x4⟩; have HX4 := Lib.hid x4; clear x4)
        go_roundw
        case rel => exact ⟨c + 1, by omega, by omega, by go_num, HX.out.trans HX4.out⟩
        case measure => simp [intOf]; omega
      · have hcM : M = c := by
          rcases Nat.lt_or_ge c M with hlt | hge
          · have := HM4.out c h1 hlt
            rw [this] at hmo; cases hmo
          · omega
        clear hmo
        subst hcM
        go_wp2_with (go_at_call 86; refine HCR.out.mono ?_; rintro e w' ⟨rfl, x4⟩; have HX4 := Lib.hid x4; have HPC := Lib.hid fun (W : World) (x : Ext w' W) => HPH.out W ((HX.out.trans x4).trans x); have k9 := (HB.out.ext (HX.out.trans x4)).cell (i := 9) rfl; have lk9 := cell_lt k9; have y9 := But.cells (D := []) k9 (by simp); clear x4)
        have et : (z : Int).tmod (t : Int) = (T : Int) := by
          rw [HTN.out, Int.tmod_eq_emod_of_nonneg (by omega)]
          exact (Int.natCast_emod _ _).symm
        have et2 : (z : Int) % (t : Int) = (T : Int) := by
          rw [HTN.out]
          exact (Int.natCast_emod _ _).symm
        have ht0 : ¬ t = 0 := by omega
        clear k8 lk e1 e2 k9
        refine (wpIn_wide (n := 3)).1 ?_
        refine wpIn_region_steps [] 10 [(0, true), (1, true), (2, true), (3, true), (4, true), (5, true), (6, true), (7, true), (8, true), (9, true)] (by kernel_rfl) (by decide +kernel) ?_
        iterate 3 (refine wpSD_q (by rfl) (fun _ _ _ => trivial) (fun K hK => ?_); go_simp; refine hK _ ?_; clear hK K)
        refine wpSD_q (by rfl) (fun _ _ _ => trivial) (fun K hK => ?_)
        go_simp
        refine ⟨.int .i64 (z : Int), fun δ => callsIn_wide.2 (HPC.out δ.wd (ext_but0 δ.but)), hK _ ?_⟩
        clear hK K
        iterate 6 (refine wpSD_q (by rfl) (fun _ _ _ => trivial) (fun K hK => ?_); go_simp; refine hK _ ?_; clear hK K)
        refine wpSD_nil ?_
        intro W3 x3
        have HX3 := Lib.hid ((HX.out.trans HX4.out).trans x3)
        clear x3 y9
        simp only [List.drop_succ_cons, List.drop_zero]
        gi_wp2
        go_wp2_with fail
        go_ret2
        exact ⟨rfl, HX3.out⟩
    · have hcM : c < M := Nat.lt_of_le_of_ne h2 (fun e => by rw [e, HM3.out, decide_eq_false hq0] at hmo; cases hmo)
      have hqi : ((q : Int) != 0) = true := by simp; omega
      clear hmo
      go_wp2_with fail
      go_roundw
      case rel => exact ⟨c + 1, by omega, by omega, by go_num, HX.out⟩
      case measure => simp [intOf]; omega

set_option maxRecDepth 100000 in
set_option maxHeartbeats 8000000 in
theorem closes_any (b : Nat) (p : PrT) (v : PrV) (lv : Value) (t : Nat) (w : World) (h : BenchAt b w p v lv) (hg : Good p) (ht : LeastT (liftL p.ros p.rub) t) :
    Calls Tryz.prog 57 #[.pointer (some ⟨b, 0, none⟩)] w fun e w' => e = .returned (.int .i64 ((closN p t : Nat) : Int)) ∧ Ext w w' := by
  have HMT := Lib.hid (motif_any b p v lv t w h hg ht)
  have HB := Lib.hid h.box
  rw [ht.perV hg] at HB
  obtain ⟨m1, m2, -, -⟩ := motN_is (t := t) hg.nums.c1
  have hc2 := hg.nums.c2
  have ht1 := ht.pos
  have ht2 : t ≤ 96 := by
    have := ht.le (by rw [liftL_len]; have := hg.nums.n1; omega)
    rw [liftL_len] at this
    have := hg.nums.n2
    omega
  have htn : turnN p t < t := Nat.mod_lt _ (by omega)
  obtain ⟨R, hR⟩ : ∃ R, R = closN p t := ⟨_, rfl⟩
  have HRR := Lib.hid (show R = motN p.sh t * (t / Nat.gcd t (turnN p t)) from hR)
  rw [← hR]
  obtain ⟨M, hM⟩ : ∃ M, M = motN p.sh t := ⟨_, rfl⟩
  obtain ⟨T, hT⟩ : ∃ T, T = turnN p t := ⟨_, rfl⟩
  rw [← hM, ← hT] at HMT HRR
  rw [← hM] at m1 m2
  rw [← hT] at htn
  have HGC := Lib.hid fun W : World => gcd_any T t W (by omega) (by omega)
  obtain ⟨g, hgg⟩ : ∃ g, g = Nat.gcd t T := ⟨_, rfl⟩
  have hg1 : 1 ≤ g := by rw [hgg]; exact Nat.gcd_pos_of_pos_left _ (by omega)
  rw [← hgg] at HGC HRR
  obtain ⟨d, hd⟩ : ∃ d, d = t / g := ⟨_, rfl⟩
  have hd96 : d ≤ 96 := by rw [hd]; exact Nat.le_trans (Nat.div_le_self _ _) ht2
  have e1 : (t : Int).tdiv (g : Int) = (d : Int) := by
    rw [hd, Int.tdiv_eq_ediv_of_nonneg (by omega)]
    exact (Int.natCast_ediv _ _).symm
  have e2 : (t : Int) / (g : Int) = (d : Int) := by rw [hd]; exact (Int.natCast_ediv _ _).symm
  rw [← hd] at HRR
  have hb : (M : Int) * (d : Int) = (R : Int) := by rw [HRR.out]; simp
  have hRb : R ≤ 1200 := by
    rw [HRR.out]
    have := Nat.mul_le_mul (show M ≤ 12 by omega) hd96
    omega
  have hg0 : ¬ g = 0 := by omega
  have w1 : IntKind.i64.wrap (R : Int) = (R : Int) := IntWalk.i64_in _ (by omega)
  have w2 : IntKind.i64.wrap (d : Int) = (d : Int) := IntWalk.i64_in _ (by omega)
  clear h hg ht hR hM hT hgg hd
  go_enter Tryz.func57, Tryz.ntmps57
  go_wp2_with fail
  refine HMT.out.mono ?_
  rintro e W1 ⟨rfl, x1⟩
  have HX1 := Lib.hid x1
  have k9 := (HB.out.ext x1).cell (i := 9) rfl
  have lk := cell_lt k9
  have y9 := But.cells (D := []) k9 (by simp)
  clear x1
  go_wp2_with fail
  refine (wpIn_wide (n := 3)).1 ?_
  refine wpIn_region_steps [] 13 [(0, true), (1, true), (2, true), (3, true), (4, true), (5, true), (6, true), (7, true), (8, true), (9, true), (10, true), (11, true), (12, true)] (by kernel_rfl) (by decide +kernel) ?_
  iterate 10 (refine wpSD_q (by rfl) (fun _ _ _ => trivial) (fun K hK => ?_); go_simp; refine hK _ ?_; clear hK K)
  refine wpSD_q (by rfl) (fun _ _ _ => trivial) (fun K hK => ?_)
  go_simp
  refine ⟨.int .i64 (g : Int), fun δ => callsIn_wide.2 (HGC.out δ.wd), hK _ ?_⟩
  clear hK K
  iterate 2 (refine wpSD_q (by rfl) (fun _ _ _ => trivial) (fun K hK => ?_); go_simp; refine hK _ ?_; clear hK K)
  refine wpSD_nil ?_
  intro W3 x3
  have HX3 := Lib.hid (HX1.out.trans x3)
  clear x3 y9
  simp only [List.drop_succ_cons, List.drop_zero]
  gi_wp2
  go_wp2_with fail
  go_ret
  exact ⟨rfl, HX3.out⟩

end
open Go.RowKit

theorem imgL_atO {zs : List Int} {i : Nat} (h : i < zs.length) : (imgL zs)[i]?.getD 0 = zs[((-(i : Int)) % (zs.length : Int)).toNat]?.getD 0 := by
  simp [imgL, imgTo, h]
/-- A program's first shape, mirrored or not. -/
def shF (p : PrT) (mi : Bool) : List Int := ((if mi then imgL (liftL p.ros p.rub) else liftL p.ros p.rub)).map fun h => p.throw * h
theorem shF_len (p : PrT) (mi : Bool) : (shF p mi).length = p.ros.length := by
  unfold shF
  rw [List.length_map]
  split
  · rw [imgL_len, liftL_len]
  · exact liftL_len _ _
def offO (p q : PrT) (mi : Bool) : Option Nat := (List.range p.ros.length).find? fun s : Nat => decide (mvL (shF p mi) (s : Int) = shF q false)
def offN (p q : PrT) (mi : Bool) (t : Nat) : Nat := (offO p q mi).elim 0 (fun s => s % t)

theorem isI_nilAt (w : World) (A : Option Addr) : IsI w (.slice A 0 0) [] := ⟨A, 0, rfl, fun _ => rfl, ⟨Nat.le_refl _, Nat.zero_le _⟩, ⟨rfl, Nat.zero_le _, fun _ hj => absurd hj (Nat.not_lt_zero _)⟩⟩
theorem drop_all0 {zs : List Int} {n : Nat} (h : zs.length = n) : zs.drop n = [] := List.drop_eq_nil_of_le (by omega)
theorem take_all0 {zs : List Int} {n : Nat} (h : zs.length = n) : zs.take n = zs := List.take_of_length_le (by omega)
theorem dropI {w : World} {X n d : Nat} {zs : List Int} (h : IsI w (.slice (some ⟨X, 0, none⟩) n n) zs) (hl : zs.length = n) (hd : d ≤ n) : IsI w (.slice (some ⟨X, d, none⟩) (n - d) (n - d)) (zs.drop d) := by
  subst hl
  exact isI_drop h d d (fun _ => by simp) hd
structure Late2 (P : Prop) : Prop where
  out : P
theorem late2 {S G : Prop} (main : Late2 S → G) (p : S) : G := main ⟨p⟩
/-- Two slices of the call's own that do not share their block. -/
structure TwoZ (B : Nat) (w : World) (u v : Value) (xs ys : List Int) : Prop where
  fst : intK.Own B w u xs
  snd : intK.Own B w v ys
  ne : ∀ r, u.ownBlock = some r → v.ownBlock ≠ some r
theorem TwoZ.swap {B : Nat} {w : World} {u v : Value} {xs ys : List Int} (h : TwoZ B w u v xs ys) : TwoZ B w v u ys xs := ⟨h.snd, h.fst, fun r e e2 => h.ne r e2 e⟩
theorem TwoZ.ext {B : Nat} {w w' : World} {u v : Value} {xs ys : List Int} (h : TwoZ B w u v xs ys) (x : Ext w w') : TwoZ B w' u v xs ys := ⟨h.fst.ext x, h.snd.ext x, h.ne⟩
theorem TwoZ.make {B : Nat} {w : World} {u : Value} {xs : List Int} (n : Nat) (hn : n ≤ 1000) (hB : B ≤ w.heap.size) (h : intK.Own B w u xs) :
    TwoZ B (w.alloc (.cells (madeCells #[.int .i64 0] n) 3)) u (.slice (some ⟨w.heap.size, 0, none⟩) n n) xs (List.replicate n 0) :=
  ⟨h.ext ((Ext.refl _).alloc _), own_zerosP w B n hB hn, fun r e e2 => by
    have h1 := (h.lt r e).2
    simp only [Value.ownBlock, Option.some.injEq] at e2
    omega⟩
theorem TwoZ.put {B X n c : Nat} {w : World} {v : Value} {xs ys : List Int} (h : TwoZ B w (.slice (some ⟨X, 0, none⟩) n c) v xs ys) (hl : xs.length = n) {j : Nat} (hj : j < n) (y : Int) :
    TwoZ B (w.setCell ⟨X, j, none⟩ (.int .i64 y)) (.slice (some ⟨X, 0, none⟩) n c) v (xs.set j y) ys := by
  refine ⟨h.fst.put1N hl hj rfl y _ rfl, h.snd.oth ?_, h.ne⟩
  cases hv : v.ownBlock with
  | none => exact .inl rfl
  | some r => exact .inr fun e => h.ne X rfl (by rw [hv, e])
theorem TwoZ.slot {B X n c : Nat} {w : World} {v : Value} {xs ys : List Int} (h : TwoZ B w (.slice (some ⟨X, 0, none⟩) n c) v xs ys) (hl : xs.length = n) {j : Nat} (hj : j < n) : w.cell? ⟨X, j, none⟩ = some (.int .i64 (xs[j]?.getD 0)) ∧ w.frozen? ⟨X, j, none⟩ = false ∧ B ≤ X ∧ X < w.heap.size := by
  obtain ⟨g, c', hge, hB, hgl, hgc, hgf⟩ := h.fst.slot (j := j) (by omega)
  simp only [Value.slice.injEq, Option.some.injEq, Addr.mk.injEq] at hge
  obtain ⟨⟨rfl, -⟩, -, -⟩ := hge
  have d0 := hgc 0 _ rfl
  simp only [intK, Nat.mul_one, Nat.add_zero] at d0
  refine ⟨?_, hgf j, hB, hgl⟩
  rw [List.getElem?_eq_getElem (by omega), Option.getD_some]
  exact d0
theorem shF_at {p : PrT} {i : Nat} (hi : i < p.ros.length) : (shF p false)[i]?.getD 0 = p.throw * (liftL p.ros p.rub)[i]?.getD 0 ∧ (shF p true)[i]?.getD 0 = p.throw * (liftL p.ros p.rub)[((-(i : Int)) % (p.ros.length : Int)).toNat]?.getD 0 := by
  have h1 : i < (liftL p.ros p.rub).length := by rw [liftL_len]; exact hi
  have h2 : i < (imgL (liftL p.ros p.rub)).length := by rw [imgL_len]; exact h1
  constructor
  · simp [shF, h1]
  · have := imgL_atO h1
    rw [List.getElem?_eq_getElem h2, Option.getD_some, liftL_len] at this
    simp only [shF, if_true, List.getElem?_map, List.getElem?_eq_getElem h2, Option.map_some, Option.getD_some, this]

set_option maxRecDepth 100000 in
set_option maxHeartbeats 16000000 in
theorem offset_any (b1 b2 : Nat) (p q : PrT) (v u : PrV) (lv lu : Value) (mi : Bool) (t : Nat) (w : World) (h1 : BenchAt b1 w p v lv) (h2 : BenchAt b2 w q u lu) (hp : Good p) (hq : Good q) (ht : LeastT (liftL p.ros p.rub) t) (hn : p.ros.length = q.ros.length) :
    Calls Tryz.prog 58 #[.pointer (some ⟨b1, 0, none⟩), .pointer (some ⟨b2, 0, none⟩), .bool mi] w fun e w' => e = .returned (.tuple #[.int .i64 ((offN p q mi t : Nat) : Int), .bool (offO p q mi).isSome]) ∧ Ext w w' := by
  have HB1 := Lib.hid h1.box
  have HB2 := Lib.hid h2.box
  rw [ht.perV hp] at HB1
  have hn1 := hp.nums.n1
  have hn2 := hp.nums.n2
  obtain ⟨n, hnn⟩ : ∃ n, n = p.ros.length := ⟨_, rfl⟩
  have HN := Lib.hid hnn
  have HNQ := Lib.hid (show q.ros.length = n by rw [hnn, hn])
  rw [← hnn] at hn1 hn2
  have k7 : w.cell? ⟨b1, 7, none⟩ = some (.int .i64 (n : Int)) := by rw [hnn]; exact HB1.out.cell (i := 7) rfl
  have j7 : w.cell? ⟨b2, 7, none⟩ = some (.int .i64 (n : Int)) := by rw [← HNQ.out]; exact HB2.out.cell (i := 7) rfl
  have lk := cell_lt k7
  have lj := cell_lt j7
  have hmk : ∀ W : World, (Instr.makeSlice 22 (.int .i64 (n : Int)) (.int .i64 (n : Int))).run Tryz.prog W = .ok (.slice (some ⟨W.heap.size, 0, none⟩) n n) (W.alloc (.cells (madeCells #[.int .i64 0] n) 3)) := fun W =>
    run_make_row' (P := Tryz.prog) 22 3 (.int .i64 0) 8 Tryz.underlying22 intInfo rfl .i64 .i64 n (by omega) (by omega) W
  have HPL := Lib.hid h1.lift
  have HQL := Lib.hid h2.lift
  have HFA := Lib.hid fun (i : Nat) (hi : i < n) => shF_at (p := p) (i := i) (by rw [← HN.out]; exact hi)
  have HGA := Lib.hid fun (i : Nat) (hi : i < n) => (shF_at (p := q) (i := i) (by rw [HNQ.out]; exact hi)).1
  have HFL := Lib.hid (show (shF p mi).length = n by rw [shF_len, HN.out])
  have HGL := Lib.hid (show (shF q false).length = n by rw [shF_len, HNQ.out])
  have HLP := Lib.hid hp.fine.lift.hx
  have HLQ := Lib.hid hq.fine.lift.hx
  obtain ⟨tp1, tp2⟩ := hp.nums.t
  obtain ⟨tq1, tq2⟩ := hq.nums.t
  have HOF := Lib.hid (show offO p q mi = (List.range n).find? fun s : Nat => decide (mvL (shF p mi) (s : Int) = shF q false) by unfold offO; rw [HN.out])
  have ht1 := ht.pos
  have ht2 : t ≤ 96 := by
    have := ht.le (by rw [liftL_len, ← HN.out]; omega)
    rw [liftL_len, ← HN.out] at this
    omega
  obtain ⟨Al, nl, cl, rfl, -, hrl, -⟩ := h1.lift.open_
  obtain rfl : nl = n := by rw [← hrl.len, liftL_len, HN.out]
  obtain ⟨Am, nm, cm, rfl, -, hrm, -⟩ := h2.lift.open_
  obtain rfl : nm = nl := by rw [← hrm.len, liftL_len, HNQ.out]
  have HRL := Lib.hid hrl
  have HRM := Lib.hid hrm
  have HMO := Lib.hid fun (x : Int) (W : World) => modulo_any x nm W (by omega) (by omega)
  obtain ⟨res, hres⟩ : ∃ z, z = offO p q mi := ⟨_, rfl⟩
  have HRS := Lib.hid (show offN p q mi t = res.elim 0 (fun s => s % t) by rw [hres]; rfl)
  rw [← hres] at HOF ⊢
  generalize offN p q mi t = rn at *
  obtain ⟨FF, hFF⟩ : ∃ F, F = shF p mi := ⟨_, rfl⟩
  obtain ⟨GG, hGG⟩ : ∃ G, G = shF q false := ⟨_, rfl⟩
  rw [← hFF] at HFL HOF
  rw [← hGG] at HGL HOF HGA
  have HFF := Lib.hid hFF
  clear h1 h2 hp hq ht hrl hrm hres hFF hGG hn hnn
  go_enter Tryz.func58, Tryz.ntmps58
  go_wp2_with fail
  refine late2 (S := ?lateS) ?lateM ?lateP
  case lateM =>
    intro HT
    refine (wpIn_wide (n := 3)).1 ?_
    refine wpIn_region_tree (B := w.heap.size) 12 [0, 1, 2, 3, 5, 6, 7, 8] (Nat.le_refl _) (by kernel_rfl) (by decide +kernel) ?_
    repeat (refine wpQ_step (by rfl) (fun _ _ _ => trivial) (fun K hK => ?_); go_simp; refine hK _ ?_; clear hK K)
    refine wpQ_nil ?_
    have HXT := Lib.hid (Ext.refl w)
    -- TREE
    change wpAnyT _ _ _ _ _ _ _ _ _ (3 + 1) _ _ _
    refine wpAnyT_step [4, 9] (by decide +kernel) (by decide) (by decide) ?_
    intro i hi
    simp only [List.mem_cons, List.not_mem_nil, or_false] at hi
    rcases hi with rfl | rfl
    · refine ⟨_, by rfl, midT_step (by rfl) (fun _ _ _ => trivial) (fun δ K' hK' => ?_)⟩
      have E1 := Lib.hid (show Ext _ δ.wd from ⟨δ, rfl⟩)
      have HX1 := Lib.hid (HXT.out.trans E1.out)
      go_simp
      refine ⟨((Below.refl _ _).alloc HX1.out.bel.size _), hK' _ _ ?_⟩
      have HG := Lib.hid (own_zerosP δ.wd w.heap.size nm HX1.out.bel.size (by omega))
      replace HXT := Lib.hid (HX1.out.alloc (.cells (madeCells #[.int .i64 0] nm) 3))
      obtain ⟨X, hX⟩ : ∃ z, z = δ.wd.heap.size := ⟨_, rfl⟩
      rw [← hX] at HG ⊢
      clear hK' hX
      change wpAnyT _ _ _ _ _ _ _ _ _ (2 + 1) _ _ _
      refine wpAnyT_step [9, 10] (by decide +kernel) (by decide) (by decide) ?_
      intro i hi
      simp only [List.mem_cons, List.not_mem_nil, or_false] at hi
      rcases hi with rfl | rfl
      · refine ⟨_, by rfl, midT_step (by rfl) (fun _ _ _ => trivial) (fun δ K' hK' => ?_)⟩
        have E1 := Lib.hid (show Ext _ δ.wd from ⟨δ, rfl⟩)
        have HX1 := Lib.hid (HXT.out.trans E1.out)
        replace HG := Lib.hid (HG.out.ext E1.out)
        go_simp
        refine ⟨((Below.refl _ _).alloc HX1.out.bel.size _), hK' _ _ ?_⟩
        have HTW := Lib.hid (TwoZ.make nm (by omega) HX1.out.bel.size HG.out)
        replace HXT := Lib.hid (HX1.out.alloc (.cells (madeCells #[.int .i64 0] nm) 3))
        obtain ⟨Y, hY⟩ : ∃ z, z = δ.wd.heap.size := ⟨_, rfl⟩
        rw [← hY] at HTW ⊢
        clear hK' hY
        clear HG
        change wpAnyT _ _ _ _ _ _ _ _ _ (1 + 1) _ _ _
        refine wpAnyT_step [10] (by decide +kernel) (by decide) (by decide) ?_
        intro i hi
        simp only [List.mem_cons, List.not_mem_nil, or_false] at hi
        subst hi
        refine ⟨_, by rfl, midT_step (by rfl) (fun _ _ _ => trivial) (fun δ K' hK' => ?_)⟩
        have E1 := Lib.hid (show Ext _ δ.wd from ⟨δ, rfl⟩)
        have HX1 := Lib.hid (HXT.out.trans E1.out)
        replace HTW := Lib.hid (HTW.out.ext E1.out)
        go_simp
        refine ⟨Below.refl _ _, hK' _ _ ?_⟩
        replace HXT := HX1
        clear hK'
        change wpAnyT _ _ _ _ _ _ _ _ _ (0 + 1) _ _ _
        refine wpAnyT_step [11] (by decide +kernel) (by decide) (by decide) ?_
        intro i hi
        simp only [List.mem_cons, List.not_mem_nil, or_false] at hi
        subst hi
        refine ⟨_, by rfl, midT_step (by rfl) (fun _ _ _ => trivial) (fun δ K' hK' => ?_)⟩
        have E1 := Lib.hid (show Ext _ δ.wd from ⟨δ, rfl⟩)
        have HX1 := Lib.hid (HXT.out.trans E1.out)
        replace HTW := Lib.hid (HTW.out.ext E1.out)
        go_simp
        refine ⟨Below.refl _ _, hK' _ _ ?_⟩
        replace HXT := HX1
        clear hK'
        refine ⟨by decide +kernel, fun w4 x4 => ?_⟩
        have HTW4 := Lib.hid (HTW.out.ext x4)
        have HX4 := Lib.hid (HXT.out.trans x4)
        clear x4
        simp only [List.drop_succ_cons, List.drop_nil]
        gi_wp2
        revert HX4
        revert HTW4
        revert w4
        clear HTW HXT
        clear E1 HX1
        generalize Y = Y
        generalize X = X
        revert Y
        revert X
        exact HT.out
      · refine ⟨_, by rfl, midT_step (by rfl) (fun _ _ _ => trivial) (fun δ K' hK' => ?_)⟩
        have E1 := Lib.hid (show Ext _ δ.wd from ⟨δ, rfl⟩)
        have HX1 := Lib.hid (HXT.out.trans E1.out)
        replace HG := Lib.hid (HG.out.ext E1.out)
        go_simp
        refine ⟨Below.refl _ _, hK' _ _ ?_⟩
        replace HXT := HX1
        clear hK'
        change wpAnyT _ _ _ _ _ _ _ _ _ (1 + 1) _ _ _
        refine wpAnyT_step [9] (by decide +kernel) (by decide) (by decide) ?_
        intro i hi
        simp only [List.mem_cons, List.not_mem_nil, or_false] at hi
        subst hi
        refine ⟨_, by rfl, midT_step (by rfl) (fun _ _ _ => trivial) (fun δ K' hK' => ?_)⟩
        have E1 := Lib.hid (show Ext _ δ.wd from ⟨δ, rfl⟩)
        have HX1 := Lib.hid (HXT.out.trans E1.out)
        replace HG := Lib.hid (HG.out.ext E1.out)
        go_simp
        refine ⟨((Below.refl _ _).alloc HX1.out.bel.size _), hK' _ _ ?_⟩
        have HTW := Lib.hid (TwoZ.make nm (by omega) HX1.out.bel.size HG.out)
        replace HXT := Lib.hid (HX1.out.alloc (.cells (madeCells #[.int .i64 0] nm) 3))
        obtain ⟨Y, hY⟩ : ∃ z, z = δ.wd.heap.size := ⟨_, rfl⟩
        rw [← hY] at HTW ⊢
        clear hK' hY
        clear HG
        change wpAnyT _ _ _ _ _ _ _ _ _ (0 + 1) _ _ _
        refine wpAnyT_step [11] (by decide +kernel) (by decide) (by decide) ?_
        intro i hi
        simp only [List.mem_cons, List.not_mem_nil, or_false] at hi
        subst hi
        refine ⟨_, by rfl, midT_step (by rfl) (fun _ _ _ => trivial) (fun δ K' hK' => ?_)⟩
        have E1 := Lib.hid (show Ext _ δ.wd from ⟨δ, rfl⟩)
        have HX1 := Lib.hid (HXT.out.trans E1.out)
        replace HTW := Lib.hid (HTW.out.ext E1.out)
        go_simp
        refine ⟨Below.refl _ _, hK' _ _ ?_⟩
        replace HXT := HX1
        clear hK'
        refine ⟨by decide +kernel, fun w4 x4 => ?_⟩
        have HTW4 := Lib.hid (HTW.out.ext x4)
        have HX4 := Lib.hid (HXT.out.trans x4)
        clear x4
        simp only [List.drop_succ_cons, List.drop_nil]
        gi_wp2
        revert HX4
        revert HTW4
        revert w4
        clear HTW HXT
        clear E1 HX1
        generalize Y = Y
        generalize X = X
        revert Y
        revert X
        exact HT.out
    · refine ⟨_, by rfl, midT_step (by rfl) (fun _ _ _ => trivial) (fun δ K' hK' => ?_)⟩
      have E1 := Lib.hid (show Ext _ δ.wd from ⟨δ, rfl⟩)
      have HX1 := Lib.hid (HXT.out.trans E1.out)
      go_simp
      refine ⟨((Below.refl _ _).alloc HX1.out.bel.size _), hK' _ _ ?_⟩
      have HG := Lib.hid (own_zerosP δ.wd w.heap.size nm HX1.out.bel.size (by omega))
      replace HXT := Lib.hid (HX1.out.alloc (.cells (madeCells #[.int .i64 0] nm) 3))
      obtain ⟨Y, hY⟩ : ∃ z, z = δ.wd.heap.size := ⟨_, rfl⟩
      rw [← hY] at HG ⊢
      clear hK' hY
      change wpAnyT _ _ _ _ _ _ _ _ _ (2 + 1) _ _ _
      refine wpAnyT_step [4] (by decide +kernel) (by decide) (by decide) ?_
      intro i hi
      simp only [List.mem_cons, List.not_mem_nil, or_false] at hi
      subst hi
      refine ⟨_, by rfl, midT_step (by rfl) (fun _ _ _ => trivial) (fun δ K' hK' => ?_)⟩
      have E1 := Lib.hid (show Ext _ δ.wd from ⟨δ, rfl⟩)
      have HX1 := Lib.hid (HXT.out.trans E1.out)
      replace HG := Lib.hid (HG.out.ext E1.out)
      go_simp
      refine ⟨((Below.refl _ _).alloc HX1.out.bel.size _), hK' _ _ ?_⟩
      have HTW := Lib.hid (TwoZ.make nm (by omega) HX1.out.bel.size HG.out).swap
      replace HXT := Lib.hid (HX1.out.alloc (.cells (madeCells #[.int .i64 0] nm) 3))
      obtain ⟨X, hX⟩ : ∃ z, z = δ.wd.heap.size := ⟨_, rfl⟩
      rw [← hX] at HTW ⊢
      clear hK' hX
      clear HG
      change wpAnyT _ _ _ _ _ _ _ _ _ (1 + 1) _ _ _
      refine wpAnyT_step [10] (by decide +kernel) (by decide) (by decide) ?_
      intro i hi
      simp only [List.mem_cons, List.not_mem_nil, or_false] at hi
      subst hi
      refine ⟨_, by rfl, midT_step (by rfl) (fun _ _ _ => trivial) (fun δ K' hK' => ?_)⟩
      have E1 := Lib.hid (show Ext _ δ.wd from ⟨δ, rfl⟩)
      have HX1 := Lib.hid (HXT.out.trans E1.out)
      replace HTW := Lib.hid (HTW.out.ext E1.out)
      go_simp
      refine ⟨Below.refl _ _, hK' _ _ ?_⟩
      replace HXT := HX1
      clear hK'
      change wpAnyT _ _ _ _ _ _ _ _ _ (0 + 1) _ _ _
      refine wpAnyT_step [11] (by decide +kernel) (by decide) (by decide) ?_
      intro i hi
      simp only [List.mem_cons, List.not_mem_nil, or_false] at hi
      subst hi
      refine ⟨_, by rfl, midT_step (by rfl) (fun _ _ _ => trivial) (fun δ K' hK' => ?_)⟩
      have E1 := Lib.hid (show Ext _ δ.wd from ⟨δ, rfl⟩)
      have HX1 := Lib.hid (HXT.out.trans E1.out)
      replace HTW := Lib.hid (HTW.out.ext E1.out)
      go_simp
      refine ⟨Below.refl _ _, hK' _ _ ?_⟩
      replace HXT := HX1
      clear hK'
      refine ⟨by decide +kernel, fun w4 x4 => ?_⟩
      have HTW4 := Lib.hid (HTW.out.ext x4)
      have HX4 := Lib.hid (HXT.out.trans x4)
      clear x4
      simp only [List.drop_succ_cons, List.drop_nil]
      gi_wp2
      revert HX4
      revert HTW4
      revert w4
      clear HTW HXT
      clear E1 HX1
      generalize Y = Y
      generalize X = X
      revert Y
      revert X
      exact HT.out
    -- ENDTREE
  case lateP =>
    intro X Y W1 HTW HX1
    have k6 : W1.cell? ⟨b1, 6, none⟩ = some (.slice Al nm cl) := (HB1.out.ext HX1.out).cell (i := 6) rfl
    have lk6 := cell_lt k6
    clear k7 j7 lk lj hmk
    go_wp2_with fail
    clear k6 lk6
    go_loopw [30] (fun iv W => ∃ i : Nat, i ≤ nm ∧ iv = .int .i64 (i : Int) ∧ TwoZ w.heap.size W (.slice (some ⟨X, 0, none⟩) nm nm) (.slice (some ⟨Y, 0, none⟩) nm nm) (fillTo FF i) (List.replicate nm 0) ∧ Ext w W) (fun iv _ => nm - (intOf iv).toNat)
    case atStart => exact ⟨0, by omega, rfl, by rw [fillTo_zero, HFL.out]; exact HTW.out, HX1.out⟩
    case round =>
      obtain ⟨i, hi, rfl, htw, hx⟩ := hrel
      have HTI := Lib.hid htw
      have HXi := Lib.hid hx
      by_cases hlt : i < nm
      · have hii : (i : Int) < (nm : Int) := by omega
        have hfl : (fillTo FF i).length = nm := by rw [fillTo_len, HFL.out]
        obtain ⟨bl, ol, rfl, hbl, m0⟩ := HRL.out.at_ i hlt
        replace m0 := hx.cell_some m0
        obtain ⟨d0, df, hBX, hXl⟩ := htw.slot hfl hlt
        have k3 := (HB1.out.ext hx).cell (i := 3) rfl
        obtain ⟨l1, l2⟩ := HLP.out i
        obtain ⟨fa1, fa2⟩ := HFA.out i hlt
        obtain ⟨hv, hhv⟩ : ∃ z, z = (liftL p.ros p.rub)[i]?.getD 0 := ⟨_, rfl⟩
        rw [← hhv] at m0 l1 l2 fa1
        have hmul : 0 ≤ p.throw * hv ∧ p.throw * hv ≤ 160000 := ⟨Int.mul_nonneg (by omega) l1, by
          have h1 := Int.mul_le_mul tp2 l2 l1 (show (0 : Int) ≤ 16 by omega)
          omega⟩
        obtain ⟨mu1, mu2⟩ := hmul
        have wm : IntKind.i64.wrap (p.throw * hv) = p.throw * hv := IntWalk.i64_in _ (by omega)
        have lm := cell_lt m0
        have lk3 := cell_lt k3
        have lX := hXl
        have HLF := Lib.hid hfl
        have HSET := Lib.hid (fillTo_set FF (i := i) (by rw [HFL.out]; exact hlt))
        clear htw hx hfl hXl hhv
        cases mi
        · have HSE := Lib.hid (show (fillTo FF i).set i (p.throw * hv) = fillTo FF (i + 1) by rw [← HSET.out, HFF.out, fa1])
          clear fa1 fa2
          go_wp2_with fail
          go_roundw
          case rel => exact ⟨i + 1, by omega, by go_num, by rw [← HSE.out]; exact HTI.out.put HLF.out hlt _, HXi.out.setCell (p := ⟨X, i, none⟩) hBX _⟩
          case measure => simp [intOf]; omega
        · obtain ⟨k, hk, hkn⟩ := emod_nat (-(i : Int)) (n := nm) (by omega)
          rw [← HN.out, hk, Int.toNat_natCast] at fa2
          obtain ⟨bl2, ol2, e2, _, m1⟩ := HRL.out.at_ k hkn
          simp only [Option.some.injEq, Addr.mk.injEq, and_true] at e2
          obtain ⟨rfl, rfl⟩ := e2
          obtain ⟨l3, l4⟩ := HLP.out k
          obtain ⟨hv2, hhv2⟩ : ∃ z, z = (liftL p.ros p.rub)[k]?.getD 0 := ⟨_, rfl⟩
          rw [← hhv2] at m1 l3 l4 fa2
          have hmul2 : 0 ≤ p.throw * hv2 ∧ p.throw * hv2 ≤ 160000 := ⟨Int.mul_nonneg (by omega) l3, by
            have h1 := Int.mul_le_mul tp2 l4 l3 (show (0 : Int) ≤ 16 by omega)
            omega⟩
          obtain ⟨mu3, mu4⟩ := hmul2
          have wm2 : IntKind.i64.wrap (p.throw * hv2) = p.throw * hv2 := IntWalk.i64_in _ (by omega)
          have wn : IntKind.i64.wrap (-(i : Int)) = -(i : Int) := IntWalk.i64_in _ (by omega)
          have HSE := Lib.hid (show ((fillTo FF i).set i (p.throw * hv)).set i (p.throw * hv2) = fillTo FF (i + 1) by rw [List.set_set, ← HSET.out, HFF.out, fa2])
          have HMK := Lib.hid fun W : World => (show Calls Tryz.prog 31 #[.int .i64 (-(i : Int)), .int .i64 (nm : Int)] W fun e w' => e = .returned (.int .i64 (k : Int)) ∧ Ext W w' from by
            have := HMO.out (-(i : Int)) W
            rw [hk] at this
            exact this.mono (by rintro e w' ⟨h1, rfl⟩; exact ⟨h1, Ext.refl _⟩))
          have HM1 := Lib.hid m1
          have HTP := Lib.hid (HTI.out.put HLF.out hlt (p.throw * hv))
          have HL2 := Lib.hid (show ((fillTo FF i).set i (p.throw * hv)).length = nm by rw [List.length_set, HLF.out])
          clear fa1 fa2 hk m1 hhv2
          go_upto_region 7 with fail
          refine lay_wp (fun W => TwoZ w.heap.size W (.slice (some ⟨X, 0, none⟩) nm nm) (.slice (some ⟨Y, 0, none⟩) nm nm) ((fillTo FF i).set i (p.throw * hv)) (List.replicate nm 0) ∧ Ext w W) ⟨HTP.out, HXi.out.setCell (p := ⟨X, i, none⟩) hBX _⟩ ?_
          rintro W2 ⟨htw2, hx2⟩
          have HT2 := Lib.hid htw2
          have HX2 := Lib.hid hx2
          clear m0 d0 df k3 lm lk3 lX
          have m1 := hx2.cell_some HM1.out
          have k3 := (HB1.out.ext hx2).cell (i := 3) rfl
          have k6 : W2.cell? ⟨b1, 6, none⟩ = some (.slice (some ⟨bl, ol, none⟩) nm cl) := (HB1.out.ext hx2).cell (i := 6) rfl
          have k7 : W2.cell? ⟨b1, 7, none⟩ = some (.int .i64 (nm : Int)) := by rw [HN.out]; exact (HB1.out.ext hx2).cell (i := 7) rfl
          have lm := cell_lt m1
          have lk := cell_lt k3
          have y1 := But.cells (D := []) m1 (by simp)
          have y3 := But.cells (D := []) k3 (by simp)
          have y6 := But.cells (D := []) k6 (by simp)
          have y7 := But.cells (D := []) k7 (by simp)
          clear htw2 hx2 m1 k3 k6 k7
          refine (wpIn_wide (n := 3)).1 ?_
          refine wpIn_region_steps [] 22 [(0, true), (1, true), (2, true), (3, true), (4, true), (5, true), (6, true), (7, true), (8, true), (9, true), (10, true), (11, true), (12, true), (13, true), (14, true), (15, true), (16, true), (17, true), (18, true), (19, true), (20, true), (21, true)] (by kernel_rfl) (by decide +kernel) ?_
          iterate 17 (refine wpSD_q (by rfl) (fun _ _ _ => trivial) (fun K hK => ?_); go_simp; refine hK _ ?_; clear hK K)
          refine wpSD_q (by rfl) (fun _ _ _ => trivial) (fun K hK => ?_)
          go_simp
          refine ⟨.int .i64 (k : Int), fun δ => callsIn_wide.2 (HMK.out δ.wd), hK _ ?_⟩
          clear hK K
          iterate 4 (refine wpSD_q (by rfl) (fun _ _ _ => trivial) (fun K hK => ?_); go_simp; refine hK _ ?_; clear hK K)
          refine wpSD_nil ?_
          intro W3 x3
          have HX3 := Lib.hid (HX2.out.trans x3)
          have HT3 := Lib.hid (HT2.out.ext x3)
          obtain ⟨d0, df, _, lX⟩ := HT3.out.slot HL2.out hlt
          clear x3 y1 y3 y6 y7
          simp only [List.drop_succ_cons, List.drop_zero]
          gi_wp2
          go_wp2_with fail
          go_roundw
          case rel => exact ⟨i + 1, by omega, by go_num, by rw [← HSE.out]; exact HT3.out.put HL2.out hlt _, HX3.out.setCell (p := ⟨X, i, none⟩) hBX _⟩
          case measure => simp [intOf]; omega
      · obtain rfl : nm = i := by omega
        have HTF := Lib.hid (show TwoZ w.heap.size wr (.slice (some ⟨Y, 0, none⟩) nm nm) (.slice (some ⟨X, 0, none⟩) nm nm) (fillTo GG 0) FF from by
          rw [fillTo_zero, HGL.out]
          have := htw.swap
          rw [← HFL.out, fillTo_all, HFL.out] at this
          exact this)
        have j6 : wr.cell? ⟨b2, 6, none⟩ = some (.slice Am nm cm) := (HB2.out.ext hx).cell (i := 6) rfl
        have lj6 := cell_lt j6
        obtain ⟨WA, rfl⟩ : ∃ z, z = wr := ⟨_, rfl⟩
        clear htw hx
        go_wp2_with fail
        clear j6 lj6
        go_loopw [74] (fun iv W => ∃ i : Nat, i ≤ nm ∧ iv = .int .i64 (i : Int) ∧ TwoZ w.heap.size W (.slice (some ⟨Y, 0, none⟩) nm nm) (.slice (some ⟨X, 0, none⟩) nm nm) (fillTo GG i) FF ∧ Ext w W) (fun iv _ => nm - (intOf iv).toNat)
        case atStart => exact ⟨0, by omega, rfl, HTF.out, HXi.out⟩
        case round =>
          obtain ⟨i, hi, rfl, htw, hx⟩ := hrel
          have HTI := Lib.hid htw
          have HXj := Lib.hid hx
          by_cases hlt : i < nm
          · have hii : (i : Int) < (nm : Int) := by omega
            have hfl : (fillTo GG i).length = nm := by rw [fillTo_len, HGL.out]
            obtain ⟨bl, ol, rfl, hbl, m0⟩ := HRM.out.at_ i hlt
            replace m0 := hx.cell_some m0
            obtain ⟨d0, df, hBY, hYl⟩ := htw.slot hfl hlt
            have k3 := (HB2.out.ext hx).cell (i := 3) rfl
            obtain ⟨l1, l2⟩ := HLQ.out i
            have fa1 := HGA.out i hlt
            obtain ⟨hv, hhv⟩ : ∃ z, z = (liftL q.ros q.rub)[i]?.getD 0 := ⟨_, rfl⟩
            rw [← hhv] at m0 l1 l2 fa1
            have hmul : 0 ≤ q.throw * hv ∧ q.throw * hv ≤ 160000 := ⟨Int.mul_nonneg (by omega) l1, by
              have h1 := Int.mul_le_mul tq2 l2 l1 (show (0 : Int) ≤ 16 by omega)
              omega⟩
            obtain ⟨mu1, mu2⟩ := hmul
            have wm : IntKind.i64.wrap (q.throw * hv) = q.throw * hv := IntWalk.i64_in _ (by omega)
            have lm := cell_lt m0
            have lk3 := cell_lt k3
            have lY := hYl
            have HLF := Lib.hid hfl
            have HSE := Lib.hid (show (fillTo GG i).set i (q.throw * hv) = fillTo GG (i + 1) by rw [← fillTo_set GG (i := i) (by rw [HGL.out]; exact hlt), fa1])
            clear htw hx hfl hYl hhv fa1
            go_wp2_with fail
            go_roundw
            case rel => exact ⟨i + 1, by omega, by go_num, by rw [← HSE.out]; exact HTI.out.put HLF.out hlt _, HXj.out.setCell (p := ⟨Y, i, none⟩) hBY _⟩
            case measure => simp [intOf]; omega
          · obtain rfl : nm = i := by omega
            have HTG := Lib.hid (show TwoZ w.heap.size wr (.slice (some ⟨X, 0, none⟩) nm nm) (.slice (some ⟨Y, 0, none⟩) nm nm) FF GG from by
              have := htw.swap
              rw [← HGL.out, fillTo_all, HGL.out] at this
              exact this)
            have k7 : wr.cell? ⟨b1, 7, none⟩ = some (.int .i64 (nm : Int)) := by rw [HN.out]; exact (HB1.out.ext hx).cell (i := 7) rfl
            have lk7 := cell_lt k7
            obtain ⟨WB, rfl⟩ : ∃ z, z = wr := ⟨_, rfl⟩
            clear htw hx
            go_wp2_with fail
            clear k7 lk7
            go_loopw [94] (fun iv W => ∃ i : Nat, i ≤ nm ∧ iv = .int .i64 (i : Int) ∧ Hid (∀ r : Nat, r < i → mvL FF (r : Int) ≠ GG) ∧ Ext WB W) (fun iv _ => nm - (intOf iv).toNat)
            case atStart => exact ⟨0, by omega, rfl, Lib.hid (fun r h => by omega), Ext.refl _⟩
            case round =>
              obtain ⟨i, hi, rfl, HNO, hx⟩ := hrel
              have HXk := Lib.hid hx
              by_cases hlt : i < nm
              · have hii : (i : Int) < (nm : Int) := by omega
                have k7 : wr.cell? ⟨b1, 7, none⟩ = some (.int .i64 (nm : Int)) := by rw [HN.out]; exact (HB1.out.ext (HXj.out.trans hx)).cell (i := 7) rfl
                have k9 := (HB1.out.ext (HXj.out.trans hx)).cell (i := 9) rfl
                have lk := cell_lt k7
                have y7 := But.cells (D := []) k7 (by simp)
                have wn : IntKind.i64.wrap (nm : Int) = (nm : Int) := IntWalk.i64_in _ (by omega)
                clear hx k7
                by_cases hi0 : i = 0
                · subst hi0
                  go_wp2_with fail
                  refine (wpIn_wide (n := 3)).1 ?_
                  refine wpIn_region_steps [] 19 [(0, true), (1, true), (2, true), (3, true), (4, true), (5, true), (6, true), (7, true), (8, true), (9, true), (10, true), (11, true), (12, true), (13, true), (14, true), (15, true), (18, true), (16, false), (17, false)] (by kernel_rfl) (by decide +kernel) ?_
                  iterate 16 (refine wpSD_q (by rfl) (fun _ _ _ => trivial) (fun K hK => ?_); go_simp; refine hK _ ?_; clear hK K)
                  refine wpSD_q (by rfl) (fun _ _ _ => trivial) (fun K hK => ?_)
                  go_simp
                  refine hK _ ?_
                  clear hK K
                  refine wpSD_m (by rfl) (fun _ _ _ => trivial) (fun δ K hK => ?_)
                  go_simp
                  refine ⟨((Ext.refl _).alloc _).but, hK _ _ ?_⟩
                  clear hK K
                  have Xd := Lib.hid (show Ext wr δ.wd from ⟨δ, rfl⟩)
                  refine wpSD_m (by rfl) (fun _ _ _ => trivial) (fun δ2 K hK => ?_)
                  go_simp
                  have X2 := Lib.hid (show Ext (δ.wd.alloc (.cells #[(.slice (some ⟨X, 0, none⟩) 0 0), (.slice (some ⟨X, 0, none⟩) nm nm)] 22)) δ2.wd from ⟨δ2, rfl⟩)
                  have HTD := Lib.hid ((HTG.out.ext (HXk.out.trans (Xd.out.alloc (.cells #[(.slice (some ⟨X, 0, none⟩) 0 0), (.slice (some ⟨X, 0, none⟩) nm nm)] 22)))).ext X2.out)
                  refine (callsIn_wide.2 (concat_any δ.wd.heap.size 2 (.slice (some ⟨X, 0, none⟩) 0 0) (.slice (some ⟨X, 0, none⟩) nm nm) (FF.drop nm) (FF.take nm) δ2.wd (X2.out.cell_some (cell_new rfl)) (X2.out.cell_some (cell_new rfl)) (by rw [drop_all0 HFL.out]; exact isI_nilAt _ _) (by rw [take_all0 HFL.out]; exact (intK_own.1 HTD.out.fst).isI) (by rw [List.length_drop, List.length_take, HFL.out]; omega) (by rw [List.length_drop, HFL.out]; omega) (by rw [List.length_take, HFL.out]; omega))).mono ?_
                  rintro e Wb ⟨v7, rfl, own7, xb⟩
                  obtain ⟨A7, n7, c7, rfl⟩ := (intK_own.2 own7).shape
                  refine ⟨_, rfl, xb.but, hK _ _ ?_⟩
                  clear hK K
                  refine wpSD_nil ?_
                  intro W9 x9
                  have HX9 := Lib.hid (((((HXk.out.trans Xd.out).alloc (.cells #[(.slice (some ⟨X, 0, none⟩) 0 0), (.slice (some ⟨X, 0, none⟩) nm nm)] 22)).trans X2.out).trans xb).trans x9)
                  have HE := Lib.hid (equal_any (.slice A7 n7 c7) (.slice (some ⟨Y, 0, none⟩) nm nm) (FF.drop nm ++ FF.take nm) GG W9 (own7.isI.ext x9) ((intK_own.1 (HTG.out.snd.ext HX9.out)).isI))
                  have hmv : FF.drop nm ++ FF.take nm = mvL FF ((0 : Nat) : Int) := by
                    have := drop_take_mv (zs := FF) (k := 0) (by rw [HFL.out]; omega)
                    rwa [HFL.out, Nat.sub_zero] at this
                  rw [hmv] at HE
                  obtain ⟨bq, hbq⟩ : ∃ z, z = (mvL FF ((0 : Nat) : Int) == GG) := ⟨_, rfl⟩
                  rw [← hbq] at HE
                  have HBQ := Lib.hid hbq
                  clear own7 xb x9 y7 hmv hbq
                  simp only [List.drop_succ_cons, List.drop_zero]
                  gi_wp2
                  refine ⟨trivial, (callsIn_wide.2 HE.out).mono ?_⟩
                  rintro e W10 ⟨rfl, x10⟩
                  have HX10 := Lib.hid (HX9.out.trans x10)
                  have k9 := (HB1.out.ext (HXj.out.trans HX10.out)).cell (i := 9) rfl
                  have lk := cell_lt k9
                  have ht0 : ¬ t = 0 := by omega
                  clear x10
                  cases bq
                  · gi_wp2
                    go_wp2_with fail
                    go_roundw
                    case rel =>
                      refine ⟨0 + 1, by omega, by go_num, Lib.hid (fun r h => ?_), HX10.out⟩
                      rcases (by omega : r < 0 ∨ r = 0) with h1 | rfl
                      · exact HNO.out r h1
                      · intro e
                        have := HBQ.out
                        rw [beq_iff_eq.2 e] at this
                        cases this
                    case measure => simp [intOf]; omega
                  · have HRE := Lib.hid (show res = some 0 by
                      rw [HOF.out, List.find?_eq_some_iff_getElem]
                      refine ⟨decide_eq_true (beq_iff_eq.1 HBQ.out.symm), 0, by simpa using hlt, by simp, fun j hj => ?_⟩
                      simp only [List.getElem_range]
                      rw [decide_eq_false (HNO.out j hj)]
                      rfl)
                    have em : ((0 : Nat) : Int).tmod (t : Int) = ((0 % t : Nat) : Int) := by
                      rw [Int.tmod_eq_emod_of_nonneg (by omega)]
                      exact (Int.natCast_emod _ _).symm
                    have HRN := Lib.hid (show rn = 0 % t by rw [HRS.out, HRE.out]; rfl)
                    gi_wp2
                    go_wp2_with fail
                    go_ret2
                    exact ⟨by rw [HRN.out, HRE.out] <;> simp, HXj.out.trans HX10.out⟩
                · obtain ⟨d, hd⟩ : ∃ d, nm = d + i := ⟨nm - i, by omega⟩
                  have HD := Lib.hid hd
                  have wd : IntKind.i64.wrap ((nm : Int) - (i : Int)) = (d : Int) := by rw [show (nm : Int) - (i : Int) = (d : Int) by omega]; exact IntWalk.i64_in _ (by omega)
                  have q2 : (d : Int) ≤ (nm : Int) := by omega
                  have q3 : ¬ nm = d := by omega
                  clear hd
                  go_wp2_with fail
                  refine (wpIn_wide (n := 3)).1 ?_
                  refine wpIn_region_steps [] 19 [(0, true), (1, true), (2, true), (3, true), (4, true), (5, true), (6, true), (7, true), (8, true), (9, true), (10, true), (11, true), (12, true), (13, true), (14, true), (15, true), (18, true), (16, false), (17, false)] (by kernel_rfl) (by decide +kernel) ?_
                  iterate 16 (refine wpSD_q (by rfl) (fun _ _ _ => trivial) (fun K hK => ?_); go_simp; refine hK _ ?_; clear hK K)
                  refine wpSD_q (by rfl) (fun _ _ _ => trivial) (fun K hK => ?_)
                  go_simp
                  refine hK _ ?_
                  clear hK K
                  refine wpSD_m (by rfl) (fun _ _ _ => trivial) (fun δ K hK => ?_)
                  go_simp
                  refine ⟨((Ext.refl _).alloc _).but, hK _ _ ?_⟩
                  clear hK K
                  have Xd := Lib.hid (show Ext wr δ.wd from ⟨δ, rfl⟩)
                  refine wpSD_m (by rfl) (fun _ _ _ => trivial) (fun δ2 K hK => ?_)
                  go_simp
                  have X2 := Lib.hid (show Ext (δ.wd.alloc (.cells #[(.slice (some ⟨X, d, none⟩) (nm - d) (nm - d)), (.slice (some ⟨X, 0, none⟩) d nm)] 22)) δ2.wd from ⟨δ2, rfl⟩)
                  have HTD := Lib.hid ((HTG.out.ext (HXk.out.trans (Xd.out.alloc (.cells #[(.slice (some ⟨X, d, none⟩) (nm - d) (nm - d)), (.slice (some ⟨X, 0, none⟩) d nm)] 22)))).ext X2.out)
                  refine (callsIn_wide.2 (concat_any δ.wd.heap.size 2 (.slice (some ⟨X, d, none⟩) (nm - d) (nm - d)) (.slice (some ⟨X, 0, none⟩) d nm) (FF.drop d) (FF.take d) δ2.wd (X2.out.cell_some (cell_new rfl)) (X2.out.cell_some (cell_new rfl)) (dropI ((intK_own.1 HTD.out.fst).isI) HFL.out (by omega)) (isI_take ((intK_own.1 HTD.out.fst).isI) d (by omega)) (by rw [List.length_drop, List.length_take, HFL.out]; omega) (by rw [List.length_drop, HFL.out]; omega) (by rw [List.length_take, HFL.out]; omega))).mono ?_
                  rintro e Wb ⟨v7, rfl, own7, xb⟩
                  obtain ⟨A7, n7, c7, rfl⟩ := (intK_own.2 own7).shape
                  refine ⟨_, rfl, xb.but, hK _ _ ?_⟩
                  clear hK K
                  refine wpSD_nil ?_
                  intro W9 x9
                  have HX9 := Lib.hid (((((HXk.out.trans Xd.out).alloc (.cells #[(.slice (some ⟨X, d, none⟩) (nm - d) (nm - d)), (.slice (some ⟨X, 0, none⟩) d nm)] 22)).trans X2.out).trans xb).trans x9)
                  have HE := Lib.hid (equal_any (.slice A7 n7 c7) (.slice (some ⟨Y, 0, none⟩) nm nm) (FF.drop d ++ FF.take d) GG W9 (own7.isI.ext x9) ((intK_own.1 (HTG.out.snd.ext HX9.out)).isI))
                  have hmv : FF.drop d ++ FF.take d = mvL FF ((i : Nat) : Int) := by
                    have := drop_take_mv (zs := FF) (k := i) (by rw [HFL.out]; omega)
                    rwa [HFL.out, show nm - i = d by have := HD.out; omega] at this
                  rw [hmv] at HE
                  obtain ⟨bq, hbq⟩ : ∃ z, z = (mvL FF ((i : Nat) : Int) == GG) := ⟨_, rfl⟩
                  rw [← hbq] at HE
                  have HBQ := Lib.hid hbq
                  clear own7 xb x9 y7 hmv hbq
                  simp only [List.drop_succ_cons, List.drop_zero]
                  gi_wp2
                  refine ⟨trivial, (callsIn_wide.2 HE.out).mono ?_⟩
                  rintro e W10 ⟨rfl, x10⟩
                  have HX10 := Lib.hid (HX9.out.trans x10)
                  have k9 := (HB1.out.ext (HXj.out.trans HX10.out)).cell (i := 9) rfl
                  have lk := cell_lt k9
                  have ht0 : ¬ t = 0 := by omega
                  clear x10
                  cases bq
                  · gi_wp2
                    go_wp2_with fail
                    go_roundw
                    case rel =>
                      refine ⟨i + 1, by omega, by go_num, Lib.hid (fun r h => ?_), HX10.out⟩
                      rcases (by omega : r < i ∨ r = i) with h1 | rfl
                      · exact HNO.out r h1
                      · intro e
                        have := HBQ.out
                        rw [beq_iff_eq.2 e] at this
                        cases this
                    case measure => simp [intOf]; omega
                  · have HRE := Lib.hid (show res = some i by
                      rw [HOF.out, List.find?_eq_some_iff_getElem]
                      refine ⟨decide_eq_true (beq_iff_eq.1 HBQ.out.symm), i, by simpa using hlt, by simp, fun j hj => ?_⟩
                      simp only [List.getElem_range]
                      rw [decide_eq_false (HNO.out j hj)]
                      rfl)
                    have em : ((i : Nat) : Int).tmod (t : Int) = ((i % t : Nat) : Int) := by
                      rw [Int.tmod_eq_emod_of_nonneg (by omega)]
                      exact (Int.natCast_emod _ _).symm
                    have HRN := Lib.hid (show rn = i % t by rw [HRS.out, HRE.out]; rfl)
                    gi_wp2
                    go_wp2_with fail
                    go_ret2
                    exact ⟨by rw [HRN.out, HRE.out] <;> simp, HXj.out.trans HX10.out⟩
              · have HRE := Lib.hid (show res = none by
                  rw [HOF.out, List.find?_eq_none]
                  intro j hj
                  rw [decide_eq_false (HNO.out j (by have := List.mem_range.1 hj; omega))]
                  decide)
                have HRN := Lib.hid (show rn = 0 by rw [HRS.out, HRE.out]; rfl)
                clear hx
                go_wp2_with fail
                go_ret2
                exact ⟨by rw [HRN.out, HRE.out] <;> rfl, HXj.out.trans HXk.out⟩
end Go.Proofs.YtkjgcmdabelohaaGreat
