/- Periods, matches and axes: the plain laws. No program. -/
import Derived.Test.YtaaceadcnnfngaaRTurns2
import Derived.Test.YtaaceadcnnfngaaRGal2
namespace Go.Proofs.Ytaaceadcnnfngaa

theorem mvL_neg_cancel {zs : List Int} (a b : Int) : mvL zs a = mvL zs b ↔ mvL zs (a - b) = zs := by
  constructor
  · intro h
    have h1 := mvL_add zs a (-b)
    rw [h, mvL_add, show b + -b = 0 by omega, mvL_zero] at h1
    rw [show a - b = a + -b by omega]
    exact h1.symm
  · intro h
    have h1 := mvL_add zs (a - b) b
    rw [h, show a - b + b = a by omega] at h1
    exact h1.symm

theorem search_least {P : Nat → Prop} (hd : ∀ t, P t ∨ ¬ P t) : ∀ m : Nat, (∃ t, 1 ≤ t ∧ t ≤ m ∧ P t ∧ ∀ s, 1 ≤ s → s < t → ¬ P s) ∨ (∀ s, 1 ≤ s → s ≤ m → ¬ P s)
  | 0 => .inr fun s h1 h2 => absurd h1 (by omega)
  | m + 1 => by
    rcases search_least hd m with ⟨t, h1, h2, h3, h4⟩ | h
    · exact .inl ⟨t, h1, by omega, h3, h4⟩
    · rcases hd (m + 1) with hp | hp
      · exact .inl ⟨m + 1, by omega, Nat.le_refl _, hp, fun s h1 h2 => h s h1 (by omega)⟩
      · refine .inr fun s h1 h2 => ?_
        rcases (by omega : s ≤ m ∨ s = m + 1) with h3 | rfl
        · exact h s h1 h3
        · exact hp
theorem exists_least {zs : List Int} (hn : 1 ≤ zs.length) : ∃ t, LeastT zs t ∧ t ≤ zs.length := by
  rcases search_least (P := fun t : Nat => mvL zs t = zs) (fun t => Classical.em _) zs.length with ⟨t, h1, h2, h3, h4⟩ | h
  · exact ⟨t, ⟨h1, h3, h4⟩, h2⟩
  · exact absurd (mvL_len_eq zs) (h _ hn (Nat.le_refl _))
section
variable {zs ys b : List Int} {t : Nat}
theorem LeastT.dvd (h : LeastT zs t) : zs.length % t = 0 := (least_iff h zs.length).1 (mvL_len_eq zs)
theorem LeastT.le (h : LeastT zs t) (hn : 1 ≤ zs.length) : t ≤ zs.length := Nat.le_of_dvd hn (Nat.dvd_of_mod_eq_zero h.dvd)
theorem LeastT.period (h : LeastT zs t) (hn : 1 ≤ zs.length) : periodOf zs = (t : Int) := by rw [periodOf, least_len h hn]
theorem LeastT.int (h : LeastT zs t) (hn : 1 ≤ zs.length) (a : Int) : mvL zs a = zs ↔ a % (t : Int) = 0 := by
  rw [← mvL_emod]
  obtain ⟨k, hk, hk2⟩ := emod_nat a hn
  rw [hk, least_iff h]
  have h1 : a % (t : Int) = ((k % t : Nat) : Int) := by
    have hd : (zs.length : Int) % (t : Int) = 0 := by have := h.dvd; omega
    have h2 := Int.emod_add_mul_ediv a (zs.length : Int)
    obtain ⟨q, hq⟩ := Int.dvd_of_emod_eq_zero hd
    rw [hk] at h2
    have h3 : a = (k : Int) + (t : Int) * (q * (a / (zs.length : Int))) := by rw [← Int.mul_assoc, ← hq]; exact h2.symm
    rw [h3, Int.add_mul_emod_self_left]
    omega
  omega
theorem LeastT.eq_iff (h : LeastT zs t) (hn : 1 ≤ zs.length) (a c : Int) : mvL zs a = mvL zs c ↔ (a - c) % (t : Int) = 0 := by rw [mvL_neg_cancel, h.int hn]

theorem matchTo_nil_of : ∀ {k : Nat}, (∀ j : Nat, j < k → mvL zs j ≠ ys) → matchTo zs ys k = []
  | 0, _ => rfl
  | k + 1, h => by
    rw [matchTo_succ, matchTo_nil_of fun j hj => h j (by omega), if_neg (by simpa using h k (by omega))]
    rfl
theorem first_of {k : Nat} (hk : k < zs.length) (h : mvL zs k = ys) (h0 : ∀ j : Nat, j < k → mvL zs j ≠ ys) : ∃ r, matchL zs ys = (k : Int) :: r :=
  matchL_head hk (matchTo_nil_of h0) (by simpa using h)
theorem match_none (h : matchL zs ys = []) : ∀ k : Nat, k < zs.length → mvL zs k ≠ ys := by
  intro k hk he
  have : (k : Int) ∈ matchL zs ys := by
    unfold matchL matchTo
    exact List.mem_map.2 ⟨k, List.mem_filter.2 ⟨List.mem_range.2 hk, by simpa using he⟩, rfl⟩
  rw [h] at this
  cases this
theorem match_some {a : Int} {r : List Int} (h : matchL zs ys = a :: r) : ∃ k : Nat, a = k ∧ k < zs.length ∧ mvL zs k = ys ∧ ∀ j : Nat, j < k → mvL zs j ≠ ys := by
  have hm : a ∈ matchL zs ys := by rw [h]; simp
  unfold matchL matchTo at hm
  obtain ⟨k, hk, rfl⟩ := List.mem_map.1 hm
  obtain ⟨h1, h2⟩ := List.mem_filter.1 hk
  refine ⟨k, rfl, List.mem_range.1 h1, by simpa using h2, fun j hj he => ?_⟩
  rcases search_least (P := fun i : Nat => mvL zs ((i - 1 : Nat) : Int) = ys) (fun t => Classical.em _) (j + 1) with ⟨i, hi1, hi2, hi3, hi4⟩ | hno
  · have hlt : i - 1 < zs.length := by have := List.mem_range.1 h1; omega
    obtain ⟨r', hr'⟩ := first_of hlt hi3 fun s hs he' => hi4 (s + 1) (by omega) (by omega) (by simpa using he')
    rw [h] at hr'
    simp only [List.cons.injEq] at hr'
    omega
  · exact hno (j + 1) (by omega) (Nat.le_refl _) (by simpa using he)

theorem mvL_hts (h : Hts zs) (a : Int) : Hts (mvL zs a) := by
  intro i
  rcases Nat.lt_or_ge i zs.length with hi | hi
  · rw [mvL_at hi]; exact h _
  · rw [List.getElem?_eq_none (by rw [mvL_len]; exact hi)]; simp
theorem mvL_check (h : checkB zs = true) (a : Int) : checkB (mvL zs a) = true := by
  obtain ⟨h1, h2, h3⟩ := checkB_iff.1 h
  exact checkB_iff.2 ⟨by rw [mvL_len]; exact h1, by rw [mvL_len]; exact h2, hts_of_all.2 (mvL_hts (hts_of_all.1 h3) a)⟩

/-- The match of a rosette turned by s is the rest of s by the period. -/
theorem match_turned (hc : checkB zs = true) (h : LeastT zs t) (s : Int) : matchN zs (mvL zs s) = s % (t : Int) ∧ matchE zs (mvL zs s) = 0 := by
  obtain ⟨h3, _, _⟩ := checkB_iff.1 hc
  have hn : 1 ≤ zs.length := by omega
  have h0 := Int.emod_nonneg s (show (t : Int) ≠ 0 by have := h.pos; omega)
  have h1 := Int.emod_lt_of_pos s (show (0 : Int) < t by have := h.pos; omega)
  obtain ⟨k, hk⟩ : ∃ k : Nat, s % (t : Int) = k := ⟨(s % (t : Int)).toNat, by omega⟩
  have hkt : k < t := by omega
  have hkn : k < zs.length := Nat.lt_of_lt_of_le hkt (h.le hn)
  have he : mvL zs k = mvL zs s := by
    rw [h.eq_iff hn, ← hk, Int.sub_emod, Int.emod_emod, Int.sub_self]
    rfl
  obtain ⟨r, hr⟩ := first_of (ys := mvL zs s) hkn he fun j hj hj2 => by
    rw [h.eq_iff hn] at hj2
    have h5 : (j : Int) % (t : Int) = s % (t : Int) := Int.emod_eq_emod_iff_emod_sub_eq_zero.2 hj2
    rw [Int.emod_eq_of_lt (by omega) (by omega), hk] at h5
    omega
  unfold matchN matchE
  rw [hc, mvL_check hc, hr]
  exact ⟨hk.symm, rfl⟩

/-- What is found, is found below the period. -/
theorem match_found (hc : checkB zs = true) (h : LeastT zs t) (hE : matchE zs ys = 0) : ∃ k : Nat, matchN zs ys = k ∧ k < t ∧ mvL zs k = ys := by
  obtain ⟨h3, _, _⟩ := checkB_iff.1 hc
  have hn : 1 ≤ zs.length := by omega
  unfold matchE at hE
  split at hE
  · rename_i hcc
    unfold matchN
    rw [if_pos hcc]
    cases hm : matchL zs ys with
    | nil => rw [hm] at hE; exact absurd hE (by decide)
    | cons a r =>
      obtain ⟨k, rfl, h4, h5, h6⟩ := match_some hm
      refine ⟨k, rfl, ?_, h5⟩
      rcases Nat.lt_or_ge k t with hlt | hge
      · exact hlt
      · exfalso
        refine h6 (k - t) (by have := h.pos; omega) ?_
        rw [← h5, h.eq_iff hn, show ((k - t : Nat) : Int) - (k : Int) = -(t : Int) by omega]
        simp
  · exact absurd hE (by decide)
theorem match_lost (hc : checkB zs = true) (hE : ¬ matchE zs ys = 0) : matchN zs ys = 0 ∧ ∀ k : Nat, k < zs.length → mvL zs k ≠ ys := by
  unfold matchE at hE
  unfold matchN
  split at hE
  · rename_i hcc
    rw [if_pos hcc]
    cases hm : matchL zs ys with
    | nil => exact ⟨rfl, match_none hm⟩
    | cons a r => rw [hm] at hE; exact absurd rfl hE
  · rename_i hcc
    rw [if_neg hcc]
    refine ⟨rfl, fun k _ he => hcc ?_⟩
    rw [hc, ← he, mvL_check hc]
    rfl
end
end Go.Proofs.Ytaaceadcnnfngaa
