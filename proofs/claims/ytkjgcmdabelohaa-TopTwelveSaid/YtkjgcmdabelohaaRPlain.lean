/- Turned lists: the plain laws. No program. -/
import Derived.Test.YtkjgcmdabelohaaRTurn
namespace Go.Proofs.Ytkjgcmdabelohaa

theorem mvTo_len (zs : List Int) (a : Int) (m : Nat) : (mvTo zs a m).length = m := by simp [mvTo]
theorem mvL_len (zs : List Int) (a : Int) : (mvL zs a).length = zs.length := by simp [mvL, mvTo]
theorem imgL_len (zs : List Int) : (imgL zs).length = zs.length := by simp [imgL, imgTo]
theorem mvL_at {zs : List Int} {a : Int} {i : Nat} (h : i < zs.length) : (mvL zs a)[i]?.getD 0 = zs[(((i : Int) - a) % (zs.length : Int)).toNat]?.getD 0 := by
  simp [mvL, mvTo, h]
theorem list_ext {xs ys : List Int} (h : xs.length = ys.length) (he : ∀ i, i < xs.length → xs[i]?.getD 0 = ys[i]?.getD 0) : xs = ys := by
  refine List.ext_getElem h fun i h1 h2 => ?_
  have := he i h1
  simpa [h1, h2] using this
theorem mvL_congr (zs : List Int) {a b : Int} (h : ∀ k : Int, (k - a) % (zs.length : Int) = (k - b) % (zs.length : Int)) : mvL zs a = mvL zs b := by
  unfold mvL mvTo
  refine List.map_congr_left fun k _ => ?_
  rw [h]
theorem sub_emod_emod (k x n : Int) : (k - x % n) % n = (k - x) % n := by
  rw [Int.sub_emod, Int.emod_emod, ← Int.sub_emod]
theorem emod_sub_emod (k x n : Int) : (k % n - x) % n = (k - x) % n := by
  rw [Int.sub_emod, Int.emod_emod, ← Int.sub_emod]
theorem mvL_emod (zs : List Int) (a : Int) : mvL zs (a % zs.length) = mvL zs a := mvL_congr zs fun k => sub_emod_emod k a _
theorem mvL_zero (zs : List Int) : mvL zs 0 = zs := by
  refine list_ext (mvL_len _ _) fun i hi => ?_
  rw [mvL_len] at hi
  rw [mvL_at hi, Int.sub_zero, Int.emod_eq_of_lt (by omega) (by omega)]
  rfl
theorem mvL_add (zs : List Int) (a b : Int) : mvL (mvL zs a) b = mvL zs (a + b) := by
  refine list_ext (by rw [mvL_len, mvL_len, mvL_len]) fun i hi => ?_
  rw [mvL_len, mvL_len] at hi
  rw [mvL_at (by rw [mvL_len]; exact hi), mvL_at hi, mvL_len]
  have h1 := Int.emod_nonneg ((i : Int) - b) (show (zs.length : Int) ≠ 0 by omega)
  have h2 := Int.emod_lt_of_pos ((i : Int) - b) (show (0 : Int) < zs.length by omega)
  rw [mvL_at (by omega), Int.toNat_of_nonneg h1, emod_sub_emod, show (i : Int) - b - a = i - (a + b) by omega]
theorem mvL_len_eq (zs : List Int) : mvL zs zs.length = zs := by
  have := mvL_emod zs zs.length
  rw [Int.emod_self, mvL_zero] at this
  exact this.symm

/-- Where xs, turned, is ys. -/
def matchTo (xs ys : List Int) (m : Nat) : List Int := ((List.range m).filter fun k => mvL xs (k : Nat) == ys).map fun k : Nat => (k : Int)
def matchL (xs ys : List Int) : List Int := matchTo xs ys xs.length
theorem matchTo_succ (xs ys : List Int) (m : Nat) : matchTo xs ys (m + 1) = matchTo xs ys m ++ (if (mvL xs m == ys) = true then [(m : Int)] else []) := by
  unfold matchTo
  rw [List.range_succ, List.filter_append, List.map_append]
  congr 1
  by_cases h : (mvL xs m == ys) = true
  · simp only [if_pos h, List.filter_cons, List.filter_nil, List.map_cons, List.map_nil]
  · simp only [if_neg h, List.filter_cons, List.filter_nil, List.map_nil]
theorem matchTo_len (xs ys : List Int) (m : Nat) : (matchTo xs ys m).length ≤ m := by
  unfold matchTo
  rw [List.length_map]
  exact Nat.le_trans (List.length_filter_le _ _) (by simp)

/-- t is the least step of at least 1 by which zs turned is zs. -/
structure LeastT (zs : List Int) (t : Nat) : Prop where
  pos : 1 ≤ t
  is : mvL zs t = zs
  least : ∀ s : Nat, 1 ≤ s → s < t → mvL zs s ≠ zs

theorem least_mul {zs : List Int} {t : Nat} (h : mvL zs t = zs) : ∀ q : Nat, mvL zs ((t * q : Nat) : Int) = zs
  | 0 => by simpa using mvL_zero zs
  | q + 1 => by
    have h1 := least_mul h q
    rw [show ((t * (q + 1) : Nat) : Int) = ((t * q : Nat) : Int) + (t : Int) by rw [Nat.mul_succ]; omega, ← mvL_add, h1, h]
theorem least_iff {zs : List Int} {t : Nat} (h : LeastT zs t) (k : Nat) : mvL zs k = zs ↔ k % t = 0 := by
  have h0 := Nat.div_add_mod k t
  have hr := Nat.mod_lt k h.pos
  have h1 : mvL zs k = mvL zs ((k % t : Nat) : Int) := by
    have := mvL_add zs ((t * (k / t) : Nat) : Int) ((k % t : Nat) : Int)
    rw [least_mul h.is] at this
    rw [this]
    congr 1
    omega
  rw [h1]
  constructor
  · intro h2
    rcases Nat.eq_zero_or_pos (k % t) with h3 | h3
    · exact h3
    · exact absurd h2 (h.least _ h3 hr)
  · intro h2
    rw [h2]
    exact mvL_zero zs
theorem filter_mul_len (t : Nat) (ht : 1 ≤ t) : ∀ m : Nat, ((List.range (t * m)).filter fun k => k % t == 0).length = m
  | 0 => by simp
  | m + 1 => by
    have ih := filter_mul_len t ht m
    rw [Nat.mul_succ, List.range_add, List.filter_append, List.length_append, ih, List.filter_map, List.length_map]
    have : (List.range t).filter ((fun k => k % t == 0) ∘ fun x => t * m + x) = [0] := by
      obtain ⟨s, rfl⟩ : ∃ s, t = s + 1 := ⟨t - 1, by omega⟩
      rw [List.range_succ_eq_map, List.filter_cons]
      have h0 : ((fun k => k % (s + 1) == 0) ∘ fun x => (s + 1) * m + x) 0 = true := by simp
      rw [if_pos h0, List.filter_eq_nil_iff.2]
      intro a ha
      simp at ha
      obtain ⟨b, hb, rfl⟩ := ha
      simp only [Function.comp_apply, beq_iff_eq]
      rw [Nat.mul_add_mod, Nat.mod_eq_of_lt (by omega)]
      omega
    rw [this]
    rfl
/-- The number of steps by which zs is itself tells the least one. -/
theorem least_len {zs : List Int} {t : Nat} (h : LeastT zs t) (hn : 1 ≤ zs.length) : zs.length / (matchL zs zs).length = t := by
  have hd : zs.length % t = 0 := (least_iff h zs.length).1 (mvL_len_eq zs)
  have h0 := Nat.div_add_mod zs.length t
  rw [hd, Nat.add_zero] at h0
  have hl : (matchL zs zs).length = zs.length / t := by
    unfold matchL matchTo
    rw [List.length_map]
    have e : ((List.range zs.length).filter fun k : Nat => mvL zs k == zs) = (List.range (t * (zs.length / t))).filter fun k => k % t == 0 := by
      rw [h0]
      refine List.filter_congr fun k _ => ?_
      rw [Bool.eq_iff_iff, beq_iff_eq, beq_iff_eq]
      exact least_iff h k
    rw [e, filter_mul_len t h.pos]
  rw [hl]
  have hq : 1 ≤ zs.length / t := by
    rcases Nat.eq_zero_or_pos (zs.length / t) with h1 | h1
    · rw [h1] at h0; omega
    · exact h1
  have := Nat.mul_div_cancel t hq
  rwa [h0] at this

theorem matchL_pos {zs : List Int} (hn : 1 ≤ zs.length) : 1 ≤ (matchL zs zs).length := by
  refine List.length_pos_of_mem (a := (0 : Int)) ?_
  unfold matchL matchTo
  refine List.mem_map.2 ⟨0, List.mem_filter.2 ⟨List.mem_range.2 hn, ?_⟩, rfl⟩
  rw [beq_iff_eq]
  exact mvL_zero zs
/-- The step after which zs comes again. -/
def periodOf (zs : List Int) : Int := ((zs.length / (matchL zs zs).length : Nat) : Int)
theorem matchTo_head {xs ys : List Int} {a : Int} {l : List Int} {k : Nat} (h : matchTo xs ys k = a :: l) : ∀ m, ∃ r, matchTo xs ys (k + m) = a :: r
  | 0 => ⟨l, h⟩
  | m + 1 => by
    obtain ⟨r, hr⟩ := matchTo_head h m
    exact ⟨_, by rw [← Nat.add_assoc, matchTo_succ, hr, List.cons_append]⟩
theorem matchL_head {xs ys : List Int} {k : Nat} (hk : k < xs.length) (h0 : matchTo xs ys k = []) (h : (mvL xs k == ys) = true) : ∃ r, matchL xs ys = (k : Int) :: r := by
  have h1 : matchTo xs ys (k + 1) = [(k : Int)] := by rw [matchTo_succ, h0, if_pos h, List.nil_append]
  obtain ⟨r, hr⟩ := matchTo_head h1 (xs.length - (k + 1))
  rw [Nat.add_sub_cancel' (by omega)] at hr
  exact ⟨r, hr⟩
def firstL : List Int → Int
  | [] => 0
  | a :: _ => a
def matchV (xs ys : List Int) : Int := firstL (matchL xs ys)
def emptyE (l : List Int) : Int := if l.isEmpty then 6 else 0
end Go.Proofs.Ytkjgcmdabelohaa
