/- Counting: the sum over all sets of high steps is how many rosettes have this lift. No program. -/
import Derived.Test.YtaaceadcnnfngaaRNum
import Derived.Test.YtaaceadcnnfngaaRFind
import Derived.Test.YtaaceadcnnfngaaRGal2
namespace Go.Proofs.Ytaaceadcnnfngaa

/-- All lists of a length with elements from 0 to M. -/
def allL (M : Nat) : Nat → List (List Int)
  | 0 => [[]]
  | r + 1 => (List.range (M + 1)).flatMap fun v : Nat => (allL M r).map fun l => (v : Int) :: l
theorem allL_mem {M : Nat} : ∀ {r : Nat} {l : List Int}, l ∈ allL M r ↔ l.length = r ∧ ∀ x ∈ l, 0 ≤ x ∧ x ≤ M
  | 0, l => by
    simp only [allL, List.mem_singleton]
    constructor
    · rintro rfl; simp
    · rintro ⟨h, _⟩; exact List.length_eq_zero_iff.1 h
  | r + 1, l => by
    simp only [allL, List.mem_flatMap, List.mem_range, List.mem_map]
    constructor
    · rintro ⟨v, hv, t, ht, rfl⟩
      obtain ⟨h1, h2⟩ := allL_mem.1 ht
      refine ⟨by simp [h1], fun x hx => ?_⟩
      rcases List.mem_cons.1 hx with rfl | hx
      · omega
      · exact h2 x hx
    · rintro ⟨h1, h2⟩
      match l, h1 with
      | x :: t, h1 =>
        have hx := h2 x (by simp)
        exact ⟨x.toNat, by omega, t, allL_mem.2 ⟨by simpa using h1, fun y hy => h2 y (by simp [hy])⟩, by congr 1; omega⟩
theorem allL_nodup (M : Nat) : ∀ r, (allL M r).Nodup
  | 0 => by simp [allL]
  | r + 1 => by
    unfold allL
    rw [List.Nodup, List.pairwise_flatMap]
    refine ⟨fun v _ => nodup_map (allL_nodup M r) fun p _ q _ h => (List.cons.inj h).2, ?_⟩
    refine List.Pairwise.imp ?_ (List.pairwise_lt_range (n := M + 1))
    intro a b hab x hx y hy e
    obtain ⟨t, _, rfl⟩ := List.mem_map.1 hx
    obtain ⟨t', _, rfl⟩ := List.mem_map.1 hy
    have := (List.cons.inj e).1
    omega
theorem countP_le_of {l : List (List Int)} (hnd : l.Nodup) {φ : List Int → List Int} (hφ : ∀ x ∈ l, φ x ∈ l) (inj : ∀ x ∈ l, ∀ y ∈ l, φ x = φ y → x = y) {P Q : List Int → Bool} (h : ∀ x ∈ l, P x = true → Q (φ x) = true) : l.countP P ≤ l.countP Q := by
  rw [List.countP_eq_length_filter, List.countP_eq_length_filter, ← List.length_map (f := φ)]
  refine List.Nodup.length_le_of_subset (nodup_map (List.Pairwise.filter _ hnd) fun p hp q hq => inj p (List.mem_filter.1 hp).1 q (List.mem_filter.1 hq).1) fun y hy => ?_
  obtain ⟨x, hx, rfl⟩ := List.mem_map.1 hy
  obtain ⟨h1, h2⟩ := List.mem_filter.1 hx
  exact List.mem_filter.2 ⟨hφ x h1, h x h1 h2⟩

theorem sum_range_le {g A B : Int} {c : Nat → Int} (h1 : ∀ v : Nat, (v : Int) < g → c v = A) (h2 : ∀ v : Nat, (v : Int) = g → c v = B) (h3 : ∀ v : Nat, g < (v : Int) → c v = 0) (hg : 0 ≤ g) :
    ∀ k : Nat, ((List.range k).map c).sum = if (k : Int) ≤ g then k * A else g * A + B
  | 0 => by simp [hg]
  | k + 1 => by
    rw [List.range_succ, List.map_append, List.sum_append, sum_range_le h1 h2 h3 hg k]
    simp only [List.map_cons, List.map_nil, List.sum_cons, List.sum_nil, Int.add_zero]
    have e : ((k + 1 : Nat) : Int) * A = k * A + A := by rw [Int.natCast_add, Int.add_mul]; simp
    rcases Int.lt_trichotomy (k : Int) g with h | h | h
    · rw [if_pos (by omega), if_pos (by omega), h1 k h, e]
    · rw [if_pos (by omega), if_neg (by omega), h2 k h, h]
    · rw [if_neg (by omega), if_neg (by omega), h3 k h, Int.add_zero]

section
variable {ls ys : List Int}
/-- f has the lift ls just if it is below the greatest such rosette, and touches where that one does. -/
theorem lift_iff {f : List Int} (hf : Fine ls ys) (hfd : liftL (underL ls ys) ys = ls) (hl : f.length = ls.length) : liftL f ys = ls ↔
    (∀ i, i < ls.length → f[i]?.getD 0 ≤ (underL ls ys)[i]?.getD 0) ∧ covB (underL ls ys) ls ys (fun i => f[i]?.getD 0 == (underL ls ys)[i]?.getD 0) = true := by
  have hb := hf.b1
  have hn := hf.n1
  have hul := underL_len ls ys
  have hgp : ∀ p, p < ls.length → ∀ j, j < ys.length → askOf (underL ls ys) ys ys.length p j ≤ ls[p]?.getD 0 := fun p hp j hj =>
    (lift_le_iff hb (by rw [hul]; exact hp)).1 (by rw [hfd]; exact Int.le_refl _) j hj
  have hfa : ∀ p j, j < ys.length → askOf f ys ys.length p j = f[plc ls.length p ((j : Int) - (ys.length : Int) / 2)]?.getD 0 - ys[j]?.getD 0 := fun p j hj => by rw [askOf_plc f ys hj, hl]
  have hga : ∀ p j, j < ys.length → askOf (underL ls ys) ys ys.length p j = (underL ls ys)[plc ls.length p ((j : Int) - (ys.length : Int) / 2)]?.getD 0 - ys[j]?.getD 0 := fun p j hj => by rw [askOf_plc _ ys hj, hul]
  constructor
  · intro he
    have h1 : LeL f (underL ls ys) := (adjoint hb (by omega) hl).1 (by rw [he]; exact LeL.refl _)
    refine ⟨fun i hi => h1.2 i (by omega), covB_iff.2 fun p hp => Classical.byContradiction fun hc => ?_⟩
    have h2 : (liftL f ys)[p]?.getD 0 ≤ ls[p]?.getD 0 - 1 := (lift_le_iff hb (by omega)).2 fun j hj => by
      have h3 := hgp p hp j hj
      have h4 := h1.2 (plc ls.length p ((j : Int) - (ys.length : Int) / 2)) (by rw [hl]; exact plc_lt hn)
      rw [hga p j hj] at h3
      rw [hfa p j hj]
      refine Classical.byContradiction fun h5 => hc ⟨j, hj, ?_, ?_⟩
      · rw [hga p j hj]; omega
      · rw [beq_iff_eq]; omega
    rw [he] at h2
    omega
  · rintro ⟨h1, h2⟩
    have h3 : LeL f (underL ls ys) := ⟨by omega, fun i hi => h1 i (by omega)⟩
    refine LeL.antisymm ((adjoint hb (by omega) hl).2 h3) ⟨by rw [liftL_len, hl], fun p hp => ?_⟩
    obtain ⟨j, hj, h4, h5⟩ := covB_iff.1 h2 p hp
    have h6 := (lift_le_iff hb (by omega)).1 (Int.le_refl ((liftL f ys)[p]?.getD 0)) j hj
    rw [hfa p j hj, beq_iff_eq.1 h5, ← hga p j hj, h4] at h6
    exact h6

theorem under_le_of (hf : Fine ls ys) (i : Nat) : (underL ls ys)[i]?.getD 0 ≤ ls[i]?.getD 0 := by
  rcases Nat.lt_or_ge i ls.length with h | h
  · exact (under_le hf).2 i (by rw [underL_len]; exact h)
  · rw [List.getElem?_eq_none (by rw [underL_len]; exact h), List.getElem?_eq_none h]
    exact Int.le_refl _
theorem sum_cast (f : Nat → Nat) : ∀ k : Nat, ((((List.range k).map f).sum : Nat) : Int) = ((List.range k).map fun v => ((f v : Nat) : Int)).sum
  | 0 => rfl
  | k + 1 => by
    rw [List.range_succ, List.map_append, List.sum_append, List.map_append, List.sum_append, Int.natCast_add, sum_cast f k]
    simp
theorem sumH_ext {gs : List Int} {F : (Nat → Bool) → Int} {f k : Nat} {h h' : Nat → Bool} (e : ∀ i, h i = h' i) : sumH gs F f k h = sumH gs F f k h' := by rw [show h = h' from funext e]
theorem sumH_low {gs : List Int} {F : (Nat → Bool) → Int} : ∀ (f k : Nat) (h h' : Nat → Bool), (∀ h1 h2, (∀ i, i < k + f → h1 i = h2 i) → F h1 = F h2) → (∀ i, i < k → h i = h' i) → sumH gs F f k h = sumH gs F f k h'
  | 0, k, h, h', H, e => H h h' (by simpa using e)
  | f + 1, k, h, h', H, e => by
    have e1 : ∀ b, sumH gs F f (k + 1) (upd h k b) = sumH gs F f (k + 1) (upd h' k b) := fun b =>
      sumH_low f (k + 1) _ _ (fun h1 h2 h12 => H h1 h2 fun i hi => h12 i (by omega)) fun i hi => by
        unfold upd
        split
        · rfl
        · exact e i (by omega)
    rw [sumH, sumH, e1, e1]
theorem covG_low {gs : List Int} (hn : 1 ≤ ls.length) {h h' : Nat → Bool} (e : ∀ i, i < ls.length → h i = h' i) : covG gs ls ys h = covG gs ls ys h' := by
  have : covB gs ls ys h = covB gs ls ys h' := by
    rw [Bool.eq_iff_iff, covB_iff, covB_iff]
    exact forall_congr' fun p => forall_congr' fun _ => exists_congr fun j => and_congr_right fun _ => and_congr_right fun _ => by rw [e _ (plc_lt hn)]
  rw [covG, covG, this]
theorem count_pre (hf : Fine ls ys) (hfd : liftL (underL ls ys) ys = ls) {M : Nat} (hM : ∀ i : Nat, ls[i]?.getD 0 ≤ (M : Int)) : ∀ (r : Nat) (pre : List Int), pre.length + r = ls.length → (∀ i, i < pre.length → pre[i]?.getD 0 ≤ (underL ls ys)[i]?.getD 0) →
    (((allL M r).countP fun l => liftL (pre ++ l) ys == ls : Nat) : Int) = sumH (underL ls ys) (covG (underL ls ys) ls ys) r pre.length (fun i => pre[i]?.getD 0 == (underL ls ys)[i]?.getD 0)
  | 0, pre, hr, hp => by
    have h := lift_iff (f := pre) hf hfd (by omega)
    simp only [allL, List.countP_singleton, List.append_nil, sumH, covG]
    by_cases hc : covB (underL ls ys) ls ys (fun i => pre[i]?.getD 0 == (underL ls ys)[i]?.getD 0) = true
    · rw [if_pos hc, if_pos (beq_iff_eq.2 (h.2 ⟨fun i hi => hp i (by omega), hc⟩))]
      rfl
    · rw [if_neg hc, if_neg (fun e => hc (h.1 (beq_iff_eq.1 e)).2)]
      rfl
  | r + 1, pre, hr, hp => by
    have hg0 := (hf.under.hx pre.length).1
    have hgM : (underL ls ys)[pre.length]?.getD 0 ≤ (M : Int) := Int.le_trans (under_le_of hf _) (hM _)
    have hat : ∀ (v : Int) (i : Nat), i ≠ pre.length → (pre ++ [v])[i]?.getD 0 = pre[i]?.getD 0 := fun v i hi => by
      rcases Nat.lt_or_ge i pre.length with h | h
      · rw [List.getElem?_append_left h]
      · rw [List.getElem?_eq_none (by simp; omega), List.getElem?_eq_none h]
    have hnw : ∀ v : Int, (pre ++ [v])[pre.length]?.getD 0 = v := fun v => by simp
    have ih : ∀ v : Nat, (v : Int) ≤ (underL ls ys)[pre.length]?.getD 0 → (((allL M r).countP fun l => liftL ((pre ++ [(v : Int)]) ++ l) ys == ls : Nat) : Int) =
        sumH (underL ls ys) (covG (underL ls ys) ls ys) r (pre.length + 1) (upd (fun i => pre[i]?.getD 0 == (underL ls ys)[i]?.getD 0) pre.length ((v : Int) == (underL ls ys)[pre.length]?.getD 0)) := fun v hv => by
      rw [count_pre hf hfd hM r (pre ++ [(v : Int)]) (by simp; omega) (fun i hi => by
        by_cases he : i = pre.length
        · subst he; rw [hnw]; exact hv
        · rw [hat _ _ he]; exact hp i (by simp at hi; omega))]
      rw [show (pre ++ [(v : Int)]).length = pre.length + 1 by simp]
      refine sumH_ext fun i => ?_
      unfold upd
      split
      · rename_i he; subst he; rw [hnw]
      · rename_i he; rw [hat _ _ he]
    rw [allL, List.countP_flatMap, sum_cast]
    have e : ∀ v : Nat, (((List.countP (fun l => liftL (pre ++ l) ys == ls) ∘ fun v : Nat => (allL M r).map fun l => (v : Int) :: l) v : Nat) : Int) = (((allL M r).countP fun l => liftL ((pre ++ [(v : Int)]) ++ l) ys == ls : Nat) : Int) := fun v => by
      simp only [Function.comp_apply, List.countP_map, List.append_assoc, List.singleton_append]
      rfl
    rw [List.map_congr_left (g := fun v : Nat => (((allL M r).countP fun l => liftL ((pre ++ [(v : Int)]) ++ l) ys == ls : Nat) : Int)) (fun v _ => e v)]
    rw [sum_range_le (g := (underL ls ys)[pre.length]?.getD 0) (A := sumH (underL ls ys) (covG (underL ls ys) ls ys) r (pre.length + 1) (upd (fun i => pre[i]?.getD 0 == (underL ls ys)[i]?.getD 0) pre.length false))
      (B := sumH (underL ls ys) (covG (underL ls ys) ls ys) r (pre.length + 1) (upd (fun i => pre[i]?.getD 0 == (underL ls ys)[i]?.getD 0) pre.length true)) ?_ ?_ ?_ hg0 (M + 1), if_neg (by omega), sumH, Int.add_comm]
    · intro v hv
      rw [ih v (by omega), show ((v : Int) == (underL ls ys)[pre.length]?.getD 0) = false by simp; omega]
    · intro v hv
      rw [ih v (by omega), show ((v : Int) == (underL ls ys)[pre.length]?.getD 0) = true by simp; omega]
    · intro v hv
      have : (allL M r).countP (fun l => liftL ((pre ++ [(v : Int)]) ++ l) ys == ls) = 0 := by
        rw [List.countP_eq_zero]
        intro l hl he
        have hll := (allL_mem.1 hl).1
        have h1 := ((lift_iff (f := (pre ++ [(v : Int)]) ++ l) hf hfd (by simp; omega)).1 (beq_iff_eq.1 he)).1 pre.length (by omega)
        rw [List.getElem?_append_left (by simp), hnw] at h1
        omega
      rw [this]
      rfl

/-- How many rosettes with heights up to M have this lift. -/
def allN (M : Nat) (ls ys : List Int) : Nat := (allL M ls.length).countP fun f => liftL f ys == ls
theorem count_all (hf : Fine ls ys) (hfd : liftL (underL ls ys) ys = ls) {M : Nat} (hM : ∀ i : Nat, ls[i]?.getD 0 ≤ (M : Int)) : cntV (underL ls ys) ls ys (ls.length + (ys.length - 1)) 0 0 0 = (allN M ls ys : Int) := by
  rw [cnt_sum hf.odd hf.le, allN]
  have := count_pre hf hfd hM ls.length [] (by simp) (by simp)
  simp only [List.nil_append, List.length_nil] at this
  rw [this]
  exact sumH_low _ _ _ _ (fun h1 h2 h12 => covG_low hf.n1 fun i hi => h12 i (by omega)) (by simp)
/-- Without one to be found there is none. -/
theorem allN_none (hf : Fine ls ys) (hfd : ¬ liftL (underL ls ys) ys = ls) (M : Nat) (hM : M ≤ 10000) : allN M ls ys = 0 := by
  rw [allN, List.countP_eq_zero]
  intro f hfm he
  obtain ⟨h1, h2⟩ := allL_mem.1 hfm
  have hff : Fine f ys := ⟨by have := hf.lo; omega, by have := hf.hi; omega, hf.odd, by have := hf.le; omega, hf.le31, fun i => by
    rcases Nat.lt_or_ge i f.length with h | h
    · rw [List.getElem?_eq_getElem h]
      have := h2 f[i] (List.getElem_mem h)
      simp; omega
    · rw [List.getElem?_eq_none h]; simp, hf.hy, hf.mid⟩
  have he' := beq_iff_eq.1 he
  apply hfd
  rw [← he']
  exact lift_close hff
end
end Go.Proofs.Ytaaceadcnnfngaa
