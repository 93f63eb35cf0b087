/- All lists one after the other, the first place the quickest. No program. -/
import Derived.Test.YtaaceadcnnfngaaRAro
import Derived.Test.YtaaceadcnnfngaaRLawT
namespace Go.Proofs.Ytaaceadcnnfngaa

/-- The t-th list, with places from 0 to M. -/
def digs (M : Nat) : Nat → Nat → List Int
  | 0, _ => []
  | n + 1, t => ((t % (M + 1) : Nat) : Int) :: digs M n (t / (M + 1))
theorem digs_len (M : Nat) : ∀ n t, (digs M n t).length = n
  | 0, _ => rfl
  | n + 1, t => by rw [digs, List.length_cons, digs_len M n]
theorem digs_zero (M : Nat) : ∀ n, digs M n 0 = List.replicate n 0
  | 0 => rfl
  | n + 1 => by rw [digs, Nat.zero_mod, Nat.zero_div, digs_zero M n]; rfl
theorem digs_bd (M : Nat) : ∀ n t i : Nat, 0 ≤ (digs M n t)[i]?.getD 0 ∧ (digs M n t)[i]?.getD 0 ≤ M
  | 0, _, i => by simp [digs]
  | n + 1, t, 0 => by
    have := Nat.mod_lt t (show 0 < M + 1 by omega)
    simp only [digs, List.getElem?_cons_zero, Option.getD_some]
    omega
  | n + 1, t, i + 1 => by
    simp only [digs, List.getElem?_cons_succ]
    exact digs_bd M n _ i
/-- What comes next: the first place that is not at its greatest grows by 1, those before it start anew. -/
theorem digs_next (M : Nat) : ∀ (n t i : Nat), i < n → (∀ j, j < i → (digs M n t)[j]?.getD 0 = M) → (digs M n t)[i]?.getD 0 ≠ M →
    ∀ j, (digs M n (t + 1))[j]?.getD 0 = if j < i then 0 else if j = i then (digs M n t)[i]?.getD 0 + 1 else (digs M n t)[j]?.getD 0
  | 0, _, _, h, _, _ => absurd h (by omega)
  | n + 1, t, 0, _, _, h => fun j => by
    simp only [digs, List.getElem?_cons_zero, Option.getD_some] at h
    have hm := Nat.mod_lt t (show 0 < M + 1 by omega)
    have hne : t % (M + 1) ≠ M := fun e => h (by rw [e])
    have h1 : (t + 1) % (M + 1) = t % (M + 1) + 1 := by
      have e1 := Nat.div_add_mod t (M + 1)
      have e : t + 1 = (M + 1) * (t / (M + 1)) + (t % (M + 1) + 1) := by omega
      rw [e, Nat.mul_add_mod, Nat.mod_eq_of_lt (show t % (M + 1) + 1 < M + 1 by omega)]
    have h2 : (t + 1) / (M + 1) = t / (M + 1) := by
      have e1 := Nat.div_add_mod t (M + 1)
      have e2 := Nat.div_add_mod (t + 1) (M + 1)
      rw [h1] at e2
      have e3 : (M + 1) * ((t + 1) / (M + 1)) = (M + 1) * (t / (M + 1)) := by omega
      exact Nat.eq_of_mul_eq_mul_left (by omega) e3
    match j with
    | 0 =>
      simp only [digs, List.getElem?_cons_zero, Option.getD_some, h1]
      simp
    | j + 1 =>
      simp only [digs, List.getElem?_cons_succ, h2]
      simp
  | n + 1, t, i + 1, hi, h, hi2 => fun j => by
    have h0 := h 0 (by omega)
    simp only [digs, List.getElem?_cons_zero, Option.getD_some] at h0
    have hm : t % (M + 1) = M := by omega
    have e1 := Nat.div_add_mod t (M + 1)
    have h1 : t + 1 = (M + 1) * (t / (M + 1) + 1) := by rw [Nat.mul_add]; omega
    have h2 : (t + 1) % (M + 1) = 0 := by rw [h1]; exact Nat.mul_mod_right _ _
    have h3 : (t + 1) / (M + 1) = t / (M + 1) + 1 := by rw [h1]; exact Nat.mul_div_cancel_left _ (by omega)
    have ih := digs_next M n (t / (M + 1)) i (by omega) (fun j hj => by
      have := h (j + 1) (by omega)
      simpa only [digs, List.getElem?_cons_succ] using this) (by simpa only [digs, List.getElem?_cons_succ] using hi2)
    match j with
    | 0 =>
      simp only [digs, List.getElem?_cons_zero, Option.getD_some, h2]
      simp
    | j + 1 =>
      simp only [digs, List.getElem?_cons_succ, h3]
      rw [ih j]
      simp only [Nat.add_lt_add_iff_right, Nat.add_right_cancel_iff]
theorem digs_last (M : Nat) : ∀ (n t : Nat), t < (M + 1) ^ n → (∀ j, j < n → (digs M n t)[j]?.getD 0 = M) → t + 1 = (M + 1) ^ n
  | 0, t, h, _ => by rw [Nat.pow_zero] at h ⊢; omega
  | n + 1, t, ht, h => by
    have h0 := h 0 (by omega)
    simp only [digs, List.getElem?_cons_zero, Option.getD_some] at h0
    have e1 := Nat.div_add_mod t (M + 1)
    have hd : t / (M + 1) < (M + 1) ^ n := by
      rw [Nat.pow_succ] at ht
      exact Nat.div_lt_of_lt_mul (by rw [Nat.mul_comm]; exact ht)
    have ih := digs_last M n (t / (M + 1)) hd (fun j hj => by
      have := h (j + 1) (by omega)
      simpa only [digs, List.getElem?_cons_succ] using this)
    rw [Nat.pow_succ, Nat.mul_comm, ← ih, Nat.mul_add]
    omega

theorem digs_wrap (M : Nat) : ∀ (n t : Nat), t < (M + 1) ^ n → (M + 1) ^ n ≤ t + 1 → ∀ j, j < n → (digs M n t)[j]?.getD 0 = M
  | 0, _, _, _, _, h => absurd h (by omega)
  | n + 1, t, h1, h2, j, hj => by
    have e1 := Nat.div_add_mod t (M + 1)
    have hm := Nat.mod_lt t (show 0 < M + 1 by omega)
    have hd : t / (M + 1) < (M + 1) ^ n := by
      rw [Nat.pow_succ] at h1
      exact Nat.div_lt_of_lt_mul (by rw [Nat.mul_comm]; exact h1)
    have h3 : (M + 1) ^ (n + 1) = (M + 1) * (M + 1) ^ n := by rw [Nat.pow_succ, Nat.mul_comm]
    have h4 : (M + 1) * (t / (M + 1) + 1) ≤ (M + 1) * (M + 1) ^ n := Nat.mul_le_mul_left _ hd
    rw [Nat.mul_add, Nat.mul_one] at h4
    have h5 : t % (M + 1) = M := by omega
    have h6 : (M + 1) ^ n ≤ t / (M + 1) + 1 := by
      refine Nat.le_of_mul_le_mul_left (c := M + 1) ?_ (by omega)
      rw [Nat.mul_add, Nat.mul_one]
      omega
    match j with
    | 0 => simp only [digs, List.getElem?_cons_zero, Option.getD_some]; rw [h5]
    | j + 1 =>
      simp only [digs, List.getElem?_cons_succ]
      exact digs_wrap M n _ hd h6 j (by omega)
theorem countP_mul (B : Nat) (Q : Nat → Nat → Bool) : ∀ K : Nat, (List.range (B * K)).countP (fun t => Q (t % B) (t / B)) = ((List.range B).map fun v => (List.range K).countP fun t => Q v t).sum
  | 0 => by
    rw [Nat.mul_zero]
    have : ∀ l : List Nat, (l.map fun _ => 0).sum = 0 := fun l => by
      induction l with
      | nil => rfl
      | cons x l ih => simpa using ih
    simpa using (this (List.range B)).symm
  | K + 1 => by
    have hr : List.range (B * (K + 1)) = List.range (B * K) ++ (List.range B).map (fun v => B * K + v) := by
      rw [Nat.mul_add, Nat.mul_one, List.range_add]
    have hs : ∀ (l : List Nat) (f g : Nat → Nat), (l.map fun v => f v + g v).sum = (l.map f).sum + (l.map g).sum := fun l f g => by
      induction l with
      | nil => rfl
      | cons x l ih => simp only [List.map_cons, List.sum_cons, ih]; omega
    rw [hr, List.countP_append, countP_mul B Q K, List.countP_map]
    have h1 : ((List.range B).map fun v => (List.range (K + 1)).countP fun t => Q v t).sum = ((List.range B).map fun v => ((List.range K).countP fun t => Q v t) + (if Q v K then 1 else 0)).sum := by
      congr 1
      refine List.map_congr_left fun v _ => ?_
      rw [List.range_succ, List.countP_append]
      simp [List.countP_cons]
    rw [h1, hs]
    congr 1
    have h2 : ∀ (l : List Nat) (p q : Nat → Bool), (∀ v ∈ l, p v = q v) → l.countP p = (l.map fun v => if q v then 1 else 0).sum := fun l p q => by
      induction l with
      | nil => intro _; rfl
      | cons x l ih =>
        intro h
        rw [List.countP_cons, ih fun v hv => h v (by simp [hv]), List.map_cons, List.sum_cons, h x (by simp)]
        omega
    refine h2 _ _ _ fun v hv => ?_
    have hv' := List.mem_range.1 hv
    simp only [Function.comp_apply]
    rw [Nat.mul_add_mod, Nat.mod_eq_of_lt hv', Nat.mul_add_div (by omega), Nat.div_eq_of_lt hv', Nat.add_zero]
/-- One after the other they are all. -/
theorem countP_digs (M : Nat) : ∀ (n : Nat) (P : List Int → Bool), (List.range ((M + 1) ^ n)).countP (fun t => P (digs M n t)) = (allL M n).countP P
  | 0, P => by simp [digs, allL]
  | n + 1, P => by
    have h1 := countP_mul (M + 1) (fun v t => P ((v : Int) :: digs M n t)) ((M + 1) ^ n)
    rw [Nat.pow_succ, Nat.mul_comm]
    have h2 : (List.range ((M + 1) * (M + 1) ^ n)).countP (fun t => P (digs M (n + 1) t)) = (List.range ((M + 1) * (M + 1) ^ n)).countP (fun t => P (((t % (M + 1) : Nat) : Int) :: digs M n (t / (M + 1)))) := rfl
    rw [h2, h1, allL, List.countP_flatMap]
    congr 1
    refine List.map_congr_left fun v _ => ?_
    rw [countP_digs M n (fun l => P ((v : Int) :: l)), Function.comp_apply, List.countP_map]
    rfl

def und (M : Nat) : List Int → Nat
  | [] => 0
  | x :: l => x.toNat + (M + 1) * und M l
theorem und_digs (M : Nat) : ∀ (n t : Nat), t < (M + 1) ^ n → und M (digs M n t) = t
  | 0, t, h => by rw [Nat.pow_zero] at h; simp only [digs, und]; omega
  | n + 1, t, h => by
    have hd : t / (M + 1) < (M + 1) ^ n := by
      rw [Nat.pow_succ] at h
      exact Nat.div_lt_of_lt_mul (by rw [Nat.mul_comm]; exact h)
    simp only [digs, und]
    rw [und_digs M n _ hd, Int.toNat_natCast]
    have := Nat.div_add_mod t (M + 1)
    omega
/-- The ints of a block. -/
def cellsL (w : World) (g n : Nat) : List Int := (List.range n).map fun j => match w.cell? ⟨g, j, none⟩ with
  | some (.int _ x) => x
  | _ => 0
theorem cellsL_own {B g c : Nat} {w : World} {zs : List Int} (h : OwnI B w (.slice (some ⟨g, 0, none⟩) zs.length c) zs) : cellsL w g zs.length = zs := by
  refine List.ext_getElem (by simp [cellsL]) fun i h1 h2 => ?_
  obtain ⟨g', c', he, _, hc, _⟩ := h.slot h2
  cases he
  simp only [cellsL, List.getElem_map, List.getElem_range, hc]
  simp [h2]
def mostTo (f : List Int) (k : Nat) : Int := (List.range k).foldl (fun a i => max a (f[i]?.getD 0)) 0
theorem mostTo_succ (f : List Int) (k : Nat) : mostTo f (k + 1) = max (mostTo f k) (f[k]?.getD 0) := by simp [mostTo, List.range_succ]
theorem mostTo_bd {f : List Int} (h : Hts f) : ∀ k, 0 ≤ mostTo f k ∧ mostTo f k ≤ 10000 ∧ ∀ i, i < k → f[i]?.getD 0 ≤ mostTo f k
  | 0 => ⟨Int.le_refl _, by simp [mostTo], fun i hi => absurd hi (by omega)⟩
  | k + 1 => by
    obtain ⟨h1, h2, h3⟩ := mostTo_bd h k
    have h4 := h k
    rw [mostTo_succ]
    refine ⟨by omega, by omega, fun i hi => ?_⟩
    rcases Nat.eq_or_lt_of_le (Nat.le_of_lt_succ hi) with rfl | hi
    · omega
    · have := h3 i hi
      omega
def manyT (M : Nat) (ls ys : List Int) (t : Nat) : Nat := (List.range t).countP fun t' => liftL (digs M ls.length t') ys == ls
theorem manyT_succ (M : Nat) (ls ys : List Int) (t : Nat) : manyT M ls ys (t + 1) = manyT M ls ys t + if liftL (digs M ls.length t) ys == ls then 1 else 0 := by
  unfold manyT
  rw [List.range_succ, List.countP_append]
  simp [List.countP_cons]
theorem manyT_le (M : Nat) (ls ys : List Int) (t : Nat) : manyT M ls ys t ≤ t := by
  have := List.countP_le_length (p := fun t' => liftL (digs M ls.length t') ys == ls) (l := List.range t)
  rw [List.length_range] at this
  exact this
theorem manyT_all (M : Nat) (ls ys : List Int) : manyT M ls ys ((M + 1) ^ ls.length) = allN M ls ys := countP_digs M ls.length (fun f => liftL f ys == ls)
theorem pow_small {M n : Nat} (h : (M ≤ 2 ∧ n ≤ 6) ∨ (M ≤ 4 ∧ n ≤ 4)) : (M + 1) ^ n ≤ 729 := by
  rcases h with ⟨h1, h2⟩ | ⟨h1, h2⟩
  · exact Nat.le_trans (Nat.pow_le_pow_left (show M + 1 ≤ 3 by omega) n) (Nat.le_trans (Nat.pow_le_pow_right (by decide) h2) (by decide))
  · exact Nat.le_trans (Nat.pow_le_pow_left (show M + 1 ≤ 5 by omega) n) (Nat.le_trans (Nat.pow_le_pow_right (by decide) h2) (by decide))
theorem fine_digs {f b : List Int} (h : Fine f b) {M : Nat} (hM : M ≤ 10000) (t : Nat) : Fine (digs M f.length t) b :=
  ⟨by rw [digs_len]; exact h.lo, by rw [digs_len]; exact h.hi, h.odd, by rw [digs_len]; exact h.le, h.le31, fun i => by have := digs_bd M f.length t i; omega, h.hy, h.mid⟩
theorem allN_pos {f b : List Int} (h : Fine f b) {M : Nat} (hM : ∀ i : Nat, f[i]?.getD 0 ≤ (M : Int)) (hM2 : M ≤ 10000) : (0 < allN M f b) ↔ foundB f b = true := by
  constructor
  · intro hp
    refine Classical.byContradiction fun hn => ?_
    rw [allN_none h (fun e => hn (beq_iff_eq.2 e)) M hM2] at hp
    omega
  · intro hf
    rw [allN, List.countP_pos_iff]
    refine ⟨underL f b, allL_mem.2 ⟨underL_len f b, mem_get fun i _ => ⟨(h.under.hx i).1, Int.le_trans (under_le_of h i) (hM i)⟩⟩, hf⟩
end Go.Proofs.Ytaaceadcnnfngaa
