/- Carved surfaces in plain Lean: profiles, depths, heights. No program. -/
import Derived.Test.YtlljhimaopnbfaaGDist
import Derived.Test.YtlljhimaopnbfaaGChk
namespace Go.Proofs.Ytlljhimaopnbfaa
section
/-- A distance is at most far / den. -/
def fitB (q : Int × Int) (den far : Int) : Bool := decide (q.1 * (den * den) ≤ far * far * q.2)
def farAt (tip num den : Int) (i : Nat) : Int := tip * den + (i : Int) * num
def profL (tip num den : Int) (high : Nat) : List Int := (List.range high).map (farAt tip num den)
/-- The depth at a distance. -/
def depN (p : List Int) (q : Int × Int) (den : Int) : Nat := p.length - p.findIdx (fitB q den)
theorem profL_len {tip num den : Int} {high : Nat} : (profL tip num den high).length = high := by simp [profL]
theorem profL_at {tip num den : Int} {high i : Nat} (h : i < (profL tip num den high).length) : (profL tip num den high)[i] = farAt tip num den i := by simp [profL]
theorem dep_found {p : List Int} {q : Int × Int} {den : Int} {i : Nat} (h : i < p.length) (hf : fitB q den p[i] = true) (hn : ∀ (j : Nat) (hj : j < p.length), j < i → fitB q den p[j] = false) : depN p q den = p.length - i := by
  unfold depN
  rw [(List.findIdx_eq h).2 ⟨hf, fun j hj => hn j (by omega) hj⟩]
theorem dep_none {p : List Int} {q : Int × Int} {den : Int} (hn : ∀ (j : Nat) (hj : j < p.length), fitB q den p[j] = false) : depN p q den = 0 := by
  unfold depN
  rw [List.findIdx_eq_length.2 fun x hx => by
    obtain ⟨j, hj, rfl⟩ := List.getElem_of_mem hx
    exact hn j hj]
  omega
theorem dep_le {p : List Int} {q : Int × Int} {den : Int} : depN p q den ≤ p.length := by
  unfold depN
  omega
/-- A cut that is deep at a spot reaches it. -/
theorem dep_pos {p : List Int} {q : Int × Int} {den : Int} (h : 0 < depN p q den) : ∃ (i : Nat) (hi : i < p.length), fitB q den p[i] = true ∧ depN p q den = p.length - i := by
  unfold depN at h ⊢
  have hi : p.findIdx (fitB q den) < p.length := by omega
  exact ⟨_, hi, List.findIdx_getElem, rfl⟩

/-- The reference's way of asking. -/
def reachB (q1 q2 den far : Int) : Bool :=
  if far * far < q1 / q2 ∨ far * far < q1 / q2 * den * den then false else decide (q1 % q2 * den * den ≤ (far * far - q1 / q2 * den * den) * q2)
theorem reach_fit {q1 q2 den far : Int} (h1 : 0 ≤ q1) (h2 : 1 ≤ q2) (hd : 1 ≤ den) : reachB q1 q2 den far = fitB (q1, q2) den far := by
  unfold reachB fitB
  simp only
  have e : q2 * (q1 / q2) + q1 % q2 = q1 := Int.mul_ediv_add_emod ..
  have r0 := Int.emod_nonneg q1 (show q2 ≠ 0 by omega)
  have W0 : 0 ≤ q1 / q2 := Int.ediv_nonneg h1 (by omega)
  generalize far * far = F
  generalize q1 / q2 = W at *
  generalize q1 % q2 = r at *
  have hD : 1 ≤ den * den := by
    have := Int.mul_le_mul hd hd (by omega) (by omega)
    omega
  have e1 : W * den * den = W * (den * den) := Int.mul_assoc ..
  have e2 : r * den * den = r * (den * den) := Int.mul_assoc ..
  rw [e1, e2]
  generalize den * den = D at *
  have hWD : W ≤ W * D := by
    have := Int.mul_le_mul_of_nonneg_left hD W0
    omega
  have e3 : q1 * D = q2 * (W * D) + r * D := by rw [← e, Int.add_mul, Int.mul_assoc]
  have e4 : (F - W * D) * q2 = F * q2 - q2 * (W * D) := by rw [Int.sub_mul, Int.mul_comm (W * D)]
  have hrD : 0 ≤ r * D := Int.mul_nonneg r0 (by omega)
  rw [e3, e4]
  by_cases h : F < W * D
  · rw [if_pos (.inr h)]
    have h5 : q2 * (F + 1) ≤ q2 * (W * D) := Int.mul_le_mul_of_nonneg_left h (by omega)
    rw [Int.mul_add, Int.mul_one, Int.mul_comm q2 F] at h5
    rw [eq_comm, decide_eq_false_iff_not]
    omega
  · rw [if_neg (by omega)]
    rw [decide_eq_decide]
    omega

/-- The greatest depth of a cut. -/
def hiC (k : WkT) (c : CutT) : Int := highOf k.bite k.slack c.2.1
def profC (k : WkT) (c : CutT) : List Int := profL k.tip k.num k.den (hiC k c).toNat
/-- How deep a cut is at a spot. -/
def deepC (k : WkT) (c : CutT) (s : Int × Int) : Nat := depN (profC k c) (distP [s] c.1) k.den
def deepUp (k : WkT) (s : Int × Int) : Nat → Nat
  | 0 => 0
  | j + 1 => max (deepUp k s j) (deepC k (k.cuts[j]?.getD ([], 0, false)) s)
/-- The height at a spot. -/
def carvC (k : WkT) (s : Int × Int) : Int := -(deepUp k s k.cuts.length : Int)
def pointC (fx fy p : Int) (W : Nat) (i : Nat) : Int × Int := (fx + ((i % W : Nat) : Int) * p, fy + ((i / W : Nat) : Int) * p)
def carvL (k : WkT) (fx fy p : Int) (W H : Nat) : List Int := (List.range (W * H)).map fun i => carvC k (pointC fx fy p W i)
def argsB (fx fy p W H : Int) : Bool := (inB (-10000) 10000 fx && inB (-10000) 10000 fy) && inB 1 100 p && (inB 2 24 W && inB 2 24 H)
def lowB (k : WkT) : Bool := k.cuts.all fun c => decide (hiC k c ≤ 100)
def endB (fx fy p W H : Int) : Bool := inB (-10000) 10000 (fx + (W - 1) * p) && inB (-10000) 10000 (fy + (H - 1) * p)
def carveE (k : WkT) (fx fy p W H : Int) : Int := if workB k then (if argsB fx fy p W H && lowB k then (if endB fx fy p W H then 0 else 6) else 2) else 51
def ifOk (e x : Int) : Int := if e = 0 then x else 0
def carveL (k : WkT) (fx fy p W H : Int) : List Int := if carveE k fx fy p W H = 0 then carvL k fx fy p W.toNat H.toNat else []

theorem workB_iff {k : WkT} : workB k = true ↔ toolB k.tip k.num k.den k.bite k.slack = true ∧ fieldsB k = true ∧ k.cuts.length ≤ 16 ∧ ∀ c ∈ k.cuts, cutB c = true := by
  unfold workB
  rw [Bool.and_eq_true, Bool.and_eq_true, Bool.and_eq_true, decide_eq_true_eq, List.all_eq_true, and_assoc]
theorem cutB_iff {c : CutT} : cutB c = true ↔ lineB c.1 = true ∧ 0 ≤ c.2.1 ∧ c.2.1 ≤ 1000 := by
  unfold cutB
  rw [Bool.and_eq_true, inB_iff]
theorem argsB_iff {fx fy p W H : Int} : argsB fx fy p W H = true ↔ (-10000 ≤ fx ∧ fx ≤ 10000) ∧ (-10000 ≤ fy ∧ fy ≤ 10000) ∧ (1 ≤ p ∧ p ≤ 100) ∧ (2 ≤ W ∧ W ≤ 24) ∧ 2 ≤ H ∧ H ≤ 24 := by
  unfold argsB
  simp only [Bool.and_eq_true, inB_iff, and_assoc]
theorem endB_iff {fx fy p W H : Int} : endB fx fy p W H = true ↔ (-10000 ≤ fx + (W - 1) * p ∧ fx + (W - 1) * p ≤ 10000) ∧ -10000 ≤ fy + (H - 1) * p ∧ fy + (H - 1) * p ≤ 10000 := by
  unfold endB
  rw [Bool.and_eq_true, inB_iff, inB_iff]
theorem hi_bd {k : WkT} {c : CutT} (ht : toolB k.tip k.num k.den k.bite k.slack = true) (hc : cutB c = true) : 0 ≤ hiC k c ∧ hiC k c ≤ 11000 := by
  obtain ⟨-, -, -, -, ⟨b1, b2⟩, s1, s2⟩ := toolB_iff.1 ht
  obtain ⟨-, p1, p2⟩ := cutB_iff.1 hc
  have h := mul_bd p1 p2 (show 0 ≤ k.bite by omega) b2
  unfold hiC highOf
  omega
theorem carveE_zero {k : WkT} {fx fy p W H : Int} : carveE k fx fy p W H = 0 ↔ workB k = true ∧ argsB fx fy p W H = true ∧ lowB k = true ∧ endB fx fy p W H = true := by
  unfold carveE
  cases workB k <;> cases argsB fx fy p W H <;> cases lowB k <;> cases endB fx fy p W H <;> simp
/-- The spots of the points. -/
theorem point_in {fx fy p : Int} {W H i : Nat} (ha : argsB fx fy p W H = true) (he : endB fx fy p W H = true) (hi : i < W * H) :
    (-10000 ≤ (pointC fx fy p W i).1 ∧ (pointC fx fy p W i).1 ≤ 10000) ∧ -10000 ≤ (pointC fx fy p W i).2 ∧ (pointC fx fy p W i).2 ≤ 10000 := by
  obtain ⟨⟨a1, a2⟩, ⟨a3, a4⟩, ⟨a5, a6⟩, ⟨a7, a8⟩, a9, a10⟩ := argsB_iff.1 ha
  obtain ⟨⟨e1, e2⟩, e3, e4⟩ := endB_iff.1 he
  have hw : i % W < W := Nat.mod_lt _ (by omega)
  have hh : i / W < H := Nat.div_lt_of_lt_mul hi
  have m1 : 0 ≤ ((i % W : Nat) : Int) * p := Int.mul_nonneg (Int.natCast_nonneg _) (by omega)
  have m2 : ((i % W : Nat) : Int) * p ≤ ((W : Int) - 1) * p := Int.mul_le_mul_of_nonneg_right (by omega) (by omega)
  have m3 : 0 ≤ ((i / W : Nat) : Int) * p := Int.mul_nonneg (Int.natCast_nonneg _) (by omega)
  have m4 : ((i / W : Nat) : Int) * p ≤ ((H : Int) - 1) * p := Int.mul_le_mul_of_nonneg_right (by omega) (by omega)
  unfold pointC
  simp only
  generalize ((i % W : Nat) : Int) * p = x at *
  generalize ((i / W : Nat) : Int) * p = y at *
  omega
theorem point_line {fx fy p : Int} {W H i : Nat} (ha : argsB fx fy p W H = true) (he : endB fx fy p W H = true) (hi : i < W * H) : lineB [pointC fx fy p W i] = true := by
  rw [lineB_iff]
  refine ⟨fun s hs => ?_, by simp, by simp⟩
  rw [List.mem_singleton] at hs
  subst hs
  exact point_in ha he hi
theorem lowF_bdC {n d : Int} (h0 : 0 ≤ n) (h1 : 1 ≤ d) : (0 ≤ (lowF n d).1 ∧ (lowF n d).1 ≤ n) ∧ 1 ≤ (lowF n d).2 ∧ (lowF n d).2 ≤ d := by
  unfold lowF
  have hg : 0 < (Int.gcd n d : Int) := by
    have : Int.gcd n d ≠ 0 := fun e => by
      rw [Int.gcd_eq_zero_iff] at e
      omega
    omega
  have hd : (Int.gcd n d : Int) ∣ d := Int.gcd_dvd_right n d
  refine ⟨⟨Int.ediv_nonneg h0 (by omega), Int.ediv_le_self _ h0⟩, ?_, Int.ediv_le_self _ (by omega)⟩
  obtain ⟨c, hc⟩ := hd
  have : d / (Int.gcd n d : Int) = c := by
    conv => lhs; lhs; rw [hc]
    exact Int.mul_ediv_cancel_left _ (by omega)
  rw [this]
  have h2 : 0 < (Int.gcd n d : Int) * c := by omega
  exact Int.pos_of_mul_pos_right h2 (by omega)
theorem dist_bd {xs ys : List (Int × Int)} (hx : lineB xs = true) (hy : lineB ys = true) : distP xs ys = lowF (farL xs ys).1 (farL xs ys).2 ∧ (0 ≤ (distP xs ys).1 ∧ (distP xs ys).1 ≤ 937024000000000000) ∧ 1 ≤ (distP xs ys).2 ∧ (distP xs ys).2 ≤ 968000000 := by
  have h := (far_eq (lineB_co hx) (lineB_co hy)).1
  have e : distP xs ys = lowF (farL xs ys).1 (farL xs ys).2 := by
    unfold distP
    rw [hx, hy]
    rfl
  have hb := lowF_bdC h.n0 h.d0
  have := h.n1
  have := h.d1
  rw [e]
  exact ⟨rfl, by omega, by omega⟩
theorem deepUp_step {k : WkT} {s : Int × Int} {j : Nat} (h : j < k.cuts.length) : deepUp k s (j + 1) = max (deepUp k s j) (deepC k k.cuts[j] s) := by
  show max _ (deepC k (k.cuts[j]?.getD ([], 0, false)) s) = _
  rw [List.getElem?_eq_getElem h]
  rfl
theorem deepC_le {k : WkT} {c : CutT} {s : Int × Int} : deepC k c s ≤ (hiC k c).toNat := by
  unfold deepC
  refine Nat.le_trans dep_le ?_
  unfold profC
  rw [profL_len]
  exact Nat.le_refl _
/-- The heights while they are carved: the first i points, and of the next one the first j cuts. -/
def carvTo (k : WkT) (fx fy p : Int) (W N i j : Nat) : List Int := (List.range N).map fun q => if q < i then carvC k (pointC fx fy p W q) else if q = i then -(deepUp k (pointC fx fy p W q) j : Int) else 0
theorem carvTo_len {k : WkT} {fx fy p : Int} {W N i j : Nat} : (carvTo k fx fy p W N i j).length = N := by simp [carvTo]
theorem carvTo_zero {k : WkT} {fx fy p : Int} {W N : Nat} : carvTo k fx fy p W N 0 0 = List.replicate N 0 := by
  apply List.ext_getElem
  · simp [carvTo]
  · intro q h1 h2
    simp only [carvTo, List.getElem_map, List.getElem_range, List.getElem_replicate]
    rw [if_neg (by omega)]
    split
    · rfl
    · rfl
theorem carvTo_at {k : WkT} {fx fy p : Int} {W N i j : Nat} (h : i < (carvTo k fx fy p W N i j).length) : (carvTo k fx fy p W N i j)[i] = -(deepUp k (pointC fx fy p W i) j : Int) := by
  simp only [carvTo, List.getElem_map, List.getElem_range]
  rw [if_neg (by omega)]
  simp
theorem carvTo_set {k : WkT} {fx fy p : Int} {W N i j : Nat} : (carvTo k fx fy p W N i j).set i (-(deepUp k (pointC fx fy p W i) (j + 1) : Int)) = carvTo k fx fy p W N i (j + 1) := by
  apply List.ext_getElem
  · simp [carvTo]
  · intro q h1 h2
    rw [List.getElem_set]
    simp only [carvTo, List.getElem_map, List.getElem_range]
    split
    · rename_i e
      subst e
      rw [if_neg (by omega), if_pos rfl]
    · rename_i e
      split
      · rfl
      · rw [if_neg (fun h => e h.symm), if_neg (fun h => e h.symm)]
theorem carvTo_next {k : WkT} {fx fy p : Int} {W N i : Nat} : carvTo k fx fy p W N i k.cuts.length = carvTo k fx fy p W N (i + 1) 0 := by
  apply List.ext_getElem
  · simp [carvTo]
  · intro q h1 h2
    simp only [carvTo, List.getElem_map, List.getElem_range]
    by_cases h : q < i
    · rw [if_pos h, if_pos (by omega)]
    · rw [if_neg h]
      by_cases e : q = i
      · rw [if_pos e, if_pos (by omega)]
        rfl
      · rw [if_neg e, if_neg (by omega)]
        split
        · rfl
        · rfl
theorem carvTo_end {k : WkT} {fx fy p : Int} {W H N : Nat} (h : N = W * H) : carvTo k fx fy p W N N 0 = carvL k fx fy p W H := by
  subst h
  apply List.ext_getElem
  · simp [carvTo, carvL]
  · intro q h1 h2
    have h3 : q < W * H := by simpa [carvL] using h2
    simp only [carvTo, carvL, List.getElem_map, List.getElem_range]
    rw [if_pos h3]
theorem deepUp_le {k : WkT} {s : Int × Int} (h : lowB k = true) : ∀ {j}, j ≤ k.cuts.length → deepUp k s j ≤ 100
  | 0, _ => Nat.zero_le _
  | j + 1, hj => by
    rw [deepUp_step (by omega)]
    have h1 := deepUp_le (s := s) h (j := j) (by omega)
    have h2 := deepC_le (k := k) (c := k.cuts[j]) (s := s)
    have h3 := List.all_eq_true.1 h _ (List.getElem_mem (show j < k.cuts.length by omega))
    rw [decide_eq_true_eq] at h3
    omega
end
end Go.Proofs.Ytlljhimaopnbfaa
