/- Counting: what the walk over windows adds up is a sum over all sets of high steps. No program. -/
import Derived.Test.YtaaceadcnnfngaaCRange
import Derived.Test.YtaaceadcnnfngaaRGal
namespace Go.Proofs.Ytaaceadcnnfngaa

def upd (h : Nat → Bool) (k : Nat) (b : Bool) : Nat → Bool := fun i => if i = k then b else h i
theorem upd_old {h : Nat → Bool} {k i : Nat} {b : Bool} (hi : i < k) : upd h k b i = h i := by rw [upd, if_neg (by omega)]
theorem upd_new {h : Nat → Bool} {k : Nat} {b : Bool} : upd h k b k = b := by simp [upd]
/-- The sum over all choices from step k on: a step that is high weighs 1, one that is not as much as there is below it. -/
def sumH (gs : List Int) (F : (Nat → Bool) → Int) : Nat → Nat → (Nat → Bool) → Int
  | 0, _, h => F h
  | f + 1, k, h => sumH gs F f (k + 1) (upd h k true) + gs[k]?.getD 0 * sumH gs F f (k + 1) (upd h k false)
theorem sumH_congr {gs : List Int} {F F' : (Nat → Bool) → Int} : ∀ (f k : Nat) (h : Nat → Bool), (∀ h', (∀ i, i < k → h' i = h i) → F h' = F' h') → sumH gs F f k h = sumH gs F' f k h
  | 0, k, h, H => H h (fun _ _ => rfl)
  | f + 1, k, h, H => by
    have e : ∀ b, sumH gs F f (k + 1) (upd h k b) = sumH gs F' f (k + 1) (upd h k b) := fun b =>
      sumH_congr f (k + 1) _ fun h' hh => H h' fun i hi => by rw [hh i (by omega), upd_old hi]
    rw [sumH, sumH, e, e]
theorem sumH_zero {gs : List Int} : ∀ (f k : Nat) (h : Nat → Bool), sumH gs (fun _ => 0) f k h = 0
  | 0, k, h => rfl
  | f + 1, k, h => by rw [sumH, sumH_zero, sumH_zero]; simp
theorem sumH_if {gs : List Int} {F : (Nat → Bool) → Int} {c : Bool} (f k : Nat) (h : Nat → Bool) : sumH gs (fun h' => if c then F h' else 0) f k h = if c then sumH gs F f k h else 0 := by
  cases c
  · simpa using sumH_zero f k h
  · rfl

section
variable (gs ls ys : List Int)
/-- Where the rubber's first drop lies at q less its length, it touches a high step. -/
def tst (h : Nat → Bool) (q : Nat) : Bool := (List.range ys.length).any fun j => (tbAt gs ls ys q).testBit j && h ((q + j - (ys.length - 1)) % ls.length)
def restOk (h : Nat → Bool) (k : Nat) : Bool := (List.range (ls.length + (ys.length - 1))).all fun q => decide (q < k) || decide (q < ys.length - 1) || tst gs ls ys h q
def restG (k : Nat) (h : Nat → Bool) : Int := if restOk gs ls ys h k then 1 else 0
end

section
variable {gs ls ys : List Int}
theorem restOk_iff {h : Nat → Bool} {k : Nat} : restOk gs ls ys h k = true ↔ ∀ q, k ≤ q → ys.length - 1 ≤ q → q < ls.length + (ys.length - 1) → tst gs ls ys h q = true := by
  simp only [restOk, List.all_eq_true, List.mem_range, Bool.or_eq_true, decide_eq_true_eq]
  constructor
  · intro H q h1 h2 h3
    rcases H q h3 with (h | h) | h
    · omega
    · omega
    · exact h
  · intro H q h3
    by_cases h1 : q < k
    · exact .inl (.inl h1)
    · by_cases h2 : q < ys.length - 1
      · exact .inl (.inr h2)
      · exact .inr (H q (by omega) (by omega) h3)
theorem restOk_low {h : Nat → Bool} {k : Nat} (hk : k < ys.length - 1) : restOk gs ls ys h k = restOk gs ls ys h (k + 1) := by
  rw [Bool.eq_iff_iff, restOk_iff, restOk_iff]
  exact ⟨fun H q h1 => H q (by omega), fun H q h1 h2 => H q (by omega) h2⟩
theorem restOk_step {h : Nat → Bool} {k : Nat} (hk : ys.length - 1 ≤ k) (hl : k < ls.length + (ys.length - 1)) : restOk gs ls ys h k = (tst gs ls ys h k && restOk gs ls ys h (k + 1)) := by
  rw [Bool.eq_iff_iff, Bool.and_eq_true, restOk_iff, restOk_iff]
  exact ⟨fun H => ⟨H k (Nat.le_refl _) hk hl, fun q h1 => H q (by omega)⟩, fun ⟨H1, H2⟩ q h1 h2 h3 => by
    rcases Nat.eq_or_lt_of_le h1 with rfl | h1
    · exact H1
    · exact H2 q h1 h2 h3⟩

/-- The windows after q steps. -/
structure WinI (n m q : Nat) (h : Nat → Bool) (fa lb : Nat) : Prop where
  fl : fa < 2 ^ m
  ll : lb < 2 ^ m
  ft : ∀ j, j < m → fa.testBit j = (decide (j < q) && h j)
  lt : ∀ j, j < m → lb.testBit j = (decide (m ≤ q + j) && h ((q + j - m) % n))
theorem WinI.zero (n m : Nat) (h : Nat → Bool) : WinI n m 0 h 0 0 :=
  ⟨Nat.two_pow_pos _, Nat.two_pow_pos _, fun j _ => by simp, fun j hj => by simp; omega⟩
theorem WinI.congr {n m q : Nat} {h h' : Nat → Bool} {fa lb : Nat} (W : WinI n m q h fa lb) (hq : q ≤ n) (e : ∀ i, i < q → h' i = h i) : WinI n m q h' fa lb :=
  ⟨W.fl, W.ll, fun j hj => by
    rw [W.ft j hj]
    by_cases hq' : j < q
    · rw [e j hq']
    · simp [hq'], fun j hj => by
    rw [W.lt j hj]
    by_cases hq' : m ≤ q + j
    · rw [Nat.mod_eq_of_lt (by omega), e _ (by omega)]
    · simp [hq']⟩
theorem toNat_le (b : Bool) : b.toNat ≤ 1 := by cases b <;> decide
theorem bit_mul {b : Bool} {q j : Nat} : (b.toNat * 2 ^ q).testBit j = (decide (j = q) && b) := by
  rw [Nat.testBit_mul_two_pow]
  cases b
  · simp
  · by_cases h : q ≤ j
    · by_cases h2 : j = q
      · subst h2; simp
      · have : 0 < j - q := by omega
        simp [h2]
        intro _
        rw [Nat.testBit_eq_decide_div_mod_eq, Nat.div_eq_of_lt]
        · rfl
        · exact Nat.one_lt_two_pow (by omega)
    · simp [h]; omega
theorem bitsX_bit {m lb : Nat} {b : Bool} (hl : lb < 2 ^ m) (j : Nat) : (bitsX m b.toNat lb).testBit j = if j = m then b else lb.testBit j := by
  rw [bitsX, Nat.testBit_or, bit_mul]
  split
  · rename_i h
    subst h
    rw [Nat.testBit_lt_two_pow hl]
    simp
  · rename_i h
    simp [h]
theorem bitsX_lt {m lb : Nat} {b : Bool} (hl : lb < 2 ^ m) : bitsX m b.toNat lb < 2 ^ (m + 1) := by
  unfold bitsX
  refine Nat.or_lt_two_pow (Nat.lt_of_lt_of_le hl (Nat.pow_le_pow_right (by decide) (by omega))) ?_
  have := Nat.mul_le_mul_right (2 ^ m) (toNat_le b)
  have := Nat.two_pow_pos m
  rw [Nat.pow_succ]
  omega
theorem WinI.step {n m q : Nat} {h : Nat → Bool} {fa lb : Nat} (W : WinI n m q h fa lb) (hm : m < n) (hq : q < n + m) {b : Bool} (hb : b = h (q % n)) : WinI n m (q + 1) h (stepA m q b.toNat fa) (stepB m b.toNat lb) := by
  refine ⟨?_, ?_, fun j hj => ?_, fun j hj => ?_⟩
  · unfold stepA
    split
    · rename_i h1
      refine Nat.or_lt_two_pow W.fl (Nat.lt_of_le_of_lt (Nat.mul_le_mul_right _ (toNat_le b)) ?_)
      rw [Nat.one_mul]
      exact Nat.pow_lt_pow_right (by decide) h1
    · exact W.fl
  · have := bitsX_lt (b := b) W.ll
    unfold stepB
    rw [Nat.pow_succ] at this
    omega
  · unfold stepA
    split
    · rename_i h1
      rw [Nat.testBit_or, bit_mul, W.ft j hj]
      by_cases h2 : j = q
      · subst h2
        rw [Nat.mod_eq_of_lt (by omega)] at hb
        simp [hb]
      · by_cases h3 : j < q
        · simp [h2, h3, show j < q + 1 by omega]
        · simp [h2, h3, show ¬ j < q + 1 by omega]
    · rename_i h1
      rw [W.ft j hj]
      simp [show j < q by omega, show j < q + 1 by omega]
  · rw [stepB, Nat.testBit_div_two, bitsX_bit W.ll]
    by_cases h1 : j + 1 = m
    · rw [if_pos h1, hb, show q + 1 + j - m = q by omega]
      simp; omega
    · rw [if_neg h1, W.lt (j + 1) (by omega), show q + 1 + j = q + (j + 1) by omega]

theorem and_ne_zero {x y M : Nat} (hx : x < 2 ^ M) : (x &&& y) ≠ 0 ↔ ∃ j, j < M ∧ x.testBit j = true ∧ y.testBit j = true := by
  constructor
  · intro h
    obtain ⟨j, hj⟩ := Nat.exists_testBit_of_ne_zero h
    rw [Nat.testBit_and, Bool.and_eq_true] at hj
    refine ⟨j, ?_, hj.1, hj.2⟩
    rcases Nat.lt_or_ge j M with h1 | h1
    · exact h1
    · have := Nat.testBit_lt_two_pow (Nat.lt_of_lt_of_le hx (Nat.pow_le_pow_right (by decide) h1))
      rw [this] at hj
      exact absurd hj.1 (by decide)
  · intro ⟨j, _, h1, h2⟩ h0
    have : (x &&& y).testBit j = true := by rw [Nat.testBit_and, h1, h2]; rfl
    rw [h0] at this
    simp at this
theorem okX_low {q h lb : Nat} (hq : q < ys.length - 1) : okX gs ls ys q h lb = true := by
  simp [okX, show ¬ ys.length - 1 ≤ q by omega]
theorem okX_tst {q fa lb : Nat} {h : Nat → Bool} (hy : 1 ≤ ys.length) (hq : ys.length - 1 ≤ q) (W : WinI ls.length (ys.length - 1) q h fa lb) {b : Bool} (hb : b = h (q % ls.length)) : okX gs ls ys q b.toNat lb = tst gs ls ys h q := by
  have htb : tbAt gs ls ys q < 2 ^ ys.length := touchB_lt _ _ _ _
  rw [Bool.eq_iff_iff]
  have e1 : okX gs ls ys q b.toNat lb = true ↔ (tbAt gs ls ys q &&& bitsX (ys.length - 1) b.toNat lb) ≠ 0 := by simp [okX, hq]
  rw [e1, and_ne_zero htb]
  simp only [tst, List.any_eq_true, List.mem_range, Bool.and_eq_true]
  refine exists_congr fun j => and_congr_right fun hj => and_congr_right fun _ => ?_
  rw [bitsX_bit W.ll]
  split
  · rename_i h1
    rw [hb, h1, show q + (ys.length - 1) - (ys.length - 1) = q by omega]
  · rename_i h1
    rw [W.lt j (by omega)]
    simp [show ys.length - 1 ≤ q + j by omega]

theorem cnt_tail (hy : 1 ≤ ys.length) (hl : ys.length ≤ ls.length) {h : Nat → Bool} : ∀ (f k fa lb : Nat), f + k = ls.length + (ys.length - 1) → ls.length ≤ k → WinI ls.length (ys.length - 1) k h fa lb →
    cntV gs ls ys f k fa lb = restG gs ls ys k h
  | 0, k, fa, lb, hk, _, _ => by
    have : restOk gs ls ys h k = true := restOk_iff.2 fun q h1 h2 h3 => by omega
    rw [cntV, restG, if_pos this]
  | f + 1, k, fa, lb, hk, hn, W => by
    have hkn : k % ls.length = k - ls.length := by
      rw [Nat.mod_eq_sub_mod hn, Nat.mod_eq_of_lt (by omega)]
    have hb : fa / 2 ^ (k - ls.length) % 2 = (h (k % ls.length)).toNat := by
      have h1 := W.ft (k - ls.length) (by omega)
      rw [Nat.testBit_eq_decide_div_mod_eq] at h1
      rw [hkn]
      cases hh : h (k - ls.length)
      · rw [hh] at h1
        simp at h1
        simp; omega
      · rw [hh] at h1
        simp [show k - ls.length < k by omega] at h1
        simpa using h1
    rw [cntV, if_pos hn, hb, cntA, cnt_tail hy hl f (k + 1) _ _ (by omega) (by omega) (W.step (by omega) (by omega) rfl), okX_tst hy (by omega) W rfl, restG, restG, restOk_step (k := k) (by omega) (by omega)]
    cases tst gs ls ys h k <;> simp
theorem cnt_head (hy : 1 ≤ ys.length) (hl : ys.length ≤ ls.length) : ∀ (r k fa lb : Nat) (h : Nat → Bool), r + k = ls.length → WinI ls.length (ys.length - 1) k h fa lb →
    cntV gs ls ys (r + (ys.length - 1)) k fa lb = sumH gs (restG gs ls ys k) r k h
  | 0, k, fa, lb, h, hk, W => by rw [Nat.zero_add, sumH]; exact cnt_tail hy hl _ k fa lb (by omega) (by omega) W
  | r + 1, k, fa, lb, h, hk, W => by
    have hone : ∀ b : Bool, cntA gs ls ys k b.toNat fa lb (cntV gs ls ys (r + (ys.length - 1)) (k + 1)) = sumH gs (restG gs ls ys k) r (k + 1) (upd h k b) := fun b => by
      have W1 : WinI ls.length (ys.length - 1) k (upd h k b) fa lb := W.congr (by omega) fun i hi => upd_old hi
      have hb : b = upd h k b (k % ls.length) := by rw [Nat.mod_eq_of_lt (by omega), upd_new]
      have W2 := W1.step (by omega) (by omega) hb
      rw [cntA, cnt_head hy hl r (k + 1) _ _ _ (by omega) W2, ← sumH_if]
      refine sumH_congr r (k + 1) _ fun h' hh => ?_
      have W3 : WinI ls.length (ys.length - 1) k h' fa lb := W.congr (by omega) fun i hi => by rw [hh i (by omega), upd_old hi]
      by_cases hm : ys.length - 1 ≤ k
      · have hb3 : b = h' (k % ls.length) := by rw [Nat.mod_eq_of_lt (by omega), hh k (by omega), upd_new]
        rw [okX_tst hy hm W3 hb3, restG, restG, restOk_step (k := k) hm (by omega)]
        cases tst gs ls ys h' k <;> simp
      · rw [okX_low (by omega), restG, restG, restOk_low (k := k) (by omega)]
        simp
    rw [show r + 1 + (ys.length - 1) = (r + (ys.length - 1)) + 1 by omega, cntV, if_neg (by omega), sumH]
    have h1 := hone true
    have h0 := hone false
    simp only [Bool.toNat_true, Bool.toNat_false] at h1 h0
    rw [h1, h0]

/-- From each step the rubber touches one that is high. -/
def covB (gs ls ys : List Int) (h : Nat → Bool) : Bool := (List.range ls.length).all fun p => (List.range ys.length).any fun j =>
  decide (askOf gs ys ys.length p j = ls[p]?.getD 0) && h (plc ls.length p ((j : Int) - (ys.length : Int) / 2))
theorem covB_iff {h : Nat → Bool} : covB gs ls ys h = true ↔ ∀ p, p < ls.length → ∃ j, j < ys.length ∧ askOf gs ys ys.length p j = ls[p]?.getD 0 ∧ h (plc ls.length p ((j : Int) - (ys.length : Int) / 2)) = true := by
  simp [covB]
theorem tBits_bit {xs zs : List Int} {m p : Nat} {most : Int} (j : Nat) : ∀ pre : List Nat, (tBits xs zs m p most pre).testBit j = pre.any fun i => decide (askOf xs zs m p i = most) && decide (min i m = j) := by
  intro pre
  generalize hr : pre.reverse = rp
  induction rp generalizing pre with
  | nil => obtain rfl : pre = [] := by simpa using hr
           simp [tBits]
  | cons x rp ih =>
    obtain rfl : pre = rp.reverse ++ [x] := by rw [← List.reverse_reverse pre, hr]; simp
    rw [tBits_snoc, List.any_append]
    by_cases h : askOf xs zs m p x = most
    · rw [if_pos h, Nat.testBit_or, ih rp.reverse (by simp), Nat.testBit_two_pow]
      simp [h]
    · rw [if_neg h, ih rp.reverse (by simp)]
      simp [h]
theorem touchB_bit (xs zs : List Int) (p : Nat) (most : Int) (j : Nat) : (touchB xs zs p most).testBit j = (decide (j < zs.length) && decide (askOf xs zs zs.length p j = most)) := by
  rw [touchB, tBits_bit, Bool.eq_iff_iff]
  simp only [List.any_eq_true, List.mem_range, Bool.and_eq_true, decide_eq_true_eq]
  constructor
  · rintro ⟨i, hi, h1, h2⟩
    rw [Nat.min_eq_left (by omega)] at h2
    subst h2
    exact ⟨hi, h1⟩
  · rintro ⟨h1, h2⟩
    exact ⟨j, h1, h2, Nat.min_eq_left (by omega)⟩
theorem tst_plc {h : Nat → Bool} {q : Nat} (ho : ys.length % 2 = 1) (hn : 1 ≤ ls.length) (hq : ys.length - 1 ≤ q) : tst gs ls ys h q = true ↔ ∃ j, j < ys.length ∧ askOf gs ys ys.length (midAt ls ys q) j = ls[midAt ls ys q]?.getD 0 ∧ h (plc ls.length (midAt ls ys q) ((j : Int) - (ys.length : Int) / 2)) = true := by
  simp only [tst, List.any_eq_true, List.mem_range, Bool.and_eq_true]
  refine exists_congr fun j => and_congr_right fun hj => ?_
  rw [tbAt, touchB_bit, decide_eq_true hj, Bool.true_and, decide_eq_true_eq]
  refine and_congr_right fun _ => ?_
  have e : (q + j - (ys.length - 1)) % ls.length = plc ls.length (midAt ls ys q) ((j : Int) - (ys.length : Int) / 2) := by
    have h1 : midAt ls ys q = plc ls.length q (-(((ys.length : Int) - 1) / 2)) := by unfold midAt plc; rw [Int.sub_eq_add_neg]
    rw [h1, plc_plc hn]
    have h2 : -(((ys.length : Int) - 1) / 2) + ((j : Int) - (ys.length : Int) / 2) = (j : Int) - ((ys.length - 1 : Nat) : Int) := by omega
    rw [h2]
    unfold plc
    have h3 : (q : Int) + ((j : Int) - ((ys.length - 1 : Nat) : Int)) = ((q + j - (ys.length - 1) : Nat) : Int) := by omega
    rw [h3, ← Int.natCast_emod]
    rfl
  rw [e]
theorem midAt_lt (hn : 1 ≤ ls.length) (q : Nat) : midAt ls ys q < ls.length := by
  have h1 : midAt ls ys q = plc ls.length q (-(((ys.length : Int) - 1) / 2)) := by unfold midAt plc; rw [Int.sub_eq_add_neg]
  rw [h1]; exact plc_lt hn
theorem midAt_of {p : Nat} (hp : p < ls.length) (hl : ys.length ≤ ls.length) (ho : ys.length % 2 = 1) : ∃ q, ys.length - 1 ≤ q ∧ q < ls.length + (ys.length - 1) ∧ midAt ls ys q = p := by
  by_cases h : (ys.length - 1) / 2 ≤ p
  · refine ⟨p + (ys.length - 1) / 2, by omega, by omega, ?_⟩
    unfold midAt
    rw [show ((p + (ys.length - 1) / 2 : Nat) : Int) - ((ys.length : Int) - 1) / 2 = p by omega, Int.emod_eq_of_lt (by omega) (by omega)]
    rfl
  · refine ⟨p + (ys.length - 1) / 2 + ls.length, by omega, by omega, ?_⟩
    unfold midAt
    rw [show ((p + (ys.length - 1) / 2 + ls.length : Nat) : Int) - ((ys.length : Int) - 1) / 2 = p + ls.length by omega, Int.add_emod_right, Int.emod_eq_of_lt (by omega) (by omega)]
    rfl
theorem rest_cov {h : Nat → Bool} (ho : ys.length % 2 = 1) (hn : 1 ≤ ls.length) (hl : ys.length ≤ ls.length) : restOk gs ls ys h 0 = covB gs ls ys h := by
  rw [Bool.eq_iff_iff, restOk_iff, covB_iff]
  constructor
  · intro H p hp
    obtain ⟨q, h1, h2, rfl⟩ := midAt_of hp hl ho
    exact (tst_plc ho hn h1).1 (H q (by omega) h1 h2)
  · intro H q _ h1 h2
    exact (tst_plc ho hn h1).2 (H _ (midAt_lt hn q))
def covG (gs ls ys : List Int) (h : Nat → Bool) : Int := if covB gs ls ys h then 1 else 0
/-- What the walk over the windows counts: a sum over all sets of high steps. -/
theorem cnt_sum (ho : ys.length % 2 = 1) (hl : ys.length ≤ ls.length) : cntV gs ls ys (ls.length + (ys.length - 1)) 0 0 0 = sumH gs (covG gs ls ys) ls.length 0 (fun _ => false) := by
  rw [cnt_head (by omega) hl ls.length 0 0 0 (fun _ => false) (by omega) (WinI.zero _ _ _)]
  refine sumH_congr _ _ _ fun h' _ => ?_
  rw [restG, covG, rest_cov ho (by omega) hl]
end
end Go.Proofs.Ytaaceadcnnfngaa
