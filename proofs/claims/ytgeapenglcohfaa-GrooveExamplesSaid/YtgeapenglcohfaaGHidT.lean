/- A table of costs in one block: read, stored, made. No condition. -/
import Derived.Test.YtgeapenglcohfaaLay
import Derived.Test.YtgeapenglcohfaaGSegs
import Derived.Test.YtgeapenglcohfaaQS
import Derived.Test.YtgeapenglcohfaaGApart
namespace Go.Proofs.Ytgeapenglcohfaa
section
/- GHid: groove's costs and slips: before, plus, at, around. Conditions: bounds. -/
section
/- GHidP: How a slip is hidden, in plain Lean: the program's costs, the reference's, and that both choose the same. No program. -/

/-- Costs: how many, the sum, and whether there are none. The reference's third tells that there are some. -/
abbrev Cst := Int × Int × Bool
def befC (a b : Cst) : Bool := if a.2.2 || b.2.2 then b.2.2 && !a.2.2 else if a.1 ≠ b.1 then decide (a.1 < b.1) else decide (a.2.1 < b.2.1)
def plusC (a : Cst) (n : Int) : Cst := if n = 0 then a else (a.1 + 1, a.2.1 + max n (-n), a.2.2)
def noneC : Cst := (0, 0, true)
def fewC (a b : Cst) : Bool := if !a.2.2 || !b.2.2 then a.2.2 else decide (a.1 < b.1) || (decide (a.1 = b.1) && decide (a.2.1 < b.2.1))
def moreC (a : Cst) (n : Int) : Cst := (if n = 0 then a.1 else a.1 + 1, a.2.1 + max n (-n), a.2.2)

/-- The slips around one. -/
def loA (n most : Int) : Int := max (n - most) (-20)
def cntA (n most : Int) : Nat := (min (n + most) 20 - max (n - most) (-20) + 1).toNat

/-- The best of the slips lo, lo + 1, ..: its costs, and which. -/
def pickTo (f : Int → Cst) (lo : Int) : Nat → Cst × Int
  | 0 => (noneC, 0)
  | k + 1 => if befC (f (lo + k)) (pickTo f lo k).1 then (f (lo + k), lo + k) else pickTo f lo k
/-- What a slip costs with r cuts after it. -/
def rowF (made most : Int) : Nat → Int → Cst
  | 0, n => (0, 0, decide (n ≠ made))
  | r + 1, n => plusC (pickTo (rowF made most r) (loA n most) (cntA n most)).1 n
/-- The slips so far, and the last one. -/
def hideTo (made most : Int) (left : Nat) (last : Int) : Nat → Option (List Int × Int)
  | 0 => some ([], last)
  | i + 1 => (hideTo made most left last i).bind fun x => if (pickTo (rowF made most (left - i)) (loA x.2 most) (cntA x.2 most)).1.2.2 then none else some (x.1 ++ [(pickTo (rowF made most (left - i)) (loA x.2 most) (cntA x.2 most)).2], (pickTo (rowF made most (left - i)) (loA x.2 most) (cntA x.2 most)).2)

/-- The reference's. -/
def nearR (n s most : Int) : Bool := decide (max (n - s) (-(n - s)) ≤ most)
def rowTo (f : Int → Cst) (s most : Int) : Nat → Cst
  | 0 => (0, 0, false)
  | k + 1 => if nearR (-20 + k) s most && (f (-20 + k)).2.2 then (if fewC (moreC (f (-20 + k)) s) (rowTo f s most k) then moreC (f (-20 + k)) s else rowTo f s most k) else rowTo f s most k
def rowR (made most : Int) : Nat → Int → Cst
  | 0, s => (0, 0, decide (s = made))
  | r + 1, s => rowTo (rowR made most r) s most 41
def pickDn (f : Int → Cst) (la most : Int) : Nat → Int
  | 0 => -21
  | k + 1 => if nearR (20 - k) la most && (f (20 - k)).2.2 && (decide (pickDn f la most k < -20) || !fewC (f (pickDn f la most k)) (f (20 - k))) then 20 - k else pickDn f la most k
def hideR (made most : Int) (left : Nat) (last : Int) : Nat → Option (List Int × Int)
  | 0 => some ([], last)
  | i + 1 => (hideR made most left last i).bind fun x => if pickDn (rowR made most (left - i)) x.2 most 41 < -20 then none else some (if i < left then x.1 ++ [pickDn (rowR made most (left - i)) x.2 most 41] else x.1, pickDn (rowR made most (left - i)) x.2 most 41)

/-- Less costs. -/
def Lex (a b : Cst) : Prop := a.1 < b.1 ∨ (a.1 = b.1 ∧ a.2.1 < b.2.1)
theorem befC_iff {a b : Cst} (ha : a.2.2 = false) (hb : b.2.2 = false) : befC a b = true ↔ Lex a b := by
  unfold befC Lex
  rw [ha, hb]
  simp only [Bool.or_self, Bool.false_eq_true, if_false]
  split <;> simp only [decide_eq_true_eq] <;> omega
theorem befC_none {a b : Cst} (ha : a.2.2 = true) : befC a b = false := by
  simp [befC, ha]
theorem befC_first {a b : Cst} (ha : a.2.2 = false) (hb : b.2.2 = true) : befC a b = true := by
  simp [befC, ha, hb]
theorem fewC_iff {a b : Cst} (ha : a.2.2 = true) (hb : b.2.2 = true) : fewC a b = true ↔ Lex a b := by
  unfold fewC Lex
  rw [ha, hb]
  simp
theorem fewC_first {a b : Cst} (ha : a.2.2 = true) (hb : b.2.2 = false) : fewC a b = true := by
  simp [fewC, ha, hb]
theorem Lex.trans {a b c : Cst} (h : Lex a b) (k : Lex b c) : Lex a c := by unfold Lex at *; omega
theorem Lex.not_le {a b c : Cst} (h : Lex a b) (k : ¬ Lex c b) : Lex a c := by unfold Lex at *; omega
theorem Lex.le_lt {a b c : Cst} (h : ¬ Lex b a) (k : Lex b c) : Lex a c := by unfold Lex at *; omega
theorem Lex.irr (a : Cst) : ¬ Lex a a := by unfold Lex; omega

/-- i is the least one of those in C that cost least. -/
structure Least (C : Int → Prop) (f : Int → Cst) (i : Int) : Prop where
  mem : C i
  min : ∀ j, C j → ¬ Lex (f j) (f i)
  fst : ∀ j, C j → j < i → Lex (f i) (f j)
theorem Least.uniq {C : Int → Prop} {f : Int → Cst} {i j : Int} (h : Least C f i) (k : Least C f j) : i = j := by
  rcases Int.lt_trichotomy i j with hl | hl | hl
  · exact absurd (k.fst i h.mem hl) (h.min j k.mem)
  · exact hl
  · exact absurd (h.fst j k.mem hl) (k.min i h.mem)
theorem Least.cong {C D : Int → Prop} {f g : Int → Cst} {i : Int} (h : Least C f i) (hC : ∀ j, C j ↔ D j) (hf : ∀ j, C j → (f j).1 = (g j).1 ∧ (f j).2.1 = (g j).2.1) : Least D g i := by
  have e : ∀ a b, C a → C b → (Lex (f a) (f b) ↔ Lex (g a) (g b)) := fun a b ha hb => by
    obtain ⟨h1, h2⟩ := hf a ha
    obtain ⟨h3, h4⟩ := hf b hb
    unfold Lex
    rw [h1, h2, h3, h4]
  exact ⟨(hC i).1 h.mem, fun j hj => fun hl => h.min j ((hC j).2 hj) ((e _ _ ((hC j).2 hj) h.mem).2 hl), fun j hj hl => (e _ _ h.mem ((hC j).2 hj)).1 (h.fst j ((hC j).2 hj) hl)⟩

/-- The slips lo, .., lo + k - 1 with costs. -/
def CandK (f : Int → Cst) (b : Bool) (lo : Int) (k : Nat) (j : Int) : Prop := (lo ≤ j ∧ j < lo + k) ∧ (f j).2.2 = b

theorem pickTo_spec (f : Int → Cst) (lo : Int) : ∀ k, (pickTo f lo k = (noneC, 0) ∧ ∀ j, ¬ CandK f false lo k j) ∨ ∃ i, pickTo f lo k = (f i, i) ∧ Least (CandK f false lo k) f i
  | 0 => .inl ⟨rfl, fun j h => by have := h.1; omega⟩
  | k + 1 => by
    have up : ∀ j, CandK f false lo k j → CandK f false lo (k + 1) j := fun j h => ⟨⟨h.1.1, by have := h.1.2; omega⟩, h.2⟩
    have dn : ∀ j, CandK f false lo (k + 1) j → CandK f false lo k j ∨ (j = lo + k ∧ (f (lo + k)).2.2 = false) := fun j h => by
      obtain ⟨⟨h1, h2⟩, h3⟩ := h
      rcases (by omega : j < lo + k ∨ j = lo + k) with h | h
      · exact .inl ⟨⟨h1, h⟩, h3⟩
      · exact .inr ⟨h, h ▸ h3⟩
    have hp : pickTo f lo (k + 1) = if befC (f (lo + k)) (pickTo f lo k).1 then (f (lo + k), lo + k) else pickTo f lo k := rfl
    cases hn : (f (lo + k)).2.2
    · rcases pickTo_spec f lo k with ⟨h1, h2⟩ | ⟨i, h1, h2⟩
      · refine .inr ⟨lo + k, by rw [hp, h1, if_pos (befC_first hn rfl)], ⟨⟨by omega, by omega⟩, hn⟩, fun j hj => ?_, fun j hj hl => ?_⟩
        · rcases dn j hj with h | ⟨rfl, _⟩
          · exact absurd h (h2 j)
          · exact Lex.irr _
        · rcases dn j hj with h | ⟨rfl, _⟩
          · exact absurd h (h2 j)
          · omega
      · by_cases hc : Lex (f (lo + k)) (f i)
        · refine .inr ⟨lo + k, by rw [hp, h1, if_pos ((befC_iff hn h2.mem.2).2 hc)], ⟨⟨by omega, by omega⟩, hn⟩, fun j hj => ?_, fun j hj hl => ?_⟩
          · rcases dn j hj with h | ⟨rfl, _⟩
            · exact fun hl => h2.min j h (hl.trans hc)
            · exact Lex.irr _
          · rcases dn j hj with h | ⟨rfl, _⟩
            · exact hc.not_le (h2.min j h)
            · omega
        · refine .inr ⟨i, by rw [hp, h1, if_neg (fun h => hc ((befC_iff hn h2.mem.2).1 h))], up i h2.mem, fun j hj => ?_, fun j hj hl => ?_⟩
          · rcases dn j hj with h | ⟨rfl, _⟩
            · exact h2.min j h
            · exact hc
          · rcases dn j hj with h | ⟨rfl, _⟩
            · exact h2.fst j h hl
            · have := h2.mem.1.2; omega
    · have hp2 : pickTo f lo (k + 1) = pickTo f lo k := by rw [hp, befC_none hn]; rfl
      have same : ∀ j, CandK f false lo (k + 1) j ↔ CandK f false lo k j := fun j => ⟨fun h => by
        rcases dn j h with h | ⟨_, h⟩
        · exact h
        · simp [hn] at h, up j⟩
      rcases pickTo_spec f lo k with ⟨h1, h2⟩ | ⟨i, h1, h2⟩
      · exact .inl ⟨hp2.trans h1, fun j hj => h2 j ((same j).1 hj)⟩
      · exact .inr ⟨i, hp2.trans h1, h2.cong (fun j => (same j).symm) fun _ _ => ⟨rfl, rfl⟩⟩

/-- The reference's candidates among the first k, among the last k. -/
def CandR (f : Int → Cst) (s most : Int) (k : Nat) (j : Int) : Prop := (-20 ≤ j ∧ j < -20 + k) ∧ nearR j s most = true ∧ (f j).2.2 = true
def CandD (f : Int → Cst) (s most : Int) (k : Nat) (j : Int) : Prop := (20 - k < j ∧ j ≤ 20) ∧ nearR j s most = true ∧ (f j).2.2 = true

theorem moreC_lex {a b : Cst} {s : Int} : Lex (moreC a s) (moreC b s) ↔ Lex a b := by
  unfold Lex moreC
  simp only
  split <;> omega

theorem rowTo_spec (f : Int → Cst) (s most : Int) : ∀ k, ((rowTo f s most k).2.2 = false ∧ ∀ j, ¬ CandR f s most k j) ∨ ∃ i, rowTo f s most k = moreC (f i) s ∧ Least (CandR f s most k) f i
  | 0 => .inl ⟨rfl, fun j h => by have := h.1; omega⟩
  | k + 1 => by
    have up : ∀ j, CandR f s most k j → CandR f s most (k + 1) j := fun j h => ⟨⟨h.1.1, by have := h.1.2; omega⟩, h.2⟩
    have dn : ∀ j, CandR f s most (k + 1) j → CandR f s most k j ∨ (j = -20 + k ∧ nearR (-20 + k) s most = true ∧ (f (-20 + k)).2.2 = true) := fun j h => by
      obtain ⟨⟨h1, h2⟩, h3⟩ := h
      rcases (by omega : j < -20 + k ∨ j = -20 + k) with h | h
      · exact .inl ⟨⟨h1, h⟩, h3⟩
      · exact .inr ⟨h, h ▸ h3⟩
    have hp : rowTo f s most (k + 1) = if nearR (-20 + k) s most && (f (-20 + k)).2.2 then (if fewC (moreC (f (-20 + k)) s) (rowTo f s most k) then moreC (f (-20 + k)) s else rowTo f s most k) else rowTo f s most k := rfl
    cases hn : (nearR (-20 + k) s most && (f (-20 + k)).2.2)
    · rw [hn] at hp
      have same : ∀ j, CandR f s most (k + 1) j ↔ CandR f s most k j := fun j => ⟨fun h => by
        rcases dn j h with h | ⟨_, h, h'⟩
        · exact h
        · simp [h, h'] at hn, up j⟩
      rcases rowTo_spec f s most k with ⟨h1, h2⟩ | ⟨i, h1, h2⟩
      · exact .inl ⟨by rw [hp]; exact h1, fun j hj => h2 j ((same j).1 hj)⟩
      · exact .inr ⟨i, hp.trans h1, h2.cong (fun j => (same j).symm) fun _ _ => ⟨rfl, rfl⟩⟩
    · rw [hn, if_pos rfl] at hp
      obtain ⟨hn1, hn2⟩ := Bool.and_eq_true_iff.1 hn
      have hn3 : (moreC (f (-20 + k)) s).2.2 = true := hn2
      rcases rowTo_spec f s most k with ⟨h1, h2⟩ | ⟨i, h1, h2⟩
      · refine .inr ⟨-20 + k, by rw [hp, if_pos (fewC_first hn3 h1)], ⟨⟨by omega, by omega⟩, hn1, hn2⟩, fun j hj => ?_, fun j hj hl => ?_⟩
        · rcases dn j hj with h | ⟨rfl, _⟩
          · exact absurd h (h2 j)
          · exact Lex.irr _
        · rcases dn j hj with h | ⟨rfl, _⟩
          · exact absurd h (h2 j)
          · omega
      · have hi3 : (moreC (f i) s).2.2 = true := h2.mem.2.2
        rw [h1] at hp
        by_cases hc : Lex (f (-20 + k)) (f i)
        · refine .inr ⟨-20 + k, by rw [hp, if_pos ((fewC_iff hn3 hi3).2 (moreC_lex.2 hc))], ⟨⟨by omega, by omega⟩, hn1, hn2⟩, fun j hj => ?_, fun j hj hl => ?_⟩
          · rcases dn j hj with h | ⟨rfl, _⟩
            · exact fun hl => h2.min j h (hl.trans hc)
            · exact Lex.irr _
          · rcases dn j hj with h | ⟨rfl, _⟩
            · exact hc.not_le (h2.min j h)
            · omega
        · refine .inr ⟨i, by rw [hp, if_neg (fun h => hc (moreC_lex.1 ((fewC_iff hn3 hi3).1 h)))], up i h2.mem, fun j hj => ?_, fun j hj hl => ?_⟩
          · rcases dn j hj with h | ⟨rfl, _⟩
            · exact h2.min j h
            · exact hc
          · rcases dn j hj with h | ⟨rfl, _⟩
            · exact h2.fst j h hl
            · have := h2.mem.1.2; omega

theorem pickDn_spec (f : Int → Cst) (s most : Int) : ∀ k, k ≤ 41 → (pickDn f s most k = -21 ∧ ∀ j, ¬ CandD f s most k j) ∨ Least (CandD f s most k) f (pickDn f s most k)
  | 0, _ => .inl ⟨rfl, fun j h => by have := h.1; omega⟩
  | k + 1, hk => by
    have up : ∀ j, CandD f s most k j → CandD f s most (k + 1) j := fun j h => ⟨⟨by have := h.1.1; omega, h.1.2⟩, h.2⟩
    have dn : ∀ j, CandD f s most (k + 1) j → CandD f s most k j ∨ (j = 20 - k ∧ nearR (20 - k) s most = true ∧ (f (20 - k)).2.2 = true) := fun j h => by
      obtain ⟨⟨h1, h2⟩, h3⟩ := h
      rcases (by omega : 20 - k < j ∨ j = 20 - k) with h | h
      · exact .inl ⟨⟨h, h2⟩, h3⟩
      · exact .inr ⟨h, h ▸ h3⟩
    have hp : pickDn f s most (k + 1) = if nearR (20 - k) s most && (f (20 - k)).2.2 && (decide (pickDn f s most k < -20) || !fewC (f (pickDn f s most k)) (f (20 - k))) then 20 - (k : Int) else pickDn f s most k := rfl
    have ih := pickDn_spec f s most k (by omega)
    cases hn : (nearR (20 - k) s most && (f (20 - k)).2.2)
    · rw [hn] at hp
      have same : ∀ j, CandD f s most (k + 1) j ↔ CandD f s most k j := fun j => ⟨fun h => by
        rcases dn j h with h | ⟨_, h, h'⟩
        · exact h
        · simp [h, h'] at hn, up j⟩
      have hp2 : pickDn f s most (k + 1) = pickDn f s most k := by rw [hp]; rfl
      rw [hp2]
      rcases ih with ⟨h1, h2⟩ | h2
      · exact .inl ⟨h1, fun j hj => h2 j ((same j).1 hj)⟩
      · exact .inr (h2.cong (fun j => (same j).symm) fun _ _ => ⟨rfl, rfl⟩)
    · rw [hn, Bool.true_and] at hp
      obtain ⟨hn1, hn2⟩ := Bool.and_eq_true_iff.1 hn
      generalize pickDn f s most (k + 1) = q at *
      generalize pickDn f s most k = i at *
      have new : (∀ j, CandD f s most k j → ¬ Lex (f j) (f (20 - k))) → Least (CandD f s most (k + 1)) f (20 - k) := fun h => by
        refine ⟨⟨⟨by omega, by omega⟩, hn1, hn2⟩, fun j hj => ?_, fun j hj hl => ?_⟩
        · rcases dn j hj with h' | ⟨rfl, _⟩
          · exact h j h'
          · exact Lex.irr _
        · have := hj.1; omega
      rcases ih with ⟨h1, h2⟩ | h2
      · obtain rfl : q = 20 - k := by rw [hp, h1]; rfl
        exact .inr (new fun j hj => absurd hj (h2 j))
      · have hi : ¬ i < -20 := by have := h2.mem.1; omega
        by_cases hc : Lex (f i) (f (20 - k))
        · obtain rfl : q = i := by rw [hp, if_neg (by simp [hi, (fewC_iff h2.mem.2.2 hn2).2 hc])]
          refine .inr ⟨up _ h2.mem, fun j hj => ?_, fun j hj hl => ?_⟩
          · rcases dn j hj with h | ⟨rfl, _⟩
            · exact h2.min j h
            · exact fun hl => Lex.irr _ (hl.trans hc)
          · rcases dn j hj with h | ⟨rfl, _⟩
            · exact h2.fst j h hl
            · exact hc
        · have hf : fewC (f i) (f (20 - k)) = false := by
            cases hq : fewC (f i) (f (20 - k)) with
            | false => rfl
            | true => exact absurd ((fewC_iff h2.mem.2.2 hn2).1 hq) hc
          obtain rfl : q = 20 - k := by rw [hp, if_pos (by simp [hf])]
          exact .inr (new fun j hj hl => hc (Lex.le_lt (h2.min j hj) hl))

/-- The reference's costs are the program's. -/
def SameC (a b : Cst) : Prop := b.2.2 = !a.2.2 ∧ (a.2.2 = false → a.1 = b.1 ∧ a.2.1 = b.2.1)

theorem cands {f g : Int → Cst} (h : ∀ j, -20 ≤ j → j ≤ 20 → SameC (f j) (g j)) {n most : Int} (_ : -20 ≤ n ∧ n ≤ 20) (_ : 0 ≤ most) (j : Int) :
    (CandK f false (loA n most) (cntA n most) j ↔ CandR g n most 41 j) ∧ (CandK f false (loA n most) (cntA n most) j ↔ CandD g n most 41 j) := by
  have e : ∀ j, nearR j n most = true ↔ n - most ≤ j ∧ j ≤ n + most := fun j => by simp only [nearR, decide_eq_true_eq]; omega
  have r : (loA n most ≤ j ∧ j < loA n most + cntA n most) ↔ (-20 ≤ j ∧ j ≤ 20) ∧ n - most ≤ j ∧ j ≤ n + most := by unfold loA cntA; omega
  have k : (-20 ≤ j ∧ j ≤ 20) → ((f j).2.2 = false ↔ (g j).2.2 = true) := fun hj => by
    rw [(h j hj.1 hj.2).1]
    cases (f j).2.2 <;> simp
  constructor
  · unfold CandK CandR
    rw [r, e]
    constructor
    · rintro ⟨⟨h1, h2⟩, h3⟩
      exact ⟨by omega, h2, (k h1).1 h3⟩
    · rintro ⟨h1, h2, h3⟩
      exact ⟨⟨by omega, h2⟩, (k (by omega)).2 h3⟩
  · unfold CandK CandD
    rw [r, e]
    constructor
    · rintro ⟨⟨h1, h2⟩, h3⟩
      exact ⟨by omega, h2, (k h1).1 h3⟩
    · rintro ⟨h1, h2, h3⟩
      exact ⟨⟨by omega, h2⟩, (k (by omega)).2 h3⟩

theorem row_same (made most : Int) (hm : 0 ≤ most) : ∀ (r : Nat) (s : Int), -20 ≤ s → s ≤ 20 → SameC (rowF made most r s) (rowR made most r s)
  | 0, s, _, _ => ⟨by simp only [rowF, rowR]; by_cases h : s = made <;> simp [h], fun _ => ⟨rfl, rfl⟩⟩
  | r + 1, s, h1, h2 => by
    have ih := row_same made most hm r
    have hc := fun j => (cands ih ⟨h1, h2⟩ hm j).1
    simp only [rowF, rowR]
    have eP := pickTo_spec (rowF made most r) (loA s most) (cntA s most)
    have eR := rowTo_spec (rowR made most r) s most 41
    generalize pickTo (rowF made most r) (loA s most) (cntA s most) = p at *
    generalize rowTo (rowR made most r) s most 41 = q at *
    rcases eP with ⟨rfl, e2⟩ | ⟨i, rfl, e2⟩ <;> rcases eR with ⟨e3, e4⟩ | ⟨i', rfl, e4⟩
    · refine ⟨?_, ?_⟩
      · rw [e3]; unfold plusC noneC; split <;> rfl
      · unfold plusC noneC; split <;> (intro h; cases h)
    · exact absurd ((hc _).2 e4.mem) (e2 _)
    · exact absurd ((hc _).1 e2.mem) (e4 _)
    · have e5 := e2.cong hc fun j hj => (ih j (by have := hj.1; unfold loA at this; omega) (by have := hj.1; unfold loA cntA at this; omega)).2 hj.2
      obtain rfl := e5.uniq e4
      obtain ⟨s1, s2⟩ := ih i (by have := e4.mem.1; omega) (by have := e4.mem.1; omega)
      obtain ⟨s3, s4⟩ := s2 e2.mem.2
      refine ⟨?_, ?_⟩
      · simp only [moreC, s1]
        unfold plusC
        split <;> rfl
      · intro _
        simp only [moreC, plusC]
        split <;> rename_i h0
        · subst h0; simp [s3, s4]
        · simp [s3, s4]

theorem hide_same (made most : Int) (hm : 0 ≤ most) (left : Nat) (last : Int) (hl : -20 ≤ last ∧ last ≤ 20) : ∀ i, i ≤ left + 1 →
    (hideTo made most left last i = none ∧ hideR made most left last i = none) ∨ ∃ xs la, hideTo made most left last i = some (xs, la) ∧ hideR made most left last i = some (xs.take left, la) ∧ (-20 ≤ la ∧ la ≤ 20) ∧ xs.length = i
  | 0, _ => .inr ⟨[], last, rfl, by simp [hideR], hl, rfl⟩
  | i + 1, hi => by
    rcases hide_same made most hm left last hl i (by omega) with ⟨h1, h2⟩ | ⟨xs, la, h1, h2, h3, h4⟩
    · exact .inl ⟨by simp [hideTo, h1], by simp [hideR, h2]⟩
    · have hc := fun j => (cands (row_same made most hm (left - i)) h3 hm j).2
      have eP := pickTo_spec (rowF made most (left - i)) (loA la most) (cntA la most)
      have eR := pickDn_spec (rowR made most (left - i)) la most 41 (by omega)
      have hP : hideTo made most left last (i + 1) = if (pickTo (rowF made most (left - i)) (loA la most) (cntA la most)).1.2.2 then none else some (xs ++ [(pickTo (rowF made most (left - i)) (loA la most) (cntA la most)).2], (pickTo (rowF made most (left - i)) (loA la most) (cntA la most)).2) := by
        simp [hideTo, h1]
      have hR : hideR made most left last (i + 1) = if pickDn (rowR made most (left - i)) la most 41 < -20 then none else some (if i < left then xs.take left ++ [pickDn (rowR made most (left - i)) la most 41] else xs.take left, pickDn (rowR made most (left - i)) la most 41) := by
        simp [hideR, h2]
      rw [hP, hR]
      generalize pickTo (rowF made most (left - i)) (loA la most) (cntA la most) = p at *
      generalize pickDn (rowR made most (left - i)) la most 41 = q at *
      rcases eP with ⟨rfl, e2⟩ | ⟨j, rfl, e2⟩ <;> rcases eR with ⟨rfl, e4⟩ | e4
      · exact .inl ⟨rfl, rfl⟩
      · exact absurd ((hc _).2 e4.mem) (e2 _)
      · exact absurd ((hc _).1 e2.mem) (e4 _)
      · have e5 := e2.cong hc fun j hj => (row_same made most hm (left - i) j (by have := hj.1; unfold loA at this; omega) (by have := hj.1; unfold loA cntA at this; omega)).2 hj.2
        obtain rfl := e5.uniq e4
        refine .inr ⟨xs ++ [j], j, by simp [e2.mem.2], ?_, ⟨by have := e4.mem.1; omega, e4.mem.1.2⟩, by simp [h4]⟩
        rw [if_neg (by have := e4.mem.1; omega)]
        by_cases hil : i < left
        · rw [if_pos hil, List.take_of_length_le (show xs.length ≤ left by omega), List.take_of_length_le (show (xs ++ [j]).length ≤ left by simp; omega)]
        · rw [if_neg hil, List.take_append_of_le_length (by omega)]
end
open Go.RowKit

attribute [local go_sem] Oper.semAt_some

abbrev V3 (a b : Int) (c : Bool) : Value := .agg #[.int .i64 a, .int .i64 b, .bool c]

set_option maxHeartbeats 1000000 in
theorem before_any (a b : Cst) (w : World) :
    Calls Try.prog 68 #[V3 a.1 a.2.1 a.2.2, V3 b.1 b.2.1 b.2.2] w fun e w' => e = .returned (.bool (befC a b)) ∧ Ext w w' := by
  obtain ⟨ac, as', an⟩ := a
  obtain ⟨bc, bs, bn⟩ := b
  cases an <;> cases bn
  case false.false =>
    by_cases hc : ac = bc
    · subst hc
      have HB := Lib.hid (show befC (ac, as', false) (ac, bs, false) = decide (as' < bs) by simp [befC])
      go_enter Try.func68, Try.ntmps68
      go_wp2
      go_ret
      exact ⟨ret_b (by rw [HB.out]), by (repeat' (first | with_reducible exact Ext.refl _ | with_reducible apply Ext.alloc | with_reducible apply Ext.drew | with_reducible apply Ext.drewN | with_reducible refine Ext.setCell ?_ ?_ _ | with_reducible apply Ext.step | with_reducible assumption | with_reducible exact Nat.le_refl _ | (simp; done) | (simp; omega)))⟩
    · have hcb : (ac != bc) = true := by simpa using hc
      have HB := Lib.hid (show befC (ac, as', false) (bc, bs, false) = decide (ac < bc) by simp [befC, hc])
      go_enter Try.func68, Try.ntmps68
      go_wp2
      go_ret
      exact ⟨ret_b (by rw [HB.out]), by (repeat' (first | with_reducible exact Ext.refl _ | with_reducible apply Ext.alloc | with_reducible apply Ext.drew | with_reducible apply Ext.drewN | with_reducible refine Ext.setCell ?_ ?_ _ | with_reducible apply Ext.step | with_reducible assumption | with_reducible exact Nat.le_refl _ | (simp; done) | (simp; omega)))⟩
  all_goals
    go_enter Try.func68, Try.ntmps68
    go_wp2
    go_ret
    exact ⟨ret_b (by simp [befC]), by (repeat' (first | with_reducible exact Ext.refl _ | with_reducible apply Ext.alloc | with_reducible apply Ext.drew | with_reducible apply Ext.drewN | with_reducible refine Ext.setCell ?_ ?_ _ | with_reducible apply Ext.step | with_reducible assumption | with_reducible exact Nat.le_refl _ | (simp; done) | (simp; omega)))⟩

set_option maxHeartbeats 1000000 in
theorem plus_any (a : Cst) (n : Int) (w : World) (h1 : 0 ≤ a.1 ∧ a.1 ≤ 1000000000) (h2 : 0 ≤ a.2.1 ∧ a.2.1 ≤ 1000000000) (hn : -20 ≤ n ∧ n ≤ 20) :
    Calls Try.prog 69 #[V3 a.1 a.2.1 a.2.2, .int .i64 n] w fun e w' => e = .returned (V3 (plusC a n).1 (plusC a n).2.1 (plusC a n).2.2) ∧ Ext w w' := by
  obtain ⟨ac, as', an⟩ := a
  obtain ⟨h1, h1'⟩ := h1
  obtain ⟨h2, h2'⟩ := h2
  obtain ⟨h3, h3'⟩ := hn
  simp only at h1 h1' h2 h2' ⊢
  by_cases hz : n = 0
  · subst hz
    have HP := Lib.hid (show plusC (ac, as', an) 0 = (ac, as', an) from rfl)
    go_enter Try.func69, Try.ntmps69
    go_wp2
    go_returns
    exact ⟨by rw [HP.out], by (repeat' (first | with_reducible exact Ext.refl _ | with_reducible apply Ext.alloc | with_reducible apply Ext.drew | with_reducible apply Ext.drewN | with_reducible refine Ext.setCell ?_ ?_ _ | with_reducible apply Ext.step | with_reducible assumption | with_reducible exact Nat.le_refl _ | (simp; done) | (simp; omega)))⟩
  · have hzb : (n != 0) = true := by simpa using hz
    obtain ⟨m, hm⟩ : ∃ m, m = max n (-n) := ⟨_, rfl⟩
    have HP := Lib.hid (show plusC (ac, as', an) n = (ac + 1, as' + m, an) by rw [hm]; exact if_neg hz)
    have hm1 : (if n < -n then -n else n) = m := by split <;> omega
    have hm2 : 0 ≤ m := by omega
    have hm3 : m ≤ 20 := by omega
    clear hm hz
    go_enter Try.func69, Try.ntmps69
    go_wp2
    go_returns
    exact ⟨by rw [HP.out], by (repeat' (first | with_reducible exact Ext.refl _ | with_reducible apply Ext.alloc | with_reducible apply Ext.drew | with_reducible apply Ext.drewN | with_reducible refine Ext.setCell ?_ ?_ _ | with_reducible apply Ext.step | with_reducible assumption | with_reducible exact Nat.le_refl _ | (simp; done) | (simp; omega)))⟩

theorem at_any (g o : Nat) (n : Int) (i : Nat) (w : World) (hi : n + 20 = i) (h2 : i < 41) :
    Calls Try.prog 67 #[.pointer (some ⟨g, o, none⟩), .int .i64 n] w fun e w' => e = .returned (.pointer (some ⟨g, o + i * 3, none⟩)) ∧ w = w' := by
  go_enter Try.func67, Try.ntmps67
  go_wp2
  go_ret
  exact ⟨rfl, rfl⟩

theorem around_in (F : Fence) (k : Nat) (h5 : F.fn 66) (hro : F.round = none) (n most : Int) (w : World) :
    CallsIn F k Try.prog 66 #[.int .i64 n, .int .i64 most] w fun e w' => e = .returned (.func (.func 95) #[] #[.pointer (some ⟨w.heap.size, 0, none⟩), .pointer (some ⟨w.heap.size + 1, 0, none⟩)]) ∧ w' = (w.alloc (.cells #[.int .i64 n] 3)).alloc (.cells #[.int .i64 most] 3) := by
  refine callsIn_of_wp Try.func66 rfl h5 ?_ hro
  simp only [Try.ntmps66, List.size_toArray, List.length_cons, List.length_nil, Nat.reduceAdd, Nat.reduceSub, Array.replicate_succ, Array.replicate_zero, List.push_toArray, List.append_toArray, List.nil_append, List.cons_append]
  gi_wp2
  go_ret
  exact ⟨rfl, rfl⟩

/-- The boxes of around's closure lie there. -/
structure AroundAt (w : World) (D : List Nat) (Bs Bt : Nat) (n most : Int) : Prop where
  c0 : w.cell? ⟨Bs, 0, none⟩ = some (.int .i64 n)
  c1 : w.cell? ⟨Bt, 0, none⟩ = some (.int .i64 most)
  n0 : -20 ≤ n ∧ n ≤ 20
  m0 : 0 ≤ most ∧ most ≤ 20
  nD : Bs ∉ D ∧ Bt ∉ D
theorem AroundAt.ext {W W' : World} {D : List Nat} {Bs Bt : Nat} {n most : Int} (h : AroundAt W D Bs Bt n most) (x : Ext W W') : AroundAt W' D Bs Bt n most := ⟨x.cell_some h.c0, x.cell_some h.c1, h.n0, h.m0, h.nD⟩

def aroundEnc (n most : Int) (x : Fin (cntA n most)) : Array Value := #[.int .i64 (loA n most + x.val)]

set_option maxRecDepth 100000 in
set_option maxHeartbeats 4000000 in
theorem around1_in (nn : Nat) (hnn : 1 ≤ nn) (l B0 : Nat) (D : List Nat) (Bs Bt : Nat) (n most : Int) (J : Nat → World → Prop) (Jx : World → Prop)
    (hY : ∀ (x : Fin (cntA n most)) (W1 : World), J x.val W1 → YieldAt Fence.wide (nn - 1) Try.prog l (aroundEnc n most x) W1 fun e W' => KpD D B0 W1 W' ∧ ((e = .returned (.bool true) ∧ J (x.val + 1) W') ∨ (e = .returned (.bool false) ∧ Jx W')))
    (W : World) (hP : AroundAt W D Bs Bt n most) (hB1 : Bs < B0) (hB2 : Bt < B0) (h0 : J 0 W) :
    CallsIn Fence.wide nn Try.prog 95 #[.func (.yield l) #[] #[], .pointer (some ⟨Bs, 0, none⟩), .pointer (some ⟨Bt, 0, none⟩)] W fun e W' => (∃ v, e = .returned v) ∧ (J (cntA n most) W' ∨ Jx W') := by
  have HY := Lib.hid hY
  have HKP := Lib.hid fun (W' : World) (hk : KpD D B0 W W') => (show W'.cell? ⟨Bs, 0, none⟩ = some (.int .i64 n) ∧ W'.cell? ⟨Bt, 0, none⟩ = some (.int .i64 most) from ⟨hk _ _ _ hB1 hP.nD.1 hP.c0, hk _ _ _ hB2 hP.nD.2 hP.c1⟩)
  obtain ⟨n1, n2⟩ := hP.n0
  obtain ⟨m1, m2⟩ := hP.m0
  have c0 := hP.c0
  have c1 := hP.c1
  have HJ0 := Lib.hid h0
  clear hY hP h0
  obtain ⟨lo, hlo⟩ : ∃ lo, lo = loA n most := ⟨_, rfl⟩
  obtain ⟨N, hN⟩ : ∃ N, N = cntA n most := ⟨_, rfl⟩
  have HN := Lib.hid hN
  have HLO := Lib.hid hlo
  have hl1 : (if n - most < -20 then -20 else n - most) = lo := by rw [hlo]; unfold loA; split <;> omega
  have hl2 : (if 20 < n + most then 20 else n + most) = lo + N - 1 := by rw [hlo, hN]; unfold loA cntA; split <;> omega
  have hl3 : -20 ≤ lo := by rw [hlo]; unfold loA; omega
  have hl4 : lo + N ≤ 21 := by rw [hlo, hN]; unfold loA cntA; omega
  clear hN hlo
  refine callsIn_of_wp Try.func95 rfl trivial ?_ rfl
  simp only [Try.ntmps95, List.size_toArray, List.length_cons, List.length_nil, Nat.reduceAdd, Nat.reduceSub, Array.replicate_succ, Array.replicate_zero, List.push_toArray, List.append_toArray, List.nil_append, List.cons_append]
  gi_wp2
  gi_loopw [4] (fun iv wr => ∃ i : Nat, i ≤ N ∧ iv = .int .i64 (lo + i) ∧ J i wr ∧ KpD D B0 W wr) (fun iv _ => 41 - (intOf iv + 20).toNat)
  case atStart => exact ⟨0, by omega, by simp, HJ0.out, fun _ _ _ _ _ h => h⟩
  case round =>
    obtain ⟨i, hi, rfl, hj, hkp⟩ := hrel
    have HKR := Lib.hid hkp
    have HJR := Lib.hid hj
    obtain ⟨e0, e1⟩ := HKP.out wr hkp
    clear hj hkp
    by_cases hlt : i < N
    · have hg : lo + (i : Int) ≤ lo + (N : Int) - 1 := by omega
      have hN' : i < cntA n most := by rw [← HN.out]; exact hlt
      obtain ⟨fn, tmps, assign, body, hy, hR⟩ := HY.out ⟨i, hN'⟩ wr HJR.out
      simp only [aroundEnc, ← HLO.out] at hy
      have HR := Lib.hid hR
      clear hR
      gi_wp2
      refine HR.out.mono ?_
      rintro e W4 ⟨hk4, ⟨rfl, h4⟩ | ⟨rfl, h4⟩⟩
      · have HJ4 := Lib.hid h4
        have HK4 := Lib.hid (HKR.out.trans hk4)
        clear h4 hk4
        gi_wp2
        go_roundw
        case rel => exact ⟨i + 1, by omega, by simp; omega, HJ4.out, HK4.out⟩
        case measure => simp [intOf]; omega
      · have HJ4 := Lib.hid h4
        clear h4 hk4
        gi_wp2
        refine bodyPost_ret (results_none rfl _ _ _) rfl ?_
        exact ⟨⟨_, rfl⟩, .inr HJ4.out⟩
    · obtain rfl : i = N := by omega
      have hg : ¬ lo + (i : Int) ≤ lo + (i : Int) - 1 := by omega
      gi_wp2
      go_end0
      exact ⟨⟨_, rfl⟩, .inl (by rw [← HN.out]; exact HJR.out)⟩

theorem around_seq (nn : Nat) (hnn : 1 ≤ nn) (D : List Nat) (Bs Bt : Nat) (n most : Int) (w : World) (hP : AroundAt w D Bs Bt n most) :
    SeqSt Fence.wide nn Try.prog 95 #[.pointer (some ⟨Bs, 0, none⟩), .pointer (some ⟨Bt, 0, none⟩)] (aroundEnc n most) D w := fun l J Jx W hW _ _ hY h0 =>
  around1_in nn hnn l w.heap.size D Bs Bt n most J Jx hY W (hP.ext (.of hW)) (cell_lt hP.c0) (cell_lt hP.c1) h0
end
open Go.RowKit

theorem But.over {D : List Nat} {b : Nat} {W2 Wf W : World} (h : But D W2 Wf) (k : But [b] Wf W) (hb : W2.heap.size ≤ b) : But D W2 W :=
  ⟨k.os.trans h.os, k.tape.trans h.tape, k.output.trans h.output, Nat.le_trans h.size k.size, fun i hi hd => (k.block i (Nat.lt_of_lt_of_le hi h.size) (by simp; omega)).trans (h.block i hi hd)⟩
theorem But.over2 {D : List Nat} {b c : Nat} {W2 Wf W : World} (h : But D W2 Wf) (k : But [b, c] Wf W) (hb : W2.heap.size ≤ b) (hc : W2.heap.size ≤ c) : But D W2 W :=
  ⟨k.os.trans h.os, k.tape.trans h.tape, k.output.trans h.output, Nat.le_trans h.size k.size, fun i hi hd => (k.block i (Nat.lt_of_lt_of_le hi h.size) (by simp; omega)).trans (h.block i hi hd)⟩

/-- Costs lie at an offset of a block. -/
structure CostAt (g o : Nat) (c : Cst) (W : World) : Prop where
  c0 : W.cell? ⟨g, o, none⟩ = some (.int .i64 c.1)
  c1 : W.cell? ⟨g, o + 1, none⟩ = some (.int .i64 c.2.1)
  c2 : W.cell? ⟨g, o + 2, none⟩ = some (.bool c.2.2)
  f0 : W.frozen? ⟨g, o, none⟩ = false
  f1 : W.frozen? ⟨g, o + 1, none⟩ = false
  f2 : W.frozen? ⟨g, o + 2, none⟩ = false
theorem CostAt.ext {g o : Nat} {c : Cst} {W W' : World} (h : CostAt g o c W) (x : Ext W W') : CostAt g o c W' :=
  ⟨x.cell_some h.c0, x.cell_some h.c1, x.cell_some h.c2, x.frozen h.c0 h.f0, x.frozen h.c1 h.f1, x.frozen h.c2 h.f2⟩
theorem CostAt.but {g o : Nat} {c : Cst} {D : List Nat} {W W' : World} (h : CostAt g o c W) (x : But D W W') (hg : g ∉ D) : CostAt g o c W' :=
  ⟨x.cell h.c0 hg, x.cell h.c1 hg, x.cell h.c2 hg, x.frozen h.c0 h.f0 hg, x.frozen h.c1 h.f1 hg, x.frozen h.c2 h.f2 hg⟩
theorem CostAt.oth {g o b p : Nat} {c : Cst} {W : World} (h : CostAt g o c W) (u : Value) (hn : g ≠ b ∨ (o ≠ p ∧ o + 1 ≠ p ∧ o + 2 ≠ p)) : CostAt g o c (W.setCell ⟨b, p, none⟩ u) := by
  refine ⟨(cell_set_other ?_).trans h.c0, (cell_set_other ?_).trans h.c1, (cell_set_other ?_).trans h.c2, by simp [h.f0], by simp [h.f1], by simp [h.f2]⟩
  · rcases hn with h | h
    · exact .inl h
    · exact .inr h.1
  · rcases hn with h | h
    · exact .inl h
    · exact .inr h.2.1
  · rcases hn with h | h
    · exact .inl h
    · exact .inr h.2.2
theorem CostAt.put {g o : Nat} {c : Cst} {W : World} (h : CostAt g o c W) (d : Cst) : CostAt g o d (((W.setCell ⟨g, o, none⟩ (.int .i64 d.1)).setCell ⟨g, o + 1, none⟩ (.int .i64 d.2.1)).setCell ⟨g, o + 2, none⟩ (.bool d.2.2)) := by
  refine ⟨?_, ?_, ?_, by simp [h.f0], by simp [h.f1], by simp [h.f2]⟩
  · exact (cell_set_other (.inr (by omega))).trans ((cell_set_other (.inr (by omega))).trans (cell_set_same h.c0))
  · exact (cell_set_other (.inr (by omega))).trans (cell_set_same ((cell_set_other (.inr (by omega))).trans h.c1))
  · exact cell_set_same ((cell_set_other (.inr (by omega))).trans ((cell_set_other (.inr (by omega))).trans h.c2))
theorem CostAt.put2 {g o : Nat} {c : Cst} {W : World} (h : CostAt g o c W) (b : Bool) : CostAt g o (c.1, c.2.1, b) (W.setCell ⟨g, o + 2, none⟩ (.bool b)) :=
  ⟨(cell_set_other (.inr (by omega))).trans h.c0, (cell_set_other (.inr (by omega))).trans h.c1, cell_set_same h.c2, by simp [h.f0], by simp [h.f1], by simp [h.f2]⟩

/-- The table: R rows of 41. -/
def TabIs (g R : Nat) (T : Nat → Nat → Cst) (W : World) : Prop := ∀ i s, i < R → s < 41 → CostAt g (i * 123 + s * 3) (T i s) W
def updT (T : Nat → Nat → Cst) (i s : Nat) (c : Cst) (j r : Nat) : Cst := if j = i ∧ r = s then c else T j r
theorem TabIs.ext {g R : Nat} {T : Nat → Nat → Cst} {W W' : World} (h : TabIs g R T W) (x : Ext W W') : TabIs g R T W' := fun i s hi hs => (h i s hi hs).ext x
theorem TabIs.but {g R : Nat} {T : Nat → Nat → Cst} {D : List Nat} {W W' : World} (h : TabIs g R T W) (x : But D W W') (hg : g ∉ D) : TabIs g R T W' := fun i s hi hs => (h i s hi hs).but x hg
theorem TabIs.congr {g R : Nat} {T T' : Nat → Nat → Cst} {W : World} (h : TabIs g R T W) (e : ∀ i s, i < R → s < 41 → T i s = T' i s) : TabIs g R T' W := fun i s hi hs => e i s hi hs ▸ h i s hi hs
theorem TabIs.put {g R : Nat} {T : Nat → Nat → Cst} {W : World} (h : TabIs g R T W) {i s : Nat} (hi : i < R) (hs : s < 41) (d : Cst) :
    TabIs g R (updT T i s d) (((W.setCell ⟨g, i * 123 + s * 3, none⟩ (.int .i64 d.1)).setCell ⟨g, i * 123 + s * 3 + 1, none⟩ (.int .i64 d.2.1)).setCell ⟨g, i * 123 + s * 3 + 2, none⟩ (.bool d.2.2)) := fun j r hj hr => by
  by_cases e : j = i ∧ r = s
  · obtain ⟨rfl, rfl⟩ := e
    rw [updT, if_pos ⟨rfl, rfl⟩]
    exact (h j r hj hr).put d
  · rw [updT, if_neg e]
    refine (((h j r hj hr).oth _ (.inr ?_)).oth _ (.inr ?_)).oth _ (.inr ?_) <;> omega
theorem TabIs.put2 {g R : Nat} {T : Nat → Nat → Cst} {W : World} (h : TabIs g R T W) {i s : Nat} (hi : i < R) (hs : s < 41) (b : Bool) :
    TabIs g R (updT T i s ((T i s).1, (T i s).2.1, b)) (W.setCell ⟨g, i * 123 + s * 3 + 2, none⟩ (.bool b)) := fun j r hj hr => by
  by_cases e : j = i ∧ r = s
  · obtain ⟨rfl, rfl⟩ := e
    rw [updT, if_pos ⟨rfl, rfl⟩]
    exact (h j r hj hr).put2 b
  · rw [updT, if_neg e]
    refine (h j r hj hr).oth _ (.inr ?_)
    omega

/-- A table that was just made. -/
def zeroCells : Array Value := ((List.range 123).map fun x => if x % 3 = 2 then Value.bool false else .int .i64 0).toArray
theorem zero_at (n o : Nat) (ho : o < n) : (madeCells zeroCells n)[o]? = some (if o % 3 = 2 then .bool false else .int .i64 0) := by
  have hz : zeroCells.size = 123 := by simp [zeroCells]
  have h1 : (madeCells zeroCells n)[o]? = some (zeroCells[o % zeroCells.size]!) := by
    unfold madeCells
    simp [ho]
  rw [h1, hz]
  have hl : o % 123 < 123 := Nat.mod_lt _ (by decide)
  have h2 : zeroCells[o % 123]! = if o % 123 % 3 = 2 then Value.bool false else .int .i64 0 := by
    rw [getElem!_pos zeroCells (o % 123) (by rw [hz]; exact hl)]
    simp [zeroCells]
  rw [h2, show o % 123 % 3 = o % 3 by omega]
theorem TabIs.made (w : World) (R : Nat) (t : TypeId) : TabIs w.heap.size R (fun _ _ => (0, 0, false)) (w.alloc (.cells (madeCells zeroCells (R * 123)) t)) := fun i s hi hs => by
  have hg := heap_alloc_new w (.cells (madeCells zeroCells (R * 123)) t)
  have hlt : i * 123 + s * 3 + 2 < R * 123 := by omega
  refine ⟨?_, ?_, ?_, frozen_of_row _ _ _ _ _ hg, frozen_of_row _ _ _ _ _ hg, frozen_of_row _ _ _ _ _ hg⟩
  · rw [cell_of_row _ _ _ _ _ _ hg, zero_at _ _ (by omega), if_neg (by omega)]
  · rw [cell_of_row _ _ _ _ _ _ hg, zero_at _ _ (by omega), if_neg (by omega)]
  · rw [cell_of_row _ _ _ _ _ _ hg, zero_at _ _ (by omega), if_pos (by omega)]
theorem run_make_cells (t e : TypeId) (z : Value) (bytes k : Nat) (ht : Try.prog.underlying t = some (.slice e)) (hinfo : (Try.prog.info? e).map (fun i => (i.zero, i.size, i.bytes)) = some (some z, k, bytes))
    (n : Nat) (hbytes : bytes * n ≤ 281474976710656) (h63 : n ≤ 9223372036854775807) (w : World) :
    (Instr.makeSlice t (.int .i64 (n : Int)) (.int .i64 (n : Int))).run Try.prog w = .ok (.slice (some ⟨w.heap.size, 0, none⟩) n n) (w.alloc (.cells (madeCells z.cells (n * k)) e)) := by
  obtain ⟨i, hi, hzz⟩ := Option.map_eq_some_iff.1 hinfo
  simp only [Prod.mk.injEq] at hzz
  obtain ⟨hz, hs, hb⟩ := hzz
  have hb' : (i.bytes : Int) * (n : Int) ≤ 281474976710656 := by
    have h : ((i.bytes * n : Nat) : Int) ≤ 281474976710656 := by rw [hb]; omega
    rwa [Int.natCast_mul] at h
  have hr := run_make (P := Try.prog) w t e i z ht hi hz .i64 .i64 n n (by omega) (Int.le_refl _) hb' (by omega)
  simp only [Int.toNat_natCast, hs] at hr
  exact hr
def slipsZ : Value := .agg zeroCells
theorem run_make_slips (n : Nat) (hn : n ≤ 1000) (w : World) :
    (Instr.makeSlice 101 (.int .i64 (n : Int)) (.int .i64 (n : Int))).run Try.prog w = .ok (.slice (some ⟨w.heap.size, 0, none⟩) n n) (w.alloc (.cells (madeCells zeroCells (n * 123)) 105)) :=
  run_make_cells 101 105 slipsZ 984 123 Try.underlying101 (by kernel_rfl) n (by omega) (by omega) w
end Go.Proofs.Ytgeapenglcohfaa
