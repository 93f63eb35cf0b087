/- How a slip is hidden, in plain Lean: the program's costs, the reference's, and that both choose the same. No program. -/
import Derived.Test.YtgeapenglcohfaaBase
namespace Go.Proofs.Ytgeapenglcohfaa

/-- Costs: how many, the sum, and whether there are none. The reference's third tells that there are some. -/
abbrev Cst := Int × Int × Bool
def befC (a b : Cst) : Bool := if a.2.2 || b.2.2 then b.2.2 && !a.2.2 else if a.1 ≠ b.1 then decide (a.1 < b.1) else decide (a.2.1 < b.2.1)
def plusC (a : Cst) (n : Int) : Cst := if n = 0 then a else (a.1 + 1, a.2.1 + max n (-n), a.2.2)
def noneC : Cst := (0, 0, true)
def fewC (a b : Cst) : Bool := if !a.2.2 || !b.2.2 then a.2.2 else decide (a.1 < b.1) || (decide (a.1 = b.1) && decide (a.2.1 < b.2.1))
def moreC (a : Cst) (n : Int) : Cst := (if n = 0 then a.1 else a.1 + 1, a.2.1 + max n (-n), a.2.2)

/-- The slips around one. -/
def loA (n most : Int) : Int := max (n - most) (-20)
def cntA (n most : Int) : Nat := (min (n + most) 20 - max (n - most) (-20) + 1).toNat

/-- The best of the slips lo, lo + 1, ..: its costs, and which. -/
def pickTo (f : Int → Cst) (lo : Int) : Nat → Cst × Int
  | 0 => (noneC, 0)
  | k + 1 => if befC (f (lo + k)) (pickTo f lo k).1 then (f (lo + k), lo + k) else pickTo f lo k
/-- What a slip costs with r cuts after it. -/
def rowF (made most : Int) : Nat → Int → Cst
  | 0, n => (0, 0, decide (n ≠ made))
  | r + 1, n => plusC (pickTo (rowF made most r) (loA n most) (cntA n most)).1 n
/-- The slips so far, and the last one. -/
def hideTo (made most : Int) (left : Nat) (last : Int) : Nat → Option (List Int × Int)
  | 0 => some ([], last)
  | i + 1 => (hideTo made most left last i).bind fun x => if (pickTo (rowF made most (left - i)) (loA x.2 most) (cntA x.2 most)).1.2.2 then none else some (x.1 ++ [(pickTo (rowF made most (left - i)) (loA x.2 most) (cntA x.2 most)).2], (pickTo (rowF made most (left - i)) (loA x.2 most) (cntA x.2 most)).2)

/-- The reference's. -/
def nearR (n s most : Int) : Bool := decide (max (n - s) (-(n - s)) ≤ most)
def rowTo (f : Int → Cst) (s most : Int) : Nat → Cst
  | 0 => (0, 0, false)
  | k + 1 => if nearR (-20 + k) s most && (f (-20 + k)).2.2 then (if fewC (moreC (f (-20 + k)) s) (rowTo f s most k) then moreC (f (-20 + k)) s else rowTo f s most k) else rowTo f s most k
def rowR (made most : Int) : Nat → Int → Cst
  | 0, s => (0, 0, decide (s = made))
  | r + 1, s => rowTo (rowR made most r) s most 41
def pickDn (f : Int → Cst) (la most : Int) : Nat → Int
  | 0 => -21
  | k + 1 => if nearR (20 - k) la most && (f (20 - k)).2.2 && (decide (pickDn f la most k < -20) || !fewC (f (pickDn f la most k)) (f (20 - k))) then 20 - k else pickDn f la most k
def hideR (made most : Int) (left : Nat) (last : Int) : Nat → Option (List Int × Int)
  | 0 => some ([], last)
  | i + 1 => (hideR made most left last i).bind fun x => if pickDn (rowR made most (left - i)) x.2 most 41 < -20 then none else some (if i < left then x.1 ++ [pickDn (rowR made most (left - i)) x.2 most 41] else x.1, pickDn (rowR made most (left - i)) x.2 most 41)

/-- Less costs. -/
def Lex (a b : Cst) : Prop := a.1 < b.1 ∨ (a.1 = b.1 ∧ a.2.1 < b.2.1)
theorem befC_iff {a b : Cst} (ha : a.2.2 = false) (hb : b.2.2 = false) : befC a b = true ↔ Lex a b := by
  unfold befC Lex
  rw [ha, hb]
  simp only [Bool.or_self, Bool.false_eq_true, if_false]
  split <;> simp only [decide_eq_true_eq] <;> omega
theorem befC_none {a b : Cst} (ha : a.2.2 = true) : befC a b = false := by
  simp [befC, ha]
theorem befC_first {a b : Cst} (ha : a.2.2 = false) (hb : b.2.2 = true) : befC a b = true := by
  simp [befC, ha, hb]
theorem fewC_iff {a b : Cst} (ha : a.2.2 = true) (hb : b.2.2 = true) : fewC a b = true ↔ Lex a b := by
  unfold fewC Lex
  rw [ha, hb]
  simp
theorem fewC_first {a b : Cst} (ha : a.2.2 = true) (hb : b.2.2 = false) : fewC a b = true := by
  simp [fewC, ha, hb]
theorem Lex.trans {a b c : Cst} (h : Lex a b) (k : Lex b c) : Lex a c := by unfold Lex at *; omega
theorem Lex.not_le {a b c : Cst} (h : Lex a b) (k : ¬ Lex c b) : Lex a c := by unfold Lex at *; omega
theorem Lex.le_lt {a b c : Cst} (h : ¬ Lex b a) (k : Lex b c) : Lex a c := by unfold Lex at *; omega
theorem Lex.irr (a : Cst) : ¬ Lex a a := by unfold Lex; omega

/-- i is the least one of those in C that cost least. -/
structure Least (C : Int → Prop) (f : Int → Cst) (i : Int) : Prop where
  mem : C i
  min : ∀ j, C j → ¬ Lex (f j) (f i)
  fst : ∀ j, C j → j < i → Lex (f i) (f j)
theorem Least.uniq {C : Int → Prop} {f : Int → Cst} {i j : Int} (h : Least C f i) (k : Least C f j) : i = j := by
  rcases Int.lt_trichotomy i j with hl | hl | hl
  · exact absurd (k.fst i h.mem hl) (h.min j k.mem)
  · exact hl
  · exact absurd (h.fst j k.mem hl) (k.min i h.mem)
theorem Least.cong {C D : Int → Prop} {f g : Int → Cst} {i : Int} (h : Least C f i) (hC : ∀ j, C j ↔ D j) (hf : ∀ j, C j → (f j).1 = (g j).1 ∧ (f j).2.1 = (g j).2.1) : Least D g i := by
  have e : ∀ a b, C a → C b → (Lex (f a) (f b) ↔ Lex (g a) (g b)) := fun a b ha hb => by
    obtain ⟨h1, h2⟩ := hf a ha
    obtain ⟨h3, h4⟩ := hf b hb
    unfold Lex
    rw [h1, h2, h3, h4]
  exact ⟨(hC i).1 h.mem, fun j hj => fun hl => h.min j ((hC j).2 hj) ((e _ _ ((hC j).2 hj) h.mem).2 hl), fun j hj hl => (e _ _ h.mem ((hC j).2 hj)).1 (h.fst j ((hC j).2 hj) hl)⟩

/-- The slips lo, .., lo + k - 1 with costs. -/
def CandK (f : Int → Cst) (b : Bool) (lo : Int) (k : Nat) (j : Int) : Prop := (lo ≤ j ∧ j < lo + k) ∧ (f j).2.2 = b

theorem pickTo_spec (f : Int → Cst) (lo : Int) : ∀ k, (pickTo f lo k = (noneC, 0) ∧ ∀ j, ¬ CandK f false lo k j) ∨ ∃ i, pickTo f lo k = (f i, i) ∧ Least (CandK f false lo k) f i
  | 0 => .inl ⟨rfl, fun j h => by have := h.1; omega⟩
  | k + 1 => by
    have up : ∀ j, CandK f false lo k j → CandK f false lo (k + 1) j := fun j h => ⟨⟨h.1.1, by have := h.1.2; omega⟩, h.2⟩
    have dn : ∀ j, CandK f false lo (k + 1) j → CandK f false lo k j ∨ (j = lo + k ∧ (f (lo + k)).2.2 = false) := fun j h => by
      obtain ⟨⟨h1, h2⟩, h3⟩ := h
      rcases (by omega : j < lo + k ∨ j = lo + k) with h | h
      · exact .inl ⟨⟨h1, h⟩, h3⟩
      · exact .inr ⟨h, h ▸ h3⟩
    have hp : pickTo f lo (k + 1) = if befC (f (lo + k)) (pickTo f lo k).1 then (f (lo + k), lo + k) else pickTo f lo k := rfl
    cases hn : (f (lo + k)).2.2
    · rcases pickTo_spec f lo k with ⟨h1, h2⟩ | ⟨i, h1, h2⟩
      · refine .inr ⟨lo + k, by rw [hp, h1, if_pos (befC_first hn rfl)], ⟨⟨by omega, by omega⟩, hn⟩, fun j hj => ?_, fun j hj hl => ?_⟩
        · rcases dn j hj with h | ⟨rfl, _⟩
          · exact absurd h (h2 j)
          · exact Lex.irr _
        · rcases dn j hj with h | ⟨rfl, _⟩
          · exact absurd h (h2 j)
          · omega
      · by_cases hc : Lex (f (lo + k)) (f i)
        · refine .inr ⟨lo + k, by rw [hp, h1, if_pos ((befC_iff hn h2.mem.2).2 hc)], ⟨⟨by omega, by omega⟩, hn⟩, fun j hj => ?_, fun j hj hl => ?_⟩
          · rcases dn j hj with h | ⟨rfl, _⟩
            · exact fun hl => h2.min j h (hl.trans hc)
            · exact Lex.irr _
          · rcases dn j hj with h | ⟨rfl, _⟩
            · exact hc.not_le (h2.min j h)
            · omega
        · refine .inr ⟨i, by rw [hp, h1, if_neg (fun h => hc ((befC_iff hn h2.mem.2).1 h))], up i h2.mem, fun j hj => ?_, fun j hj hl => ?_⟩
          · rcases dn j hj with h | ⟨rfl, _⟩
            · exact h2.min j h
            · exact hc
          · rcases dn j hj with h | ⟨rfl, _⟩
            · exact h2.fst j h hl
            · have := h2.mem.1.2; omega
    · have hp2 : pickTo f lo (k + 1) = pickTo f lo k := by rw [hp, befC_none hn]; rfl
      have same : ∀ j, CandK f false lo (k + 1) j ↔ CandK f false lo k j := fun j => ⟨fun h => by
        rcases dn j h with h | ⟨_, h⟩
        · exact h
        · simp [hn] at h, up j⟩
      rcases pickTo_spec f lo k with ⟨h1, h2⟩ | ⟨i, h1, h2⟩
      · exact .inl ⟨hp2.trans h1, fun j hj => h2 j ((same j).1 hj)⟩
      · exact .inr ⟨i, hp2.trans h1, h2.cong (fun j => (same j).symm) fun _ _ => ⟨rfl, rfl⟩⟩

/-- The reference's candidates among the first k, among the last k. -/
def CandR (f : Int → Cst) (s most : Int) (k : Nat) (j : Int) : Prop := (-20 ≤ j ∧ j < -20 + k) ∧ nearR j s most = true ∧ (f j).2.2 = true
def CandD (f : Int → Cst) (s most : Int) (k : Nat) (j : Int) : Prop := (20 - k < j ∧ j ≤ 20) ∧ nearR j s most = true ∧ (f j).2.2 = true

theorem moreC_lex {a b : Cst} {s : Int} : Lex (moreC a s) (moreC b s) ↔ Lex a b := by
  unfold Lex moreC
  simp only
  split <;> omega

theorem rowTo_spec (f : Int → Cst) (s most : Int) : ∀ k, ((rowTo f s most k).2.2 = false ∧ ∀ j, ¬ CandR f s most k j) ∨ ∃ i, rowTo f s most k = moreC (f i) s ∧ Least (CandR f s most k) f i
  | 0 => .inl ⟨rfl, fun j h => by have := h.1; omega⟩
  | k + 1 => by
    have up : ∀ j, CandR f s most k j → CandR f s most (k + 1) j := fun j h => ⟨⟨h.1.1, by have := h.1.2; omega⟩, h.2⟩
    have dn : ∀ j, CandR f s most (k + 1) j → CandR f s most k j ∨ (j = -20 + k ∧ nearR (-20 + k) s most = true ∧ (f (-20 + k)).2.2 = true) := fun j h => by
      obtain ⟨⟨h1, h2⟩, h3⟩ := h
      rcases (by omega : j < -20 + k ∨ j = -20 + k) with h | h
      · exact .inl ⟨⟨h1, h⟩, h3⟩
      · exact .inr ⟨h, h ▸ h3⟩
    have hp : rowTo f s most (k + 1) = if nearR (-20 + k) s most && (f (-20 + k)).2.2 then (if fewC (moreC (f (-20 + k)) s) (rowTo f s most k) then moreC (f (-20 + k)) s else rowTo f s most k) else rowTo f s most k := rfl
    cases hn : (nearR (-20 + k) s most && (f (-20 + k)).2.2)
    · rw [hn] at hp
      have same : ∀ j, CandR f s most (k + 1) j ↔ CandR f s most k j := fun j => ⟨fun h => by
        rcases dn j h with h | ⟨_, h, h'⟩
        · exact h
        · simp [h, h'] at hn, up j⟩
      rcases rowTo_spec f s most k with ⟨h1, h2⟩ | ⟨i, h1, h2⟩
      · exact .inl ⟨by rw [hp]; exact h1, fun j hj => h2 j ((same j).1 hj)⟩
      · exact .inr ⟨i, hp.trans h1, h2.cong (fun j => (same j).symm) fun _ _ => ⟨rfl, rfl⟩⟩
    · rw [hn, if_pos rfl] at hp
      obtain ⟨hn1, hn2⟩ := Bool.and_eq_true_iff.1 hn
      have hn3 : (moreC (f (-20 + k)) s).2.2 = true := hn2
      rcases rowTo_spec f s most k with ⟨h1, h2⟩ | ⟨i, h1, h2⟩
      · refine .inr ⟨-20 + k, by rw [hp, if_pos (fewC_first hn3 h1)], ⟨⟨by omega, by omega⟩, hn1, hn2⟩, fun j hj => ?_, fun j hj hl => ?_⟩
        · rcases dn j hj with h | ⟨rfl, _⟩
          · exact absurd h (h2 j)
          · exact Lex.irr _
        · rcases dn j hj with h | ⟨rfl, _⟩
          · exact absurd h (h2 j)
          · omega
      · have hi3 : (moreC (f i) s).2.2 = true := h2.mem.2.2
        rw [h1] at hp
        by_cases hc : Lex (f (-20 + k)) (f i)
        · refine .inr ⟨-20 + k, by rw [hp, if_pos ((fewC_iff hn3 hi3).2 (moreC_lex.2 hc))], ⟨⟨by omega, by omega⟩, hn1, hn2⟩, fun j hj => ?_, fun j hj hl => ?_⟩
          · rcases dn j hj with h | ⟨rfl, _⟩
            · exact fun hl => h2.min j h (hl.trans hc)
            · exact Lex.irr _
          · rcases dn j hj with h | ⟨rfl, _⟩
            · exact hc.not_le (h2.min j h)
            · omega
        · refine .inr ⟨i, by rw [hp, if_neg (fun h => hc (moreC_lex.1 ((fewC_iff hn3 hi3).1 h)))], up i h2.mem, fun j hj => ?_, fun j hj hl => ?_⟩
          · rcases dn j hj with h | ⟨rfl, _⟩
            · exact h2.min j h
            · exact hc
          · rcases dn j hj with h | ⟨rfl, _⟩
            · exact h2.fst j h hl
            · have := h2.mem.1.2; omega

theorem pickDn_spec (f : Int → Cst) (s most : Int) : ∀ k, k ≤ 41 → (pickDn f s most k = -21 ∧ ∀ j, ¬ CandD f s most k j) ∨ Least (CandD f s most k) f (pickDn f s most k)
  | 0, _ => .inl ⟨rfl, fun j h => by have := h.1; omega⟩
  | k + 1, hk => by
    have up : ∀ j, CandD f s most k j → CandD f s most (k + 1) j := fun j h => ⟨⟨by have := h.1.1; omega, h.1.2⟩, h.2⟩
    have dn : ∀ j, CandD f s most (k + 1) j → CandD f s most k j ∨ (j = 20 - k ∧ nearR (20 - k) s most = true ∧ (f (20 - k)).2.2 = true) := fun j h => by
      obtain ⟨⟨h1, h2⟩, h3⟩ := h
      rcases (by omega : 20 - k < j ∨ j = 20 - k) with h | h
      · exact .inl ⟨⟨h, h2⟩, h3⟩
      · exact .inr ⟨h, h ▸ h3⟩
    have hp : pickDn f s most (k + 1) = if nearR (20 - k) s most && (f (20 - k)).2.2 && (decide (pickDn f s most k < -20) || !fewC (f (pickDn f s most k)) (f (20 - k))) then 20 - (k : Int) else pickDn f s most k := rfl
    have ih := pickDn_spec f s most k (by omega)
    cases hn : (nearR (20 - k) s most && (f (20 - k)).2.2)
    · rw [hn] at hp
      have same : ∀ j, CandD f s most (k + 1) j ↔ CandD f s most k j := fun j => ⟨fun h => by
        rcases dn j h with h | ⟨_, h, h'⟩
        · exact h
        · simp [h, h'] at hn, up j⟩
      have hp2 : pickDn f s most (k + 1) = pickDn f s most k := by rw [hp]; rfl
      rw [hp2]
      rcases ih with ⟨h1, h2⟩ | h2
      · exact .inl ⟨h1, fun j hj => h2 j ((same j).1 hj)⟩
      · exact .inr (h2.cong (fun j => (same j).symm) fun _ _ => ⟨rfl, rfl⟩)
    · rw [hn, Bool.true_and] at hp
      obtain ⟨hn1, hn2⟩ := Bool.and_eq_true_iff.1 hn
      generalize pickDn f s most (k + 1) = q at *
      generalize pickDn f s most k = i at *
      have new : (∀ j, CandD f s most k j → ¬ Lex (f j) (f (20 - k))) → Least (CandD f s most (k + 1)) f (20 - k) := fun h => by
        refine ⟨⟨⟨by omega, by omega⟩, hn1, hn2⟩, fun j hj => ?_, fun j hj hl => ?_⟩
        · rcases dn j hj with h' | ⟨rfl, _⟩
          · exact h j h'
          · exact Lex.irr _
        · have := hj.1; omega
      rcases ih with ⟨h1, h2⟩ | h2
      · obtain rfl : q = 20 - k := by rw [hp, h1]; rfl
        exact .inr (new fun j hj => absurd hj (h2 j))
      · have hi : ¬ i < -20 := by have := h2.mem.1; omega
        by_cases hc : Lex (f i) (f (20 - k))
        · obtain rfl : q = i := by rw [hp, if_neg (by simp [hi, (fewC_iff h2.mem.2.2 hn2).2 hc])]
          refine .inr ⟨up _ h2.mem, fun j hj => ?_, fun j hj hl => ?_⟩
          · rcases dn j hj with h | ⟨rfl, _⟩
            · exact h2.min j h
            · exact fun hl => Lex.irr _ (hl.trans hc)
          · rcases dn j hj with h | ⟨rfl, _⟩
            · exact h2.fst j h hl
            · exact hc
        · have hf : fewC (f i) (f (20 - k)) = false := by
            cases hq : fewC (f i) (f (20 - k)) with
            | false => rfl
            | true => exact absurd ((fewC_iff h2.mem.2.2 hn2).1 hq) hc
          obtain rfl : q = 20 - k := by rw [hp, if_pos (by simp [hf])]
          exact .inr (new fun j hj hl => hc (Lex.le_lt (h2.min j hj) hl))

/-- The reference's costs are the program's. -/
def SameC (a b : Cst) : Prop := b.2.2 = !a.2.2 ∧ (a.2.2 = false → a.1 = b.1 ∧ a.2.1 = b.2.1)

theorem cands {f g : Int → Cst} (h : ∀ j, -20 ≤ j → j ≤ 20 → SameC (f j) (g j)) {n most : Int} (_ : -20 ≤ n ∧ n ≤ 20) (_ : 0 ≤ most) (j : Int) :
    (CandK f false (loA n most) (cntA n most) j ↔ CandR g n most 41 j) ∧ (CandK f false (loA n most) (cntA n most) j ↔ CandD g n most 41 j) := by
  have e : ∀ j, nearR j n most = true ↔ n - most ≤ j ∧ j ≤ n + most := fun j => by simp only [nearR, decide_eq_true_eq]; omega
  have r : (loA n most ≤ j ∧ j < loA n most + cntA n most) ↔ (-20 ≤ j ∧ j ≤ 20) ∧ n - most ≤ j ∧ j ≤ n + most := by unfold loA cntA; omega
  have k : (-20 ≤ j ∧ j ≤ 20) → ((f j).2.2 = false ↔ (g j).2.2 = true) := fun hj => by
    rw [(h j hj.1 hj.2).1]
    cases (f j).2.2 <;> simp
  constructor
  · unfold CandK CandR
    rw [r, e]
    constructor
    · rintro ⟨⟨h1, h2⟩, h3⟩
      exact ⟨by omega, h2, (k h1).1 h3⟩
    · rintro ⟨h1, h2, h3⟩
      exact ⟨⟨by omega, h2⟩, (k (by omega)).2 h3⟩
  · unfold CandK CandD
    rw [r, e]
    constructor
    · rintro ⟨⟨h1, h2⟩, h3⟩
      exact ⟨by omega, h2, (k h1).1 h3⟩
    · rintro ⟨h1, h2, h3⟩
      exact ⟨⟨by omega, h2⟩, (k (by omega)).2 h3⟩

theorem row_same (made most : Int) (hm : 0 ≤ most) : ∀ (r : Nat) (s : Int), -20 ≤ s → s ≤ 20 → SameC (rowF made most r s) (rowR made most r s)
  | 0, s, _, _ => ⟨by simp only [rowF, rowR]; by_cases h : s = made <;> simp [h], fun _ => ⟨rfl, rfl⟩⟩
  | r + 1, s, h1, h2 => by
    have ih := row_same made most hm r
    have hc := fun j => (cands ih ⟨h1, h2⟩ hm j).1
    simp only [rowF, rowR]
    have eP := pickTo_spec (rowF made most r) (loA s most) (cntA s most)
    have eR := rowTo_spec (rowR made most r) s most 41
    generalize pickTo (rowF made most r) (loA s most) (cntA s most) = p at *
    generalize rowTo (rowR made most r) s most 41 = q at *
    rcases eP with ⟨rfl, e2⟩ | ⟨i, rfl, e2⟩ <;> rcases eR with ⟨e3, e4⟩ | ⟨i', rfl, e4⟩
    · refine ⟨?_, ?_⟩
      · rw [e3]; unfold plusC noneC; split <;> rfl
      · unfold plusC noneC; split <;> (intro h; cases h)
    · exact absurd ((hc _).2 e4.mem) (e2 _)
    · exact absurd ((hc _).1 e2.mem) (e4 _)
    · have e5 := e2.cong hc fun j hj => (ih j (by have := hj.1; unfold loA at this; omega) (by have := hj.1; unfold loA cntA at this; omega)).2 hj.2
      obtain rfl := e5.uniq e4
      obtain ⟨s1, s2⟩ := ih i (by have := e4.mem.1; omega) (by have := e4.mem.1; omega)
      obtain ⟨s3, s4⟩ := s2 e2.mem.2
      refine ⟨?_, ?_⟩
      · simp only [moreC, s1]
        unfold plusC
        split <;> rfl
      · intro _
        simp only [moreC, plusC]
        split <;> rename_i h0
        · subst h0; simp [s3, s4]
        · simp [s3, s4]

theorem hide_same (made most : Int) (hm : 0 ≤ most) (left : Nat) (last : Int) (hl : -20 ≤ last ∧ last ≤ 20) : ∀ i, i ≤ left + 1 →
    (hideTo made most left last i = none ∧ hideR made most left last i = none) ∨ ∃ xs la, hideTo made most left last i = some (xs, la) ∧ hideR made most left last i = some (xs.take left, la) ∧ (-20 ≤ la ∧ la ≤ 20) ∧ xs.length = i
  | 0, _ => .inr ⟨[], last, rfl, by simp [hideR], hl, rfl⟩
  | i + 1, hi => by
    rcases hide_same made most hm left last hl i (by omega) with ⟨h1, h2⟩ | ⟨xs, la, h1, h2, h3, h4⟩
    · exact .inl ⟨by simp [hideTo, h1], by simp [hideR, h2]⟩
    · have hc := fun j => (cands (row_same made most hm (left - i)) h3 hm j).2
      have eP := pickTo_spec (rowF made most (left - i)) (loA la most) (cntA la most)
      have eR := pickDn_spec (rowR made most (left - i)) la most 41 (by omega)
      have hP : hideTo made most left last (i + 1) = if (pickTo (rowF made most (left - i)) (loA la most) (cntA la most)).1.2.2 then none else some (xs ++ [(pickTo (rowF made most (left - i)) (loA la most) (cntA la most)).2], (pickTo (rowF made most (left - i)) (loA la most) (cntA la most)).2) := by
        simp [hideTo, h1]
      have hR : hideR made most left last (i + 1) = if pickDn (rowR made most (left - i)) la most 41 < -20 then none else some (if i < left then xs.take left ++ [pickDn (rowR made most (left - i)) la most 41] else xs.take left, pickDn (rowR made most (left - i)) la most 41) := by
        simp [hideR, h2]
      rw [hP, hR]
      generalize pickTo (rowF made most (left - i)) (loA la most) (cntA la most) = p at *
      generalize pickDn (rowR made most (left - i)) la most 41 = q at *
      rcases eP with ⟨rfl, e2⟩ | ⟨j, rfl, e2⟩ <;> rcases eR with ⟨rfl, e4⟩ | e4
      · exact .inl ⟨rfl, rfl⟩
      · exact absurd ((hc _).2 e4.mem) (e2 _)
      · exact absurd ((hc _).1 e2.mem) (e4 _)
      · have e5 := e2.cong hc fun j hj => (row_same made most hm (left - i) j (by have := hj.1; unfold loA at this; omega) (by have := hj.1; unfold loA cntA at this; omega)).2 hj.2
        obtain rfl := e5.uniq e4
        refine .inr ⟨xs ++ [j], j, by simp [e2.mem.2], ?_, ⟨by have := e4.mem.1; omega, e4.mem.1.2⟩, by simp [h4]⟩
        rw [if_neg (by have := e4.mem.1; omega)]
        by_cases hil : i < left
        · rw [if_pos hil, List.take_of_length_le (show xs.length ≤ left by omega), List.take_of_length_le (show (xs ++ [j]).length ≤ left by simp; omega)]
        · rw [if_neg hil, List.take_append_of_le_length (by omega)]
end Go.Proofs.Ytgeapenglcohfaa
