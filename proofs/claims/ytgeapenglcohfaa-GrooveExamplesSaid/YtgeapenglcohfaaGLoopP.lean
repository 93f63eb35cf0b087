/- Loops and orders in plain Lean: what the queue of groove.Loop finds; an order, or a loop. No program. -/
import Derived.Test.YtgeapenglcohfaaGOrd
namespace Go.Proofs.Ytgeapenglcohfaa
section
/-- What is ahead of b is queued. -/
def aStep (M : Nat → Nat → Bool) (b v : Nat) (s : List Nat × (Nat → Nat)) (a : Nat) : List Nat × (Nat → Nat) :=
  if M a b && s.2 a == 0 then (s.1 ++ [a], fun q => if q = a then v + 1 else s.2 q) else s
def aTo (M : Nat → Nat → Bool) (f b v : Nat) (s : List Nat × (Nat → Nat)) : Nat → List Nat × (Nat → Nat)
  | 0 => s
  | m + 1 => aStep M b v (aTo M f b v s m) (f + m)
def vOf (f b : Nat) (bk : Nat → Nat) : Nat := if b = f then 0 else bk b
def bStep (M : Nat → Nat → Bool) (f n : Nat) (s : List Nat × (Nat → Nat)) : List Nat × (Nat → Nat) :=
  match s.1 with
  | [] => s
  | b :: q => aTo M f b (vOf f b s.2) (q, s.2) (n - f)
def bTo (M : Nat → Nat → Bool) (f n : Nat) : Nat → List Nat × (Nat → Nat)
  | 0 => ([f], fun _ => 0)
  | t + 1 => bStep M f n (bTo M f n t)

/-- A walk of so many rules from a to f, by way of cuts from f on. -/
def Wk (M : Nat → Nat → Bool) (f n : Nat) : Nat → Nat → Prop
  | 0, a => a = f
  | d + 1, a => ∃ b, f ≤ b ∧ b < n ∧ M a b = true ∧ Wk M f n d b

/-- How many cuts of the first n are not reached. -/
def unset : Nat → (Nat → Nat) → Nat
  | 0, _ => 0
  | n + 1, bk => unset n bk + if bk n = 0 then 1 else 0
theorem unset_ext {bk bk' : Nat → Nat} : ∀ {n : Nat}, (∀ a, a < n → bk a = bk' a) → unset n bk = unset n bk'
  | 0, _ => rfl
  | n + 1, h => by
    unfold unset
    rw [unset_ext fun a ha => h a (by omega), h n (by omega)]
theorem unset_put {a v : Nat} {bk : Nat → Nat} (h0 : bk a = 0) : ∀ {n : Nat}, a < n → unset n (fun q => if q = a then v + 1 else bk q) + 1 = unset n bk
  | 0, h => by omega
  | n + 1, h => by
    unfold unset
    by_cases e : a = n
    · subst e
      rw [if_pos h0, unset_ext (bk' := bk) fun q hq => if_neg (by omega)]
      simp
    · have := unset_put (v := v) h0 (n := n) (by omega)
      have h2 : (if n = a then v + 1 else bk n) = bk n := if_neg (fun e' => e e'.symm)
      show unset n (fun q => if q = a then v + 1 else bk q) + (if (if n = a then v + 1 else bk n) = 0 then 1 else 0) + 1 = _
      rw [h2]
      omega
theorem unset_le (bk : Nat → Nat) : ∀ n, unset n bk ≤ n
  | 0 => Nat.le_refl _
  | n + 1 => by
    have := unset_le bk n
    unfold unset
    split <;> omega

theorem aTo_bk (M : Nat → Nat → Bool) (f b v : Nat) (s : List Nat × (Nat → Nat)) : ∀ m q, (aTo M f b v s m).2 q = if (f ≤ q ∧ q < f + m) ∧ M q b = true ∧ s.2 q = 0 then v + 1 else s.2 q
  | 0, q => by
    rw [if_neg (by omega)]
    rfl
  | m + 1, q => by
    have ih := aTo_bk M f b v s m
    show (aStep M b v (aTo M f b v s m) (f + m)).2 q = _
    unfold aStep
    have hm := ih (f + m)
    rw [if_neg (by omega)] at hm
    rw [hm]
    by_cases h : M (f + m) b = true ∧ s.2 (f + m) = 0
    · rw [if_pos (by rw [h.1, h.2]; rfl)]
      show (if q = f + m then v + 1 else (aTo M f b v s m).2 q) = _
      by_cases e : q = f + m
      · subst e
        rw [if_pos rfl, if_pos ⟨by omega, h⟩]
      · rw [if_neg e, ih]
        by_cases h2 : (f ≤ q ∧ q < f + m) ∧ M q b = true ∧ s.2 q = 0
        · rw [if_pos h2, if_pos ⟨by omega, h2.2⟩]
        · rw [if_neg h2, if_neg (fun h3 => h2 ⟨by omega, h3.2⟩)]
    · rw [if_neg (by simpa using h), ih]
      by_cases e : q = f + m
      · subst e
        rw [if_neg (by omega), if_neg (fun h3 => h h3.2)]
      · by_cases h2 : (f ≤ q ∧ q < f + m) ∧ M q b = true ∧ s.2 q = 0
        · rw [if_pos h2, if_pos ⟨by omega, h2.2⟩]
        · rw [if_neg h2, if_neg (fun h3 => h2 ⟨by omega, h3.2⟩)]
/-- The queue: what was there, and new ones. -/
theorem aTo_q (M : Nat → Nat → Bool) (f b v : Nat) (s : List Nat × (Nat → Nat)) : ∀ m, ∃ r, (aTo M f b v s m).1 = s.1 ++ r ∧ (∀ a ∈ r, (f ≤ a ∧ a < f + m) ∧ M a b = true ∧ s.2 a = 0) ∧ ∀ a, (f ≤ a ∧ a < f + m) → M a b = true → s.2 a = 0 → a ∈ r
  | 0 => ⟨[], (List.append_nil _).symm, fun a ha => (by cases ha), fun a ha => by omega⟩
  | m + 1 => by
    obtain ⟨r, h1, h2, h3⟩ := aTo_q M f b v s m
    have hm := aTo_bk M f b v s m (f + m)
    rw [if_neg (by omega)] at hm
    show ∃ r, (aStep M b v (aTo M f b v s m) (f + m)).1 = _ ∧ _
    unfold aStep
    rw [hm]
    by_cases h : M (f + m) b = true ∧ s.2 (f + m) = 0
    · rw [if_pos (by rw [h.1, h.2]; rfl)]
      refine ⟨r ++ [f + m], by rw [h1, List.append_assoc], fun a ha => ?_, fun a ha hb hc => ?_⟩
      · rcases List.mem_append.1 ha with ha | ha
        · obtain ⟨ha, hb⟩ := h2 a ha
          exact ⟨by omega, hb⟩
        · rw [List.mem_singleton] at ha
          subst ha
          exact ⟨by omega, h⟩
      · rw [List.mem_append, List.mem_singleton]
        by_cases e : a = f + m
        · exact .inr e
        · exact .inl (h3 a (by omega) hb hc)
    · rw [if_neg (by simpa using h)]
      refine ⟨r, h1, fun a ha => ?_, fun a ha hb hc => ?_⟩
      · obtain ⟨ha, hb⟩ := h2 a ha
        exact ⟨by omega, hb⟩
      · by_cases e : a = f + m
        · subst e
          exact absurd ⟨hb, hc⟩ h
        · exact h3 a (by omega) hb hc
theorem aTo_size (M : Nat → Nat → Bool) (f n b v : Nat) (s : List Nat × (Nat → Nat)) : ∀ m, f + m ≤ n → (aTo M f b v s m).1.length + unset n (aTo M f b v s m).2 = s.1.length + unset n s.2
  | 0, _ => rfl
  | m + 1, h => by
    have ih := aTo_size M f n b v s m (by omega)
    show (aStep M b v (aTo M f b v s m) (f + m)).1.length + unset n (aStep M b v (aTo M f b v s m) (f + m)).2 = _
    unfold aStep
    by_cases hc : (M (f + m) b && (aTo M f b v s m).2 (f + m) == 0) = true
    · rw [if_pos hc]
      simp only [Bool.and_eq_true, beq_iff_eq] at hc
      have := unset_put (v := v) hc.2 (n := n) (by omega)
      simp only [List.length_append, List.length_singleton]
      omega
    · rw [if_neg hc]
      exact ih

/-- What the queue keeps, once f is done. -/
structure BInv (M : Nat → Nat → Bool) (f n : Nat) (q : List Nat) (bk : Nat → Nat) : Prop where
  mem : ∀ a ∈ q, bk a ≠ 0
  low : ∀ a, bk a ≠ 0 → f ≤ a ∧ a < n ∧ Wk M f n (bk a) a
  fst : ∀ a, f ≤ a → a < n → M a f = true → bk a ≠ 0 ∧ bk a ≤ 1
  done : ∀ b, b ≠ f → bk b ≠ 0 → b ∉ q → ∀ a, f ≤ a → a < n → M a b = true → bk a ≠ 0 ∧ bk a ≤ bk b + 1
  sorted : q.Pairwise fun a b => bk a ≤ bk b
  head : ∀ b l, q = b :: l → ∀ a, bk a ≤ bk b + 1
theorem BInv.start {M : Nat → Nat → Bool} {f n : Nat} (hf : f < n) : BInv M f n (bTo M f n 1).1 (bTo M f n 1).2 := by
  have hv : ∀ bk, vOf f f bk = 0 := fun bk => if_pos rfl
  show BInv M f n (aTo M f f (vOf f f _) ([], fun _ => 0) (n - f)).1 (aTo M f f (vOf f f _) ([], fun _ => 0) (n - f)).2
  rw [hv]
  obtain ⟨r, h1, h2, h3⟩ := aTo_q M f f 0 ([], fun _ => 0) (n - f)
  have hb := aTo_bk M f f 0 ([], fun _ => 0) (n - f)
  generalize aTo M f f 0 ([], fun _ => 0) (n - f) = s at *
  obtain ⟨q, bk⟩ := s
  simp only [List.nil_append] at h1 h2 h3 hb ⊢
  subst h1
  have hone : ∀ a, bk a ≠ 0 → ((f ≤ a ∧ a < f + (n - f)) ∧ M a f = true) ∧ bk a = 1 := fun a ha => by
    rw [hb] at ha ⊢
    split at ha
    · rename_i h
      rw [if_pos h]
      exact ⟨⟨h.1, h.2.1⟩, rfl⟩
    · exact absurd rfl ha
  have hset : ∀ a, f ≤ a → a < n → M a f = true → bk a = 1 := fun a h1 h2 h3 => by
    rw [hb, if_pos ⟨by omega, h3, trivial⟩]
  refine ⟨fun a ha => ?_, fun a ha => ?_, fun a h1 h2 h3 => ?_, fun b hb' h0 hq => ?_, ?_, fun b l e a => ?_⟩
  · obtain ⟨hr, hM, _⟩ := h2 a ha
    rw [hset a hr.1 (by omega) hM]
    decide
  · obtain ⟨⟨hr, hM⟩, h1⟩ := hone a ha
    rw [h1]
    exact ⟨hr.1, by omega, f, Nat.le_refl _, hf, hM, rfl⟩
  · rw [hset a h1 h2 h3]
    decide
  · obtain ⟨⟨hr, hM⟩, _⟩ := hone b h0
    exact absurd (h3 b hr hM trivial) hq
  · refine List.Pairwise.imp_of_mem (R := fun _ _ => True) (fun {a b} ha hb' _ => ?_) (by simp [List.pairwise_iff_forall_sublist])
    obtain ⟨hr, hM, _⟩ := h2 a ha
    obtain ⟨hr', hM', _⟩ := h2 b hb'
    rw [hset a hr.1 (by omega) hM, hset b hr'.1 (by omega) hM']
    exact Nat.le_refl _
  · by_cases h : bk a = 0
    · omega
    · have := (hone a h).2
      omega
theorem BInv.step {M : Nat → Nat → Bool} {f n : Nat} {q : List Nat} {bk : Nat → Nat} (h : BInv M f n q bk) : BInv M f n (bStep M f n (q, bk)).1 (bStep M f n (q, bk)).2 := by
  cases q with
  | nil => exact h
  | cons b l =>
    show BInv M f n (aTo M f b (vOf f b bk) (l, bk) (n - f)).1 (aTo M f b (vOf f b bk) (l, bk) (n - f)).2
    obtain ⟨r, h1, h2, h3⟩ := aTo_q M f b (vOf f b bk) (l, bk) (n - f)
    have hb := aTo_bk M f b (vOf f b bk) (l, bk) (n - f)
    generalize aTo M f b (vOf f b bk) (l, bk) (n - f) = s at *
    obtain ⟨q', bk'⟩ := s
    simp only at h1 h2 h3 hb ⊢
    subst h1
    have hb0 := h.mem b (List.mem_cons_self ..)
    obtain ⟨hbf, hbn, hbw⟩ := h.low b hb0
    have hsrt := List.pairwise_cons.1 h.sorted
    by_cases e : b = f
    · -- f once more: nothing is left to do
      subst e
      have hsame : ∀ a, bk' a = bk a := fun a => by
        rw [hb]
        split
        · rename_i hc
          exact absurd hc.2.2 (h.fst a hc.1.1 (by omega) hc.2.1).1
        · rfl
      have hr0 : r = [] := by
        cases r with
        | nil => rfl
        | cons x xs =>
          obtain ⟨hx, hM, h0⟩ := h2 x (List.mem_cons_self ..)
          exact absurd h0 (h.fst x hx.1 (by omega) hM).1
      subst hr0
      rw [List.append_nil, show bk' = bk from funext hsame]
      refine ⟨fun a ha => h.mem a (List.mem_cons_of_mem _ ha), h.low, h.fst, fun b' hb' h0 hq => h.done b' hb' h0 (fun hm => ?_), hsrt.2, fun b' l' e a => ?_⟩
      · rcases List.mem_cons.1 hm with rfl | hm
        · exact hb' rfl
        · exact hq hm
      · subst e
        have := h.head b _ rfl a
        have := hsrt.1 b' (List.mem_cons_self ..)
        omega
    · rw [show vOf f b bk = bk b from if_neg e] at hb
      have hold : ∀ a, bk a ≠ 0 → bk' a = bk a := fun a ha => by rw [hb, if_neg (fun hc => ha hc.2.2)]
      have hnew : ∀ a, bk' a ≠ 0 → bk a = 0 → (f ≤ a ∧ a < n) ∧ M a b = true ∧ bk' a = bk b + 1 ∧ a ∈ r := fun a ha h0 => by
        have hc := hb a
        split at hc
        · rename_i hh
          exact ⟨by omega, hh.2.1, hc, h3 a hh.1 hh.2.1 h0⟩
        · rw [hc] at ha
          exact absurd h0 ha
      have hrn : ∀ a ∈ r, bk' a = bk b + 1 := fun a ha => by
        obtain ⟨hr, hM, h0⟩ := h2 a ha
        rw [hb, if_pos ⟨hr, hM, h0⟩]
      have hle : ∀ a, bk' a ≤ bk b + 1 := fun a => by
        rw [hb]
        split
        · exact Nat.le_refl _
        · exact h.head b l rfl a
      have hmono : ∀ a, bk a ≠ 0 → bk' a ≠ 0 := fun a ha => by rw [hold a ha]; exact ha
      refine ⟨fun a ha => ?_, fun a ha => ?_, fun a h1 h2 h3 => ?_, fun c hc h0 hq a hfa han hM => ?_, ?_, fun c l' ec a => ?_⟩
      · rcases List.mem_append.1 ha with ha | ha
        · exact hmono a (h.mem a (List.mem_cons_of_mem _ ha))
        · rw [hrn a ha]
          omega
      · by_cases h0 : bk a = 0
        · obtain ⟨hr, hM, he, _⟩ := hnew a ha h0
          rw [he]
          exact ⟨hr.1, hr.2, b, hbf, hbn, hM, hbw⟩
        · rw [hold a h0]
          exact h.low a h0
      · obtain ⟨u1, u2⟩ := h.fst a h1 h2 h3
        rw [hold a u1]
        exact ⟨u1, u2⟩
      · by_cases e2 : c = b
        · subst e2
          rw [hold c hb0]
          refine ⟨?_, hle a⟩
          by_cases h0a : bk a = 0
          · rw [hb, if_pos ⟨by omega, hM, h0a⟩]
            omega
          · exact hmono a h0a
        · by_cases h0c : bk c = 0
          · exact absurd (List.mem_append_right _ (hnew c h0 h0c).2.2.2) hq
          · rw [hold c h0c]
            obtain ⟨u1, u2⟩ := h.done c hc h0c (fun hm => by
              rcases List.mem_cons.1 hm with rfl | hm
              · exact e2 rfl
              · exact hq (List.mem_append_left _ hm)) a hfa han hM
            rw [hold a u1]
            exact ⟨u1, u2⟩
      · rw [List.pairwise_append]
        refine ⟨?_, ?_, fun a ha c hc => ?_⟩
        · refine List.Pairwise.imp_of_mem (fun {a c} ha hc hac => ?_) hsrt.2
          rw [hold a (h.mem a (List.mem_cons_of_mem _ ha)), hold c (h.mem c (List.mem_cons_of_mem _ hc))]
          exact hac
        · refine List.Pairwise.imp_of_mem (R := fun _ _ => True) (fun {a c} ha hc _ => ?_) (by simp [List.pairwise_iff_forall_sublist])
          rw [hrn a ha, hrn c hc]
          exact Nat.le_refl _
        · rw [hrn c hc]
          exact hle a
      · have h4 := hle a
        have h5 : bk b ≤ bk' c := by
          cases l with
          | nil =>
            rw [List.nil_append] at ec
            rw [hrn c (by rw [ec]; exact List.mem_cons_self ..)]
            omega
          | cons x xs =>
            have : x = c := by
              rw [List.cons_append] at ec
              exact (List.cons.inj ec).1
            subst this
            rw [hold x (h.mem x (List.mem_cons_of_mem _ (List.mem_cons_self ..)))]
            exact hsrt.1 x (List.mem_cons_self ..)
        omega
theorem BInv.to {M : Nat → Nat → Bool} {f n : Nat} (hf : f < n) : ∀ t, BInv M f n (bTo M f n (t + 1)).1 (bTo M f n (t + 1)).2
  | 0 => BInv.start hf
  | t + 1 => (BInv.to hf t).step
theorem bStep_size {M : Nat → Nat → Bool} {f n : Nat} {s : List Nat × (Nat → Nat)} (hf : f < n) (h : s.1 ≠ []) : (bStep M f n s).1.length + unset n (bStep M f n s).2 + 1 = s.1.length + unset n s.2 := by
  obtain ⟨q, bk⟩ := s
  cases q with
  | nil => exact absurd rfl h
  | cons b l =>
    have := aTo_size M f n b (vOf f b bk) (l, bk) (n - f) (by omega)
    show (aTo M f b (vOf f b bk) (l, bk) (n - f)).1.length + unset n (aTo M f b (vOf f b bk) (l, bk) (n - f)).2 + 1 = l.length + 1 + unset n bk
    rw [this]
    show l.length + unset n bk + 1 = l.length + 1 + unset n bk
    omega
theorem bTo_stop {M : Nat → Nat → Bool} {f n t : Nat} (h : (bTo M f n t).1 = []) : ∀ d, bTo M f n (t + d) = bTo M f n t
  | 0 => rfl
  | d + 1 => by
    show bStep M f n (bTo M f n (t + d)) = _
    rw [bTo_stop h d]
    unfold bStep
    rw [h]
theorem bTo_size {M : Nat → Nat → Bool} {f n : Nat} (hf : f < n) : ∀ t, (bTo M f n t).1 = [] ∨ (bTo M f n t).1.length + unset n (bTo M f n t).2 + t ≤ n + 1
  | 0 => .inr (by
    have := unset_le (fun _ => 0) n
    show 1 + unset n (fun _ => 0) + 0 ≤ n + 1
    omega)
  | t + 1 => by
    by_cases h : (bTo M f n t).1 = []
    · rw [bTo_stop h 1]
      exact .inl h
    · right
      have := bStep_size (M := M) hf h
      have h2 := (bTo_size (M := M) hf t).resolve_left h
      show (bStep M f n (bTo M f n t)).1.length + unset n (bStep M f n (bTo M f n t)).2 + (t + 1) ≤ n + 1
      omega
/-- How far each cut is from f. -/
def bkF (M : Nat → Nat → Bool) (f n : Nat) : Nat → Nat := (bTo M f n (n + 1)).2
theorem bTo_end {M : Nat → Nat → Bool} {f n : Nat} (hf : f < n) : (bTo M f n (n + 1)).1 = [] := by
  rcases bTo_size (M := M) hf (n + 1) with h | h
  · exact h
  · exact List.eq_nil_of_length_eq_zero (by omega)
theorem bTo_bkF {M : Nat → Nat → Bool} {f n t : Nat} (hf : f < n) (h : (bTo M f n t).1 = []) : (bTo M f n t).2 = bkF M f n := by
  unfold bkF
  rcases Nat.le_total t (n + 1) with h1 | h1
  · obtain ⟨d, hd⟩ := Nat.exists_eq_add_of_le h1
    rw [hd, bTo_stop h d]
  · obtain ⟨d, hd⟩ := Nat.exists_eq_add_of_le h1
    rw [hd, bTo_stop (bTo_end hf) d]
theorem bkF_inv (M : Nat → Nat → Bool) {f n : Nat} (hf : f < n) : BInv M f n [] (bkF M f n) := by
  have := BInv.to (M := M) hf n
  rw [bTo_end hf] at this
  exact this
theorem bkF_wk {M : Nat → Nat → Bool} {f n a : Nat} (hf : f < n) (h : bkF M f n a ≠ 0) : f ≤ a ∧ a < n ∧ Wk M f n (bkF M f n a) a := (bkF_inv M hf).low a h
theorem wk_bkF {M : Nat → Nat → Bool} {f n : Nat} (hf : f < n) : ∀ {d a : Nat}, f ≤ a → a < n → Wk M f n (d + 1) a → bkF M f n a ≠ 0 ∧ bkF M f n a ≤ d + 1
  | 0, a, h1, h2, h3 => by
    obtain ⟨b, _, _, hM, e⟩ := h3
    obtain rfl : b = f := e
    exact (bkF_inv M hf).fst a h1 h2 hM
  | d + 1, a, h1, h2, h3 => by
    obtain ⟨b, hb1, hb2, hM, h4⟩ := h3
    obtain ⟨u1, u2⟩ := wk_bkF hf hb1 hb2 h4
    by_cases e : b = f
    · subst e
      obtain ⟨v1, v2⟩ := (bkF_inv M hf).fst a h1 h2 hM
      exact ⟨v1, by omega⟩
    · obtain ⟨v1, v2⟩ := (bkF_inv M hf).done b e u1 (by simp) a h1 h2 hM
      exact ⟨v1, by omega⟩

/-- The next cut on the way. -/
def nxtP (M : Nat → Nat → Bool) (f : Nat) (bk : Nat → Nat) (last left i : Nat) : Bool := decide (f < i) && (M last i && bk i == left)
def nxt (M : Nat → Nat → Bool) (f n : Nat) (bk : Nat → Nat) (last left : Nat) : Nat := ((List.range n).find? (nxtP M f bk last left)).getD 0
theorem nxt_ok {M : Nat → Nat → Bool} {f n last left : Nat} (hf : f < n) (h : bkF M f n last = left + 1) (hl : 0 < left) : ∃ x, (List.range n).find? (nxtP M f (bkF M f n) last left) = some x := by
  cases hx : (List.range n).find? (nxtP M f (bkF M f n) last left) with
  | some x => exact ⟨x, rfl⟩
  | none =>
    exfalso
    rw [List.find?_eq_none] at hx
    obtain ⟨h1, h2, h3⟩ := bkF_wk hf (show bkF M f n last ≠ 0 by omega)
    rw [h] at h3
    obtain ⟨b, hb1, hb2, hM, h4⟩ := h3
    obtain ⟨e, rfl⟩ : ∃ e, left = e + 1 := ⟨left - 1, by omega⟩
    obtain ⟨u1, u2⟩ := wk_bkF hf hb1 hb2 h4
    have hne : b ≠ f := by
      rintro rfl
      have := (wk_bkF (d := 0) hf h1 h2 ⟨b, hb1, hb2, hM, rfl⟩).2
      omega
    obtain ⟨_, _, hw⟩ := bkF_wk hf u1
    have := (wk_bkF (d := bkF M f n b) hf h1 h2 ⟨b, hb1, hb2, hM, hw⟩).2
    refine hx b (List.mem_range.2 hb2) ?_
    unfold nxtP
    rw [decide_eq_true (by omega), hM, show (bkF M f n b == e + 1) = true by rw [beq_iff_eq]; omega]
    rfl
/-- The way from f: so many cuts behind it. -/
def gTo (M : Nat → Nat → Bool) (f n : Nat) : Nat → List Nat
  | 0 => [f]
  | j + 1 => gTo M f n j ++ [nxt M f n (bkF M f n) ((gTo M f n j).getLast?.getD 0) (bkF M f n f - 1 - j)]
theorem nxtP_iff {M : Nat → Nat → Bool} {f : Nat} {bk : Nat → Nat} {last left i : Nat} : nxtP M f bk last left i = true ↔ f < i ∧ M last i = true ∧ bk i = left := by
  unfold nxtP
  simp [Bool.and_eq_true]
theorem nxt_spec {M : Nat → Nat → Bool} {f n last left : Nat} (hf : f < n) (h : bkF M f n last = left + 1) (hl : 0 < left) : nxtP M f (bkF M f n) last left (nxt M f n (bkF M f n) last left) = true ∧ nxt M f n (bkF M f n) last left < n ∧ ∀ i, i < nxt M f n (bkF M f n) last left → nxtP M f (bkF M f n) last left i = false := by
  obtain ⟨x, hx⟩ := nxt_ok hf h hl
  have e : nxt M f n (bkF M f n) last left = x := by unfold nxt; rw [hx]; rfl
  rw [e]
  have h1 := List.find?_some hx
  have h2 := List.mem_range.1 (List.mem_of_find?_eq_some hx)
  refine ⟨h1, h2, fun i hi => ?_⟩
  have h3 := (List.find?_range_eq_some.1 hx).2.2 i hi
  simpa using h3
theorem gTo_len (M : Nat → Nat → Bool) (f n : Nat) : ∀ j, (gTo M f n j).length = j + 1
  | 0 => rfl
  | j + 1 => by
    show (gTo M f n j ++ _).length = _
    rw [List.length_append, gTo_len M f n j]
    rfl
theorem gTo_ne (M : Nat → Nat → Bool) (f n j : Nat) : gTo M f n j ≠ [] := fun h => by
  have := gTo_len M f n j
  rw [h] at this
  cases this
theorem gTo_pre (M : Nat → Nat → Bool) (f n : Nat) {i j : Nat} (h : i ≤ j) : (gTo M f n j)[i]? = (gTo M f n i)[i]? := by
  obtain ⟨d, rfl⟩ := Nat.exists_eq_add_of_le h
  induction d with
  | zero => rfl
  | succ d ih =>
    rw [← Nat.add_assoc]
    show (gTo M f n (i + d) ++ _)[i]? = _
    rw [List.getElem?_append_left (by rw [gTo_len]; omega)]
    exact ih (by omega)
/-- The cut at place i on the way. -/
def gAt (M : Nat → Nat → Bool) (f n i : Nat) : Nat := (gTo M f n i)[i]?.getD 0
theorem gTo_at (M : Nat → Nat → Bool) (f n : Nat) {i j : Nat} (h : i ≤ j) : (gTo M f n j)[i]? = some (gAt M f n i) := by
  rw [gTo_pre M f n h]
  unfold gAt
  rw [List.getElem?_eq_getElem (by rw [gTo_len]; omega)]
  rfl
theorem gTo_last (M : Nat → Nat → Bool) (f n j : Nat) : (gTo M f n j).getLast?.getD 0 = gAt M f n j := by
  rw [List.getLast?_eq_getElem?, gTo_len, Nat.add_sub_cancel, gTo_at M f n (Nat.le_refl j)]
  rfl
theorem gAt_succ (M : Nat → Nat → Bool) (f n j : Nat) : gAt M f n (j + 1) = nxt M f n (bkF M f n) (gAt M f n j) (bkF M f n f - 1 - j) := by
  unfold gAt
  show ((gTo M f n j ++ [_])[j + 1]?).getD 0 = _
  rw [List.getElem?_append_right (by rw [gTo_len]; omega), gTo_len, Nat.sub_self, gTo_last]
  rfl
theorem gAt_spec {M : Nat → Nat → Bool} {f n : Nat} (hf : f < n) (h0 : bkF M f n f ≠ 0) : ∀ j, j < bkF M f n f → gAt M f n j < n ∧ f ≤ gAt M f n j ∧ bkF M f n (gAt M f n j) = bkF M f n f - j ∧ (0 < j → f < gAt M f n j) ∧ (0 < j → M (gAt M f n (j - 1)) (gAt M f n j) = true)
  | 0, _ => ⟨hf, Nat.le_refl _, rfl, fun h => by omega, fun h => by omega⟩
  | j + 1, h => by
    obtain ⟨h1, h2, h3, _⟩ := gAt_spec hf h0 j (by omega)
    have hs := nxt_spec (M := M) (last := gAt M f n j) (left := bkF M f n f - 1 - j) hf (by omega) (by omega)
    rw [← gAt_succ] at hs
    obtain ⟨s1, s2, s3⟩ := hs
    obtain ⟨t1, t2, t3⟩ := nxtP_iff.1 s1
    exact ⟨s2, by omega, by omega, fun _ => t1, fun _ => t2⟩
/-- The loop that is found. -/
def bestLen (o : Option (List Nat)) : Nat := (o.map List.length).getD 0
def takeB (M : Nat → Nat → Bool) (n i : Nat) (o : Option (List Nat)) : Bool := !(bkF M i n i == 0) && !(o.isSome && decide (bestLen o ≤ bkF M i n i))
def lpTo (M : Nat → Nat → Bool) (n : Nat) : Nat → Option (List Nat)
  | 0 => none
  | i + 1 => if takeB M n i (lpTo M n i) then some (gTo M i n (bkF M i n i - 1)) else lpTo M n i

/-- A loop: each cut before the next, the last before the first. -/
structure LoopIs (M : Nat → Nat → Bool) (n : Nat) (l : List Nat) : Prop where
  lt : ∀ a ∈ l, a < n
  nd : l.Nodup
  two : 2 ≤ l.length
  nx : ∀ j, j + 1 < l.length → M (l[j]?.getD 0) (l[j + 1]?.getD 0) = true
  cl : M (l[l.length - 1]?.getD 0) (l[0]?.getD 0) = true
theorem takeB_iff {M : Nat → Nat → Bool} {n i : Nat} {o : Option (List Nat)} : takeB M n i o = true ↔ bkF M i n i ≠ 0 ∧ (∀ l, o = some l → bkF M i n i < l.length) := by
  unfold takeB bestLen
  cases o with
  | none => simp
  | some l => simp
theorem gTo_loop {M : Nat → Nat → Bool} {f n : Nat} (hM : ∀ a, M a a = false) (hf : f < n) (h0 : bkF M f n f ≠ 0) : LoopIs M n (gTo M f n (bkF M f n f - 1)) := by
  obtain ⟨m, hm⟩ : ∃ m, m = bkF M f n f - 1 := ⟨_, rfl⟩
  have hsp := gAt_spec hf h0
  rw [← hm]
  have hl := gTo_len M f n m
  have hat : ∀ j, j ≤ m → (gTo M f n m)[j]? = some (gAt M f n j) := fun j hj => gTo_at M f n hj
  have h1 : bkF M f n f ≠ 1 := fun e => by
    obtain ⟨_, _, hw⟩ := bkF_wk hf h0
    rw [e] at hw
    obtain ⟨b, _, _, hb, e2⟩ := hw
    obtain rfl : b = f := e2
    rw [hM] at hb
    cases hb
  refine ⟨fun a ha => ?_, ?_, by omega, fun j hj => ?_, ?_⟩
  · obtain ⟨j, hj⟩ := List.mem_iff_getElem?.1 ha
    have hjm : j < m + 1 := by
      have := (List.getElem?_eq_some_iff.1 hj).1
      omega
    rw [hat j (by omega)] at hj
    cases hj
    exact (hsp j (by omega)).1
  · rw [List.nodup_iff_pairwise_ne, List.pairwise_iff_getElem]
    intro i j hi hj hij e
    rw [hl] at hi hj
    have e1 := hat i (by omega)
    have e2 := hat j (by omega)
    rw [List.getElem?_eq_getElem (by omega)] at e1 e2
    have e3 : gAt M f n i = gAt M f n j := by rw [← Option.some.inj e1, ← Option.some.inj e2]; exact e
    have a1 := (hsp i (by omega)).2.2.1
    have a2 := (hsp j (by omega)).2.2.1
    rw [e3] at a1
    omega
  · rw [hl] at hj
    rw [hat j (by omega), hat (j + 1) (by omega)]
    exact (hsp (j + 1) (by omega)).2.2.2.2 (by omega)
  · rw [hl, Nat.add_sub_cancel, hat m (Nat.le_refl _), hat 0 (by omega)]
    show M (gAt M f n m) f = true
    obtain ⟨h1, h2, h3, _⟩ := hsp m (by omega)
    have hw := (bkF_wk hf (show bkF M f n (gAt M f n m) ≠ 0 by omega)).2.2
    rw [show bkF M f n (gAt M f n m) = 1 by omega] at hw
    obtain ⟨b, _, _, hb, e2⟩ := hw
    obtain rfl : b = f := e2
    exact hb
theorem lpTo_loop {M : Nat → Nat → Bool} {n : Nat} (hM : ∀ a, M a a = false) : ∀ {i : Nat} {l : List Nat}, i ≤ n → lpTo M n i = some l → LoopIs M n l
  | 0, l, _, h => by cases h
  | i + 1, l, hi, h => by
    unfold lpTo at h
    split at h
    · rename_i ht
      cases h
      exact gTo_loop hM (by omega) (takeB_iff.1 ht).1
    · exact lpTo_loop hM (by omega) h
/-- Where there is a way back of d rules, a loop of no more cuts is found. -/
theorem lpTo_some {M : Nat → Nat → Bool} {n : Nat} {f d : Nat} (hf : f < n) (hw : Wk M f n (d + 1) f) : ∀ {i : Nat}, f < i → ∃ l, lpTo M n i = some l ∧ l.length ≤ d + 1
  | 0, h => by omega
  | i + 1, h => by
    obtain ⟨u1, u2⟩ := wk_bkF hf (Nat.le_refl _) hf hw
    by_cases e : i = f
    · subst e
      unfold lpTo
      split
      · exact ⟨_, rfl, by rw [gTo_len]; omega⟩
      · rename_i ht
        rw [takeB_iff] at ht
        cases ho : lpTo M n i with
        | none => exact absurd ⟨u1, fun l hl => by rw [ho] at hl; cases hl⟩ ht
        | some l =>
          refine ⟨l, rfl, ?_⟩
          rcases Nat.lt_or_ge (bkF M i n i) l.length with hc | hc
          · exact absurd ⟨u1, fun l' hl => by rw [ho] at hl; cases hl; exact hc⟩ ht
          · omega
    · obtain ⟨l, h1, h2⟩ := lpTo_some hf hw (i := i) (by omega)
      unfold lpTo
      split
      · rename_i ht
        refine ⟨_, rfl, ?_⟩
        have := (takeB_iff.1 ht).2 l h1
        rw [gTo_len]
        omega
      · exact ⟨l, h1, h2⟩
theorem min_at (p : Nat → Nat) : ∀ d, ∃ i, i ≤ d ∧ ∀ t, t ≤ d → p i ≤ p t
  | 0 => ⟨0, Nat.le_refl _, fun t ht => by rw [Nat.le_zero.1 ht]; exact Nat.le_refl _⟩
  | d + 1 => by
    obtain ⟨i, h1, h2⟩ := min_at p d
    by_cases h : p i ≤ p (d + 1)
    · refine ⟨i, by omega, fun t ht => ?_⟩
      rcases Nat.lt_or_ge d t with h3 | h3
      · rw [show t = d + 1 by omega]; exact h
      · exact h2 t h3
    · refine ⟨d + 1, Nat.le_refl _, fun t ht => ?_⟩
      rcases Nat.lt_or_ge d t with h3 | h3
      · rw [show t = d + 1 by omega]; exact Nat.le_refl _
      · have := h2 t h3
        omega
theorem wk_of {M : Nat → Nat → Bool} {n f : Nat} {p : Nat → Nat} (hn : ∀ t, f ≤ p t ∧ p t < n) (hM : ∀ t, M (p t) (p (t + 1)) = true) : ∀ {d i : Nat}, p (i + d) = f → Wk M f n d (p i)
  | 0, i, h => h
  | d + 1, i, h => ⟨p (i + 1), (hn _).1, (hn _).2, hM i, wk_of hn hM (by rw [show i + 1 + d = i + (d + 1) by omega]; exact h)⟩
theorem per_mod {p : Nat → Nat} {d : Nat} (h : ∀ t, p (t + d) = p t) (t : Nat) : p t = p (t % d) := by
  have : ∀ c r, p (r + d * c) = p r := by
    intro c
    induction c with
    | zero => intro r; rfl
    | succ c ih => intro r; rw [Nat.mul_succ, ← Nat.add_assoc, h, ih]
  have h2 := this (t / d) (t % d)
  rw [Nat.mod_add_div] at h2
  exact h2
/-- A closed way of d + 1 rules: a loop of no more cuts is found. -/
theorem lpTo_way {M : Nat → Nat → Bool} {n d : Nat} {p : Nat → Nat} (hn : ∀ t, p t < n) (hM : ∀ t, M (p t) (p (t + 1)) = true) (hp : ∀ t, p (t + (d + 1)) = p t) : ∃ l, lpTo M n n = some l ∧ l.length ≤ d + 1 := by
  obtain ⟨i, h1, h2⟩ := min_at p d
  have hmin : ∀ t, p i ≤ p t := fun t => by
    rw [per_mod hp t]
    exact h2 _ (by have := Nat.mod_lt t (show 0 < d + 1 by omega); omega)
  exact lpTo_some (hn i) (wk_of (fun t => ⟨hmin t, hn t⟩) hM (hp i)) (hn i)
theorem LoopIs.way {M : Nat → Nat → Bool} {n : Nat} {l : List Nat} (h : LoopIs M n l) : ∃ r, lpTo M n n = some r ∧ r.length ≤ l.length := by
  obtain ⟨d, hd⟩ : ∃ d, l.length = d + 1 := ⟨l.length - 1, by have := h.two; omega⟩
  have := lpTo_way (M := M) (n := n) (d := d) (p := fun t => l[t % (d + 1)]?.getD 0) (fun t => ?_) (fun t => ?_) (fun t => ?_)
  · rwa [hd]
  · have h1 := Nat.mod_lt t (show 0 < d + 1 by omega)
    show l[t % (d + 1)]?.getD 0 < n
    rw [List.getElem?_eq_getElem (by omega)]
    exact h.lt _ (List.getElem_mem _)
  · have h1 := Nat.mod_lt t (show 0 < d + 1 by omega)
    show M (l[t % (d + 1)]?.getD 0) (l[(t + 1) % (d + 1)]?.getD 0) = true
    rw [Nat.add_mod]
    generalize t % (d + 1) = r at *
    by_cases hr : r = d
    · subst hr
      have h2 : (r + 1 % (r + 1)) % (r + 1) = 0 := by
        cases r with
        | zero => simp
        | succ r => rw [Nat.mod_eq_of_lt (show 1 < r + 1 + 1 by omega), Nat.mod_self]
      rw [h2]
      have := h.cl
      rwa [hd, Nat.add_sub_cancel] at this
    · have h2 : (r + 1 % (d + 1)) % (d + 1) = r + 1 := by
        rw [Nat.mod_eq_of_lt (show 1 < d + 1 by omega), Nat.mod_eq_of_lt (by omega)]
      rw [h2]
      exact h.nx r (by omega)
  · show l[(t + (d + 1)) % (d + 1)]?.getD 0 = _
    rw [Nat.add_mod_right]
/-- How many cuts that are not made must be made before q, among the first m. -/
def leftN (M : Nat → Nat → Bool) (l : List Nat) (q : Nat) : Nat → Nat
  | 0 => 0
  | p + 1 => leftN M l q p + if M p q = true ∧ p ∉ l then 1 else 0
theorem leftN_zero {M : Nat → Nat → Bool} {l : List Nat} {q : Nat} : ∀ {m : Nat}, leftN M l q m = 0 ↔ ∀ p, p < m → M p q = true → p ∈ l
  | 0 => ⟨fun _ p h => by omega, fun _ => rfl⟩
  | m + 1 => by
    unfold leftN
    have ih := leftN_zero (M := M) (l := l) (q := q) (m := m)
    constructor
    · intro h p hp hM
      have h0 : leftN M l q m = 0 := by omega
      by_cases e : p = m
      · subst e
        by_cases hp : p ∈ l
        · exact hp
        · rw [if_pos ⟨hM, hp⟩] at h
          omega
      · exact ih.1 h0 p (by omega) hM
    · intro h
      rw [ih.2 fun p hp => h p (by omega), if_neg (fun hc => hc.2 (h m (by omega) hc.1))]
theorem leftN_snoc {M : Nat → Nat → Bool} {l : List Nat} {a q : Nat} (ha : a ∉ l) : ∀ m, leftN M (l ++ [a]) q m + (if a < m ∧ M a q = true then 1 else 0) = leftN M l q m
  | 0 => by rw [if_neg (by omega)]; rfl
  | m + 1 => by
    have ih := leftN_snoc (M := M) (q := q) ha m
    unfold leftN
    by_cases e : m = a
    · subst e
      rw [if_neg (by omega)] at ih
      rw [if_neg (c := M m q = true ∧ m ∉ l ++ [m]) (fun h => h.2 (by simp))]
      by_cases hM : M m q = true
      · rw [if_pos ⟨by omega, hM⟩, if_pos ⟨hM, ha⟩]
        omega
      · rw [if_neg (fun h => hM h.2), if_neg (fun h => hM h.1)]
        omega
    · have h1 : (if M m q = true ∧ m ∉ l ++ [a] then 1 else 0) = if M m q = true ∧ m ∉ l then 1 else 0 := by
        by_cases h : M m q = true ∧ m ∉ l
        · rw [if_pos h, if_pos ⟨h.1, by simp [h.2, e]⟩]
        · rw [if_neg h, if_neg (fun h2 => h ⟨h2.1, fun h3 => h2.2 (by simp [h3])⟩)]
      have h2 : (if a < m + 1 ∧ M a q = true then 1 else 0) = if a < m ∧ M a q = true then 1 else 0 := by
        by_cases h : a < m ∧ M a q = true
        · rw [if_pos h, if_pos ⟨by omega, h.2⟩]
        · rw [if_neg h, if_neg (fun h2 => h ⟨by omega, h2.2⟩)]
      rw [h1, h2]
      omega
theorem prsTo_count (M : Nat → Nat → Bool) {q : Nat} (hq : q < 16) (i : Nat) : ∀ m, m ≤ 16 → (prsTo M (i * 16 + m)).countP (fun p => p.2 == q) = (prsTo M (i * 16)).countP (fun p => p.2 == q) + if q < m ∧ M i q = true then 1 else 0
  | 0, _ => by rw [if_neg (by omega)]; rfl
  | m + 1, h => by
    rw [prsTo_succ M i m (by omega), List.countP_append, prsTo_count M hq i m (by omega)]
    by_cases e : q = m
    · subst e
      rw [if_neg (c := q < q ∧ _) (by omega)]
      by_cases hM : M i q = true
      · rw [if_pos hM, if_pos ⟨by omega, hM⟩]
        simp
      · rw [if_neg hM, if_neg (fun h => hM h.2)]
        rfl
    · have h1 : (if q < m + 1 ∧ M i q = true then 1 else 0) = if q < m ∧ M i q = true then 1 else 0 := by
        by_cases h : q < m ∧ M i q = true
        · rw [if_pos h, if_pos ⟨by omega, h.2⟩]
        · rw [if_neg h, if_neg (fun h2 => h ⟨by omega, h2.2⟩)]
      rw [h1]
      have h2 : (if M i m = true then [(i, m)] else []).countP (fun p : Nat × Nat => p.2 == q) = 0 := by
        split
        · simp
          omega
        · rfl
      rw [h2, Nat.add_zero]
theorem prsTo_left (M : Nat → Nat → Bool) {q : Nat} (hq : q < 16) : ∀ i, (prsTo M (i * 16)).countP (fun p => p.2 == q) = leftN M [] q i
  | 0 => rfl
  | i + 1 => by
    have h := prsTo_count M hq i 16 (Nat.le_refl _)
    rw [show (i + 1) * 16 = i * 16 + 16 by omega, h, prsTo_left M hq i]
    show _ = leftN M [] q i + (if M i q = true ∧ i ∉ [] then 1 else 0)
    congr 1
    by_cases hM : M i q = true
    · rw [if_pos ⟨hq, hM⟩, if_pos ⟨hM, by simp⟩]
    · rw [if_neg (fun h => hM h.2), if_neg (fun h => hM h.1)]
theorem waitTo_count (M : Nat → Nat → Bool) (q : Nat) : ∀ c, c ≤ (prsL M).length → waitTo M c q = (((prsL M).take c).countP (fun p => p.2 == q) : Nat)
  | 0, _ => by simp [waitTo]
  | c + 1, h => by
    unfold waitTo bump
    rw [List.take_succ_eq_append_getElem (by omega), List.countP_append, waitTo_count M q c (by omega), List.getElem?_eq_getElem (by omega)]
    show (if q = ((prsL M)[c]).2 then _ else _) = _
    by_cases e : q = ((prsL M)[c]).2
    · rw [if_pos e]
      simp [← e]
    · rw [if_neg e]
      have : (((prsL M)[c]).2 == q) = false := by rw [beq_eq_false_iff_ne]; exact fun h => e h.symm
      simp [this]
theorem wait0_left (M : Nat → Nat → Bool) {q : Nat} (hq : q < 16) : wait0 M q = (leftN M [] q 16 : Nat) := by
  unfold wait0
  rw [waitTo_count M q _ (Nat.le_refl _), List.take_of_length_le (Nat.le_refl _), ← prsTo_left M hq 16]
  rfl

/-- A table of rules for n cuts. -/
structure RuleN (M : Nat → Nat → Bool) (n : Nat) : Prop where
  lt : ∀ i j, M i j = true → i < n ∧ j < n
  ir : ∀ i, M i i = false
/-- The cut x can be made behind those of l. -/
def FreeN (M : Nat → Nat → Bool) (n : Nat) (l : List Nat) (x : Nat) : Prop := x < n ∧ x ∉ l ∧ ∀ p, M p x = true → p ∈ l
/-- The state of the making: what was made, and how many each one waits for. -/
structure OrdSt (M : Nat → Nat → Bool) (n : Nat) (l : List Nat) (s : Nat → Int) : Prop where
  lt : ∀ a ∈ l, a < n
  nd : l.Nodup
  neg : ∀ q, q ∈ l → s q < 0
  pos : ∀ q, q < 16 → q ∉ l → s q = (leftN M l q 16 : Nat)
  fr : ∀ j x, l[j]? = some x → FreeN M n (l.take j) x ∧ ∀ y, y < x → ¬ FreeN M n (l.take j) y
theorem OrdSt.free {M : Nat → Nat → Bool} {n : Nat} {l : List Nat} {s : Nat → Int} (h : OrdSt M n l s) (hR : RuleN M n) (hn : n ≤ 16) {x : Nat} (hx : x < n) : s x = 0 ↔ FreeN M n l x := by
  constructor
  · intro h0
    have hxl : x ∉ l := fun hm => by have := h.neg x hm; omega
    refine ⟨hx, hxl, fun p hp => ?_⟩
    have h1 := h.pos x (by omega) hxl
    have h2 : leftN M l x 16 = 0 := by omega
    exact leftN_zero.1 h2 p (by have := (hR.lt p x hp).1; omega) hp
  · rintro ⟨_, hxl, hp⟩
    rw [h.pos x (by omega) hxl, leftN_zero.2 fun p _ hM => hp p hM]
    rfl
theorem frst_min {s : Nat → Int} {n a : Nat} (h : frst s n = some a) : ∀ i, i < a → s i ≠ 0 := fun i hi h0 => by
  have h3 := (List.find?_range_eq_some.1 h).2.2 i hi
  simp [h0] at h3
theorem ordTo_st {M : Nat → Nat → Bool} {n : Nat} (hR : RuleN M n) (hn : n ≤ 16) : ∀ {j : Nat} {l : List Nat} {s : Nat → Int}, ordTo M n j = some (l, s) → OrdSt M n l s ∧ l.length = j
  | 0, l, s, h => by
    cases h
    exact ⟨⟨fun a ha => (by cases ha), List.nodup_nil, fun q hq => (by cases hq), fun q hq _ => wait0_left M hq, fun j x hx => by simp at hx⟩, rfl⟩
  | j + 1, l, s, h => by
    unfold ordTo at h
    cases ho : ordTo M n j with
    | none => rw [ho] at h; cases h
    | some t =>
      rw [ho] at h
      obtain ⟨l', s'⟩ := t
      obtain ⟨h1, h2⟩ := ordTo_st hR hn ho
      simp only [Option.bind_some] at h
      cases hf : frst s' n with
      | none => rw [hf] at h; cases h
      | some a =>
        rw [hf] at h
        cases h
        obtain ⟨ha, h0⟩ := frst_lt hf
        have hfree := (h1.free hR hn ha).1 h0
        refine ⟨⟨fun x hx => ?_, ?_, fun q hq => ?_, fun q hq hql => ?_, fun i x hx => ?_⟩, by simp [h2]⟩
        · rcases List.mem_append.1 hx with hx | hx
          · exact h1.lt x hx
          · rw [List.mem_singleton] at hx
            omega
        · rw [List.nodup_append]
          refine ⟨h1.nd, by simp, fun x hx y hy => ?_⟩
          rw [List.mem_singleton] at hy
          subst hy
          rintro rfl
          exact hfree.2.1 hx
        · unfold ordStep
          rcases List.mem_append.1 hq with hq | hq
          · have hne : q ≠ a := fun e => hfree.2.1 (e ▸ hq)
            have := h1.neg q hq
            rw [if_neg hne]
            split <;> omega
          · rw [List.mem_singleton] at hq
            rw [if_pos hq]
            split <;> omega
        · have hne : q ≠ a := fun e => hql (by simp [e])
          have hql' : q ∉ l' := fun hm => hql (by simp [hm])
          unfold ordStep
          rw [if_neg hne, h1.pos q hq hql']
          have hs := leftN_snoc (M := M) (q := q) hfree.2.1 16
          by_cases hM : M a q = true
          · rw [if_pos ⟨by omega, hM⟩] at hs
            rw [if_pos hM]
            omega
          · rw [if_neg (fun hc => hM hc.2)] at hs
            rw [if_neg hM]
            omega
        · rcases Nat.lt_trichotomy i l'.length with hi | hi | hi
          · rw [List.getElem?_append_left hi] at hx
            rw [List.take_append_of_le_length (by omega)]
            exact h1.fr i x hx
          · subst hi
            rw [List.getElem?_append_right (Nat.le_refl _), Nat.sub_self] at hx
            cases hx
            rw [List.take_append_of_le_length (Nat.le_refl _), List.take_of_length_le (Nat.le_refl _)]
            refine ⟨hfree, fun y hy hfy => ?_⟩
            exact frst_min hf y hy ((h1.free hR hn hfy.1).2 hfy)
          · rw [List.getElem?_eq_none (by simp; omega)] at hx
            cases hx

/-- An order. -/
structure OrderIs (M : Nat → Nat → Bool) (n : Nat) (l : List Nat) : Prop where
  lt : ∀ a ∈ l, a < n
  nd : l.Nodup
  len : l.length = n
  keep : ∀ j x, l[j]? = some x → ∀ p, M p x = true → p ∈ l.take j
theorem OrderIs.all {M : Nat → Nat → Bool} {n : Nat} {l : List Nat} (h : OrderIs M n l) {a : Nat} (ha : a < n) : a ∈ l := by
  apply Decidable.byContradiction
  intro hn
  have h1 : ∀ x ∈ a :: l, x ∈ List.range n := fun x hx => by
    rw [List.mem_range]
    rcases List.mem_cons.1 hx with rfl | hx
    · exact ha
    · exact h.lt x hx
  have := List.Nodup.length_le_of_subset (List.nodup_cons.2 ⟨hn, h.nd⟩) h1
  rw [List.length_cons, List.length_range, h.len] at this
  omega
theorem ordTo_order {M : Nat → Nat → Bool} {n : Nat} (hR : RuleN M n) (hn : n ≤ 16) {l : List Nat} {s : Nat → Int} (h : ordTo M n n = some (l, s)) : OrderIs M n l := by
  obtain ⟨h1, h2⟩ := ordTo_st hR hn h
  exact ⟨h1.lt, h1.nd, h2, fun j x hx p hp => (h1.fr j x hx).1.2.2 p hp⟩
/-- No order is before the one that is found. -/
theorem ordTo_first {M : Nat → Nat → Bool} {n : Nat} (hR : RuleN M n) (hn : n ≤ 16) {l r : List Nat} {s : Nat → Int} (h : ordTo M n n = some (l, s)) (hr : OrderIs M n r) {j x y : Nat} (ht : l.take j = r.take j) (hx : l[j]? = some x) (hy : r[j]? = some y) : x ≤ y := by
  obtain ⟨h1, h2⟩ := ordTo_st hR hn h
  have hm := (h1.fr j x hx).2 y
  rcases Nat.lt_or_ge y x with hlt | hge
  · exfalso
    refine hm hlt ⟨hr.lt y (List.mem_of_getElem? hy), fun hmem => ?_, fun p hp => ?_⟩
    · rw [ht] at hmem
      obtain ⟨i, hi⟩ := List.mem_iff_getElem?.1 hmem
      have hij : i < j := by
        have := (List.getElem?_eq_some_iff.1 hi).1
        rw [List.length_take] at this
        omega
      rw [List.getElem?_take_of_lt hij] at hi
      have hnd := hr.nd
      rw [List.nodup_iff_pairwise_ne, List.pairwise_iff_getElem] at hnd
      obtain ⟨a1, a2⟩ := List.getElem?_eq_some_iff.1 hi
      obtain ⟨b1, b2⟩ := List.getElem?_eq_some_iff.1 hy
      exact hnd i j a1 b1 hij (by rw [a2, b2])
    · rw [ht]
      exact hr.keep j y hy p hp
  · exact hge
theorem ordTo_stuck {M : Nat → Nat → Bool} {n : Nat} (hR : RuleN M n) (hn : n ≤ 16) : ∀ {j : Nat}, j ≤ n → ordTo M n j = none → ∃ l : List Nat, (∃ q, q < n ∧ q ∉ l) ∧ ∀ q, q < n → q ∉ l → ∃ p, p < n ∧ p ∉ l ∧ M p q = true
  | 0, _, h => by cases h
  | j + 1, hj, h => by
    cases ho : ordTo M n j with
    | none => exact ordTo_stuck hR hn (by omega) ho
    | some t =>
      obtain ⟨l, s⟩ := t
      obtain ⟨h1, h2⟩ := ordTo_st hR hn ho
      unfold ordTo at h
      rw [ho] at h
      have hf : frst s n = none := by
        cases hf : frst s n with
        | none => rfl
        | some a =>
          simp only [Option.bind_some, hf] at h
          cases h
      refine ⟨l, ?_, fun q hq hql => ?_⟩
      · apply Decidable.byContradiction
        intro hno
        have hsub : ∀ x ∈ List.range n, x ∈ l := fun x hx => Decidable.byContradiction fun hxl => hno ⟨x, List.mem_range.1 hx, hxl⟩
        have := List.Nodup.length_le_of_subset List.nodup_range hsub
        rw [List.length_range] at this
        omega
      · have h0 := frst_none.1 hf q hq
        have hnf : ¬ FreeN M n l q := fun hfr => h0 ((h1.free hR hn hq).2 hfr)
        apply Decidable.byContradiction
        intro hno
        exact hnf ⟨hq, hql, fun p hp => Decidable.byContradiction fun hpl => hno ⟨p, (hR.lt p q hp).1, hpl, hp⟩⟩
theorem pigeon {u : Nat → Nat} : ∀ {n : Nat}, (∀ t, t ≤ n → u t < n) → ∃ i j, i < j ∧ j ≤ n ∧ u i = u j := by
  intro n h
  apply Classical.byContradiction
  intro hno
  have hnd : ((List.range (n + 1)).map u).Nodup := by
    rw [List.nodup_iff_pairwise_ne, List.pairwise_iff_getElem]
    intro i j hi hj hij e
    rw [List.length_map, List.length_range] at hi hj
    rw [List.getElem_map, List.getElem_map, List.getElem_range, List.getElem_range] at e
    exact hno ⟨i, j, hij, by omega, e⟩
  have hsub : ∀ x ∈ (List.range (n + 1)).map u, x ∈ List.range n := fun x hx => by
    obtain ⟨t, ht, rfl⟩ := List.mem_map.1 hx
    exact List.mem_range.2 (h t (by have := List.mem_range.1 ht; omega))
  have := List.Nodup.length_le_of_subset hnd hsub
  simp at this
  omega
/-- Where no order is found, a loop is. -/
theorem ordTo_none {M : Nat → Nat → Bool} {n : Nat} (hR : RuleN M n) (hn : n ≤ 16) (h : ordTo M n n = none) : ∃ l, lpTo M n n = some l := by
  obtain ⟨l, ⟨q, hq, hql⟩, hst⟩ := ordTo_stuck hR hn (Nat.le_refl _) h
  have hst' : ∀ x : { q : Nat // q < n ∧ q ∉ l }, ∃ y : { q : Nat // q < n ∧ q ∉ l }, M y.1 x.1 = true := fun x => by
    obtain ⟨p, h1, h2, h3⟩ := hst x.1 x.2.1 x.2.2
    exact ⟨⟨p, h1, h2⟩, h3⟩
  obtain ⟨g, hg⟩ := Classical.axiomOfChoice hst'
  let u : Nat → { q : Nat // q < n ∧ q ∉ l } := fun t => Nat.rec (motive := fun _ => { q : Nat // q < n ∧ q ∉ l }) ⟨q, hq, hql⟩ (fun _ x => g x) t
  have hu : ∀ t, M (u (t + 1)).1 (u t).1 = true := fun t => hg (u t)
  obtain ⟨i, j, hij, _, he⟩ := pigeon (u := fun t => (u t).1) (n := n) fun t _ => (u t).2.1
  obtain ⟨d, hd⟩ : ∃ d, j = i + (d + 1) := ⟨j - i - 1, by omega⟩
  obtain ⟨r, hr, _⟩ := lpTo_way (M := M) (n := n) (d := d) (p := fun t => (u (j - t % (d + 1))).1) (fun t => (u _).2.1) (fun t => by
    have h1 := Nat.mod_lt t (show 0 < d + 1 by omega)
    show M (u (j - t % (d + 1))).1 (u (j - (t + 1) % (d + 1))).1 = true
    rw [Nat.add_mod]
    generalize t % (d + 1) = r at *
    by_cases hr : r = d
    · subst hr
      have h2 : (r + 1 % (r + 1)) % (r + 1) = 0 := by
        cases r with
        | zero => simp
        | succ r => rw [Nat.mod_eq_of_lt (show 1 < r + 1 + 1 by omega), Nat.mod_self]
      rw [h2, Nat.sub_zero, ← he, show j - r = i + 1 by omega]
      exact hu i
    · have h2 : (r + 1 % (d + 1)) % (d + 1) = r + 1 := by
        rw [Nat.mod_eq_of_lt (show 1 < d + 1 by omega), Nat.mod_eq_of_lt (by omega)]
      rw [h2, show j - r = (j - (r + 1)) + 1 by omega]
      exact hu _) (fun t => by
    show (u (j - (t + (d + 1)) % (d + 1))).1 = _
    rw [Nat.add_mod_right])
  exact ⟨r, hr⟩
/-- Never both. -/
theorem order_loop_no {M : Nat → Nat → Bool} {n : Nat} {l r : List Nat} (h : OrderIs M n l) (hr : LoopIs M n r) : False := by
  have hpos : ∀ a b, b < n → M a b = true → l.idxOf a < l.idxOf b := fun a b hb hM => by
    have hbl := List.idxOf_lt_length_of_mem (h.all hb)
    have h1 := h.keep (l.idxOf b) b (by rw [List.getElem?_eq_getElem hbl, List.getElem_idxOf]) a hM
    obtain ⟨i, hi⟩ := List.mem_iff_getElem?.1 h1
    have hij : i < l.idxOf b := by
      have := (List.getElem?_eq_some_iff.1 hi).1
      rw [List.length_take] at this
      omega
    rw [List.getElem?_take_of_lt hij] at hi
    obtain ⟨hil, hi⟩ := List.getElem?_eq_some_iff.1 hi
    have : l.idxOf a ≤ i := by
      rw [← hi]
      rcases Nat.lt_or_ge i (l.idxOf l[i]) with hc | hc
      · have := List.not_of_lt_findIdx (xs := l) (p := fun x => x == l[i]) hc
        simp at this
      · exact hc
    omega
  have hch : ∀ j, j < r.length → l.idxOf (r[0]?.getD 0) + j ≤ l.idxOf (r[j]?.getD 0) := by
    intro j
    induction j with
    | zero => intro _; exact Nat.le_refl _
    | succ j ih =>
      intro hj
      have h1 := ih (by omega)
      have h2 := hpos _ _ (by rw [List.getElem?_eq_getElem hj]; exact hr.lt _ (List.getElem_mem _)) (hr.nx j hj)
      omega
  have h2 := hr.two
  have h1 := hch (r.length - 1) (by omega)
  have h3 := hpos _ _ (by rw [List.getElem?_eq_getElem (show 0 < r.length by omega)]; exact hr.lt _ (List.getElem_mem _)) hr.cl
  omega
end
end Go.Proofs.Ytgeapenglcohfaa
