/- What is accepted as an order, or a loop; the reference finds the same loop. Plain Lean, no program. -/
import Derived.Test.YtgeapenglcohfaaGLoopP
import Derived.Test.YtgeapenglcohfaaGChkL
namespace Go.Proofs.Ytgeapenglcohfaa
section
theorem natsI_at (l : List Nat) (j : Nat) : (natsI l)[j]?.getD 0 = ((l[j]?.getD 0 : Nat) : Int) := by
  unfold natsI
  rw [List.getElem?_map]
  cases l[j]? <;> rfl
theorem natsI_length (l : List Nat) : (natsI l).length = l.length := by unfold natsI; rw [List.length_map]
theorem natsI_mem {l : List Nat} {x : Nat} : (x : Int) ∈ natsI l ↔ x ∈ l := by
  unfold natsI
  rw [List.mem_map]
  exact ⟨fun ⟨y, hy, e⟩ => by rwa [← Int.ofNat.inj e], fun h => ⟨x, h, rfl⟩⟩
theorem diffTo_iff {l : List Nat} {n : Nat} : ∀ {j : Nat}, j ≤ l.length → (diffTo (natsI l) n j = true ↔ ∀ i, i < j → l[i]?.getD 0 < n ∧ l[i]?.getD 0 ∉ l.take i)
  | 0, _ => ⟨fun _ i hi => by omega, fun _ => rfl⟩
  | j + 1, hj => by
    unfold diffTo
    rw [natsI_at, show (natsI l).take j = natsI (l.take j) from List.map_take.symm]
    simp only [Bool.and_eq_true, Bool.not_eq_true', decide_eq_true_eq, List.contains_eq_mem, decide_eq_false_iff_not]
    rw [diffTo_iff (by omega), natsI_mem]
    constructor
    · rintro ⟨h1, ⟨_, h2⟩, h3⟩ i hi
      by_cases e : i = j
      · subst e
        exact ⟨by omega, h3⟩
      · exact h1 i (by omega)
    · intro h
      obtain ⟨h1, h2⟩ := h j (by omega)
      exact ⟨fun i hi => h i (by omega), ⟨by omega, by omega⟩, h2⟩
theorem diffB_iff {l : List Int} {n : Nat} : diffB l n = true ↔ ∃ r : List Nat, l = natsI r ∧ r.Nodup ∧ ∀ a ∈ r, a < n := by
  constructor
  · intro h
    have h0 := diffTo_at (show diffTo l n l.length = true from h)
    obtain ⟨r, hr⟩ : ∃ r : List Nat, l = natsI r := ⟨l.map Int.toNat, by
      unfold natsI
      rw [List.map_map]
      apply List.ext_getElem (by simp)
      intro i h1 h2
      have := (h0 i h1).1
      rw [List.getElem?_eq_getElem h1] at this
      simp only [List.getElem_map, Function.comp, Option.getD_some] at this ⊢
      omega⟩
    subst hr
    unfold diffB at h
    rw [natsI_length] at h
    have h1 := (diffTo_iff (Nat.le_refl _)).1 h
    refine ⟨r, rfl, ?_, fun a ha => ?_⟩
    · rw [List.nodup_iff_pairwise_ne, List.pairwise_iff_getElem]
      intro i j hi hj hij e
      have := (h1 j hj).2
      rw [List.getElem?_eq_getElem hj] at this
      refine this (List.mem_iff_getElem?.2 ⟨i, ?_⟩)
      rw [List.getElem?_take_of_lt hij, List.getElem?_eq_getElem hi, e]
      rfl
    · obtain ⟨i, hi⟩ := List.mem_iff_getElem?.1 ha
      obtain ⟨hil, _⟩ := List.getElem?_eq_some_iff.1 hi
      have := (h1 i hil).1
      rwa [hi] at this
  · rintro ⟨r, rfl, hnd, hlt⟩
    unfold diffB
    rw [natsI_length, diffTo_iff (Nat.le_refl _)]
    intro i hi
    rw [List.getElem?_eq_getElem hi]
    refine ⟨hlt _ (List.getElem_mem _), fun hm => ?_⟩
    obtain ⟨j, hj⟩ := List.mem_iff_getElem?.1 hm
    have hji : j < i := by
      have := (List.getElem?_eq_some_iff.1 hj).1
      rw [List.length_take] at this
      omega
    rw [List.getElem?_take_of_lt hji] at hj
    obtain ⟨hjl, e⟩ := List.getElem?_eq_some_iff.1 hj
    rw [List.nodup_iff_pairwise_ne, List.pairwise_iff_getElem] at hnd
    exact hnd j i hjl hi hji e
theorem chnB_iff {M : Nat → Nat → Bool} : ∀ {l : List Nat} {a : Nat}, chnB M (a : Int) (natsI l) = true ↔ (∀ x, l[0]? = some x → M a x = true) ∧ ∀ j, j + 1 < l.length → M (l[j]?.getD 0) (l[j + 1]?.getD 0) = true
  | [], a => ⟨fun _ => ⟨fun x h => (by cases h), fun j h => by simp at h⟩, fun _ => rfl⟩
  | x :: xs, a => by
    show (M (a : Int).toNat (x : Int).toNat && chnB M (x : Int) (natsI xs)) = true ↔ _
    rw [Bool.and_eq_true, chnB_iff, Int.toNat_natCast, Int.toNat_natCast]
    constructor
    · rintro ⟨h1, h2, h3⟩
      refine ⟨fun y hy => by cases hy; exact h1, fun j hj => ?_⟩
      cases j with
      | zero =>
        cases xs with
        | nil => simp at hj
        | cons y ys => exact h2 y rfl
      | succ j => exact h3 j (by simp at hj; omega)
    · rintro ⟨h1, h2⟩
      refine ⟨h1 x rfl, fun y hy => ?_, fun j hj => ?_⟩
      · have := h2 0 (by
          cases xs with
          | nil => cases hy
          | cons z zs => simp)
        cases xs with
        | nil => cases hy
        | cons z zs => cases hy; exact this
      · exact h2 (j + 1) (by simp; omega)
def loopMB (M : Nat → Nat → Bool) (n : Nat) (l : List Int) : Bool := (decide (2 ≤ l.length) && diffB l n) && chnB M (l[l.length - 1]?.getD 0) l
theorem loopMB_iff {M : Nat → Nat → Bool} {n : Nat} {l : List Int} : loopMB M n l = true ↔ ∃ r, l = natsI r ∧ LoopIs M n r := by
  unfold loopMB
  simp only [Bool.and_eq_true, decide_eq_true_eq]
  constructor
  · rintro ⟨⟨h1, h2⟩, h3⟩
    obtain ⟨r, rfl, hnd, hlt⟩ := diffB_iff.1 h2
    rw [natsI_length] at h1 h3
    rw [natsI_at, chnB_iff] at h3
    refine ⟨r, rfl, hlt, hnd, h1, h3.2, ?_⟩
    have := h3.1 (r[0]?.getD 0) (by rw [List.getElem?_eq_getElem (show 0 < r.length by omega)]; rfl)
    exact this
  · rintro ⟨r, rfl, h⟩
    rw [natsI_length, natsI_at, chnB_iff]
    refine ⟨⟨h.two, diffB_iff.2 ⟨r, rfl, h.nd, h.lt⟩⟩, fun x hx => ?_, h.nx⟩
    have := h.cl
    rwa [hx] at this
/-- An order is accepted. -/
def orderMB (M : Nat → Nat → Bool) (n : Nat) (l : List Int) : Bool := (decide (l.length = n) && diffB l n) && (prsL M).all fun p => !decide (ixI l (p.2 : Nat) < ixI l (p.1 : Nat))
theorem ixI_at {l : List Nat} (hnd : l.Nodup) {i : Nat} (hi : i < l.length) : ixI (natsI l) ((l[i] : Nat) : Int) = i := by
  unfold ixI
  rw [natsI_length]
  obtain ⟨d, hd⟩ : ∃ d, l.length = i + 1 + d := ⟨l.length - (i + 1), by omega⟩
  rw [hd]
  refine ixTo_at (fun j hj e => ?_) (by rw [natsI_at, List.getElem?_eq_getElem hi]; rfl) d
  rw [natsI_at, List.getElem?_eq_getElem (by omega)] at e
  rw [List.nodup_iff_pairwise_ne, List.pairwise_iff_getElem] at hnd
  exact hnd j i (by omega) hi hj (Int.ofNat.inj e)
theorem orderMB_iff {M : Nat → Nat → Bool} {n : Nat} (hR : RuleN M n) (hn : n ≤ 16) {l : List Int} : orderMB M n l = true ↔ ∃ r, l = natsI r ∧ OrderIs M n r := by
  unfold orderMB
  simp only [Bool.and_eq_true, decide_eq_true_eq, List.all_eq_true, Bool.not_eq_true', decide_eq_false_iff_not]
  constructor
  · rintro ⟨⟨h1, h2⟩, h3⟩
    obtain ⟨r, rfl, hnd, hlt⟩ := diffB_iff.1 h2
    rw [natsI_length] at h1
    have hall : ∀ a, a < n → a ∈ r := fun a ha => by
      apply Decidable.byContradiction
      intro hna
      have hs : ∀ x ∈ a :: r, x ∈ List.range n := fun x hx => by
        rw [List.mem_range]
        rcases List.mem_cons.1 hx with rfl | hx
        · exact ha
        · exact hlt x hx
      have := List.Nodup.length_le_of_subset (List.nodup_cons.2 ⟨hna, hnd⟩) hs
      rw [List.length_cons, List.length_range, h1] at this
      omega
    refine ⟨r, rfl, hlt, hnd, h1, fun j x hx p hp => ?_⟩
    obtain ⟨hpn, hxn⟩ := hR.lt p x hp
    obtain ⟨i, hi⟩ := List.mem_iff_getElem?.1 (hall p hpn)
    obtain ⟨hil, rfl⟩ := List.getElem?_eq_some_iff.1 hi
    obtain ⟨hjl, rfl⟩ := List.getElem?_eq_some_iff.1 hx
    have := h3 (r[i], r[j]) ((mem_prsL M).2 ⟨by omega, by omega, hp⟩)
    simp only at this
    rw [ixI_at hnd hil, ixI_at hnd hjl] at this
    have hne : i ≠ j := by
      rintro rfl
      rw [hR.ir] at hp
      cases hp
    refine List.mem_iff_getElem?.2 ⟨i, ?_⟩
    rw [List.getElem?_take_of_lt (by omega)]
    exact hi
  · rintro ⟨r, rfl, h⟩
    refine ⟨⟨by rw [natsI_length]; exact h.len, diffB_iff.2 ⟨r, rfl, h.nd, h.lt⟩⟩, fun p hp => ?_⟩
    obtain ⟨a, b⟩ := p
    obtain ⟨_, _, hM⟩ := (mem_prsL M).1 hp
    obtain ⟨ha, hb⟩ := hR.lt a b hM
    obtain ⟨j, hj⟩ := List.mem_iff_getElem?.1 (h.all hb)
    have hk := h.keep j b hj a hM
    obtain ⟨i, hi⟩ := List.mem_iff_getElem?.1 hk
    have hij : i < j := by
      have := (List.getElem?_eq_some_iff.1 hi).1
      rw [List.length_take] at this
      omega
    rw [List.getElem?_take_of_lt hij] at hi
    obtain ⟨hil, rfl⟩ := List.getElem?_eq_some_iff.1 hi
    obtain ⟨hjl, rfl⟩ := List.getElem?_eq_some_iff.1 hj
    show ¬ ixI (natsI r) ((r[j] : Nat) : Int) < ixI (natsI r) ((r[i] : Nat) : Int)
    rw [ixI_at h.nd hil, ixI_at h.nd hjl]
    omega
/-- A walk of so many rules from f to k, by way of cuts from f on. -/
def Rch (M : Nat → Nat → Bool) (f n : Nat) : Nat → Nat → Prop
  | 0, k => k = f
  | d + 1, k => (f ≤ k ∧ k < n) ∧ ∃ i, i < n ∧ Rch M f n d i ∧ M i k = true
theorem rch_in {M : Nat → Nat → Bool} {f n : Nat} (hf : f < n) : ∀ {d k : Nat}, Rch M f n d k → f ≤ k ∧ k < n
  | 0, k, h => by
    obtain rfl : k = f := h
    exact ⟨Nat.le_refl _, hf⟩
  | d + 1, k, h => h.1
theorem rch_wk {M : Nat → Nat → Bool} {f n : Nat} (hf : f < n) : ∀ {d e k : Nat}, Rch M f n d k → Wk M f n e k → Wk M f n (d + e) f
  | 0, e, k, h, hw => by
    obtain rfl : k = f := h
    rwa [Nat.zero_add]
  | d + 1, e, k, h, hw => by
    obtain ⟨⟨h1, h2⟩, i, _, hi, hM⟩ := h
    rw [show d + 1 + e = d + (e + 1) by omega]
    exact rch_wk hf hi ⟨k, h1, h2, hM, hw⟩
theorem wk_rch {M : Nat → Nat → Bool} {f n : Nat} (hf : f < n) : ∀ {e d k : Nat}, Rch M f n d k → Wk M f n e k → Rch M f n (d + e) f
  | 0, d, k, h, hw => by
    obtain rfl : k = f := hw
    exact h
  | e + 1, d, k, h, hw => by
    obtain ⟨b, h1, h2, hM, hw⟩ := hw
    rw [show d + (e + 1) = d + 1 + e by omega]
    exact wk_rch hf (k := b) ⟨⟨h1, h2⟩, k, (rch_in hf h).2, h, hM⟩ hw
/-- The reference's steps: where the walk comes back for the first time, among the first m; 0 if it does not. -/
def StepsIs (M : Nat → Nat → Bool) (f n : Nat) (r : Nat) : Prop := (r = 0 ∧ ∀ d, 1 ≤ d → d ≤ n → ¬ Rch M f n d f) ∨ (1 ≤ r ∧ r ≤ n ∧ Rch M f n r f ∧ ∀ d, 1 ≤ d → d < r → ¬ Rch M f n d f)
theorem bkF_le {M : Nat → Nat → Bool} {f n : Nat} (hM : ∀ a, M a a = false) (hf : f < n) : bkF M f n f ≤ n := by
  by_cases h0 : bkF M f n f = 0
  · omega
  · have h := gTo_loop hM hf h0
    have h1 := List.Nodup.length_le_of_subset h.nd (l₂ := List.range n) fun x hx => List.mem_range.2 (h.lt x hx)
    rw [gTo_len, List.length_range] at h1
    omega
theorem stepsIs_bkF {M : Nat → Nat → Bool} {f n r : Nat} (hM : ∀ a, M a a = false) (hf : f < n) (h : StepsIs M f n r) : r = bkF M f n f := by
  have hle := bkF_le hM hf
  have hto : ∀ d, 1 ≤ d → Rch M f n d f → bkF M f n f ≠ 0 ∧ bkF M f n f ≤ d := fun d hd hr => by
    obtain ⟨e, rfl⟩ : ∃ e, d = e + 1 := ⟨d - 1, by omega⟩
    have := rch_wk hf hr (e := 0) rfl
    exact wk_bkF hf (Nat.le_refl _) hf this
  have hof : bkF M f n f ≠ 0 → Rch M f n (bkF M f n f) f := fun h0 => by
    have := wk_rch hf (d := 0) (k := f) rfl (bkF_wk hf h0).2.2
    rwa [Nat.zero_add] at this
  rcases h with ⟨rfl, h⟩ | ⟨h1, h2, h3, h4⟩
  · by_cases h0 : bkF M f n f = 0
    · exact h0.symm
    · exact absurd (hof h0) (h _ (by omega) hle)
  · obtain ⟨h0, h5⟩ := hto r h1 h3
    rcases Nat.lt_or_ge (bkF M f n f) r with hc | hc
    · exact absurd (hof h0) (h4 _ (by omega) hc)
    · omega

/-- The reference's search: the first loop of N cuts that begins so. -/
def arnd (M : Nat → Nat → Bool) (n N : Nat) : Nat → List Nat → Option (List Nat)
  | 0, _ => none
  | u + 1, b => if b.length = N then (if M (b.getLast?.getD 0) (b.head?.getD 0) then some b else none)
    else (List.range n).findSome? fun i => if b.head?.getD 0 < i ∧ i ∉ b ∧ M (b.getLast?.getD 0) i = true then arnd M n N u (b ++ [i]) else none
theorem arnd_wk {M : Nat → Nat → Bool} {n N f : Nat} (hf : f < n) : ∀ {u : Nat} {b r : List Nat}, b.head? = some f → b.length ≤ N → arnd M n N u b = some r → Wk M f n (N - b.length + 1) (b.getLast?.getD 0)
  | 0, b, r, _, _, h => by cases h
  | u + 1, b, r, hb, hl, h => by
    unfold arnd at h
    rw [hb] at h
    simp only [Option.getD_some] at h
    split at h
    · rename_i e
      split at h
      · rename_i hM
        rw [e, Nat.sub_self]
        exact ⟨f, Nat.le_refl _, hf, hM, rfl⟩
      · cases h
    · rename_i e
      obtain ⟨i, hi, h⟩ := List.exists_of_findSome?_eq_some h
      split at h
      · rename_i hc
        have := arnd_wk hf (b := b ++ [i]) (by
          cases b with
          | nil => cases hb
          | cons x xs => exact hb) (by simp; omega) h
        rw [List.getLast?_append] at this
        simp only [List.length_append, List.length_singleton, List.getLast?_singleton, Option.some_or, Option.getD_some] at this
        rw [show N - (b.length + 1) + 1 = N - b.length by omega] at this
        exact ⟨i, by omega, List.mem_range.1 hi, hc.2.2, this⟩
      · cases h
theorem gTo_head (M : Nat → Nat → Bool) (f n : Nat) : ∀ j, (gTo M f n j).head? = some f
  | 0 => rfl
  | j + 1 => by
    show (gTo M f n j ++ _).head? = _
    rw [List.head?_append, gTo_head M f n j]
    rfl
theorem arnd_gTo {M : Nat → Nat → Bool} {f n : Nat} (hM : ∀ a, M a a = false) (hf : f < n) (h0 : bkF M f n f ≠ 0) : ∀ {u j : Nat}, j < bkF M f n f → bkF M f n f - j ≤ u → arnd M n (bkF M f n f) u (gTo M f n j) = some (gTo M f n (bkF M f n f - 1))
  | 0, j, h1, h2 => by omega
  | u + 1, j, h1, h2 => by
    have hsp := gAt_spec hf h0
    unfold arnd
    rw [gTo_head, gTo_last, gTo_len]
    simp only [Option.getD_some]
    by_cases e : j + 1 = bkF M f n f
    · rw [if_pos e, show bkF M f n f - 1 = j by omega, if_pos]
      have := (gTo_loop hM hf h0).cl
      rw [gTo_len, Nat.add_sub_cancel, gTo_at M f n (Nat.le_refl _), gTo_at M f n (Nat.zero_le _), show bkF M f n f - 1 = j by omega] at this
      exact this
    · rw [if_neg e]
      obtain ⟨a1, a2, a3, a4, a5⟩ := hsp j h1
      have hs := nxt_spec (M := M) (last := gAt M f n j) (left := bkF M f n f - 1 - j) hf (by omega) (by omega)
      rw [← gAt_succ] at hs
      obtain ⟨s1, s2, s3⟩ := hs
      obtain ⟨t1, t2, t3⟩ := nxtP_iff.1 s1
      have hgo : gTo M f n (j + 1) = gTo M f n j ++ [gAt M f n (j + 1)] := by
        show gTo M f n j ++ [_] = _
        rw [gTo_last, gAt_succ]
      have hni : gAt M f n (j + 1) ∉ gTo M f n j := fun hm => by
        obtain ⟨i, hi⟩ := List.mem_iff_getElem?.1 hm
        have hij := (List.getElem?_eq_some_iff.1 hi).1
        rw [gTo_len] at hij
        rw [gTo_at M f n (show i ≤ j by omega)] at hi
        have := (hsp i (by omega)).2.2.1
        rw [Option.some.inj hi, t3] at this
        omega
      rw [List.findSome?_eq_some_iff]
      refine ⟨List.range (gAt M f n (j + 1)), gAt M f n (j + 1), (List.range n).drop (gAt M f n (j + 1) + 1), ?_, ?_, fun i hi => ?_⟩
      · rw [← List.take_append_drop (gAt M f n (j + 1)) (List.range n)]
        congr 1
        · rw [List.take_range, Nat.min_eq_left (by omega)]
        · rw [List.take_append_drop, List.drop_eq_getElem_cons (by simp; omega)]
          simp
      · rw [if_pos ⟨t1, hni, t2⟩, ← hgo]
        exact arnd_gTo hM hf h0 (by omega) (by omega)
      · have hi' := List.mem_range.1 hi
        split
        · rename_i hc
          cases hr : arnd M n (bkF M f n f) u (gTo M f n j ++ [i]) with
          | none => rfl
          | some r =>
            exfalso
            have hw := arnd_wk hf (b := gTo M f n j ++ [i]) (by rw [List.head?_append, gTo_head]; rfl) (by simp [gTo_len]; omega) hr
            rw [List.getLast?_append] at hw
            simp only [List.length_append, List.length_singleton, List.getLast?_singleton, Option.some_or, Option.getD_some, gTo_len] at hw
            rw [show bkF M f n f - (j + 1 + 1) + 1 = (bkF M f n f - 2 - j) + 1 by omega] at hw
            obtain ⟨u1, u2⟩ := wk_bkF hf (by omega) (by omega) hw
            have hwi := (bkF_wk hf u1).2.2
            have h5 := (wk_bkF (d := bkF M f n i) hf a2 a1 ⟨i, by omega, by omega, hc.2.2, hwi⟩).2
            have := s3 i hi'
            have h6 : nxtP M f (bkF M f n) (gAt M f n j) (bkF M f n f - 1 - j) i = true := nxtP_iff.2 ⟨hc.1, hc.2.2, by omega⟩
            rw [h6] at this
            cases this
        · rfl
/-- The reference's choice, from the last cut to the first. -/
def pick (M : Nat → Nat → Bool) (n : Nat) : Nat → Nat × Nat
  | 0 => (0, 0)
  | t + 1 => let i := n - (t + 1); let b := bkF M i n i; if 0 < b ∧ ((pick M n t).1 = 0 ∨ b ≤ (pick M n t).1) then (b, i) else pick M n t
/-- The least way back of the first m cuts, and whose it is first. -/
def least (M : Nat → Nat → Bool) (n : Nat) (lo : Nat) (p : Nat × Nat) : Prop := (p.1 = 0 ∧ ∀ i, lo ≤ i → i < n → bkF M i n i = 0) ∨ (p.1 ≠ 0 ∧ lo ≤ p.2 ∧ p.2 < n ∧ bkF M p.2 n p.2 = p.1 ∧ (∀ i, lo ≤ i → i < p.2 → bkF M i n i = 0 ∨ p.1 < bkF M i n i) ∧ ∀ i, lo ≤ i → i < n → bkF M i n i = 0 ∨ p.1 ≤ bkF M i n i)
theorem pick_least (M : Nat → Nat → Bool) (n : Nat) : ∀ t, t ≤ n → least M n (n - t) (pick M n t)
  | 0, _ => .inl ⟨rfl, fun i h1 h2 => by omega⟩
  | t + 1, ht => by
    have ih := pick_least M n t (by omega)
    unfold pick
    simp only
    have hsplit : ∀ i, n - (t + 1) ≤ i → i < n → i = n - (t + 1) ∨ n - t ≤ i := fun i h1 h2 => by omega
    generalize hp : pick M n t = p at *
    obtain ⟨x, y⟩ := p
    simp only at ih ⊢
    by_cases hc : 0 < bkF M (n - (t + 1)) n (n - (t + 1)) ∧ (x = 0 ∨ bkF M (n - (t + 1)) n (n - (t + 1)) ≤ x)
    · rw [if_pos hc]
      refine .inr ⟨by simp only; omega, Nat.le_refl _, by simp only; omega, rfl, fun i h1 h2 => by simp only at h2; omega, fun i h1 h2 => ?_⟩
      rcases hsplit i h1 h2 with rfl | h3
      · exact .inr (Nat.le_refl _)
      · rcases ih with ⟨_, h⟩ | ⟨h0, _, _, _, _, h⟩
        · exact .inl (h i h3 h2)
        · rcases h i h3 h2 with h | h
          · exact .inl h
          · simp only at h h0 ⊢
            right
            omega
    · rw [if_neg hc]
      rcases ih with ⟨h0, h⟩ | ⟨h0, h1, h2, h3, h4, h5⟩
      · simp only at h0
        refine .inl ⟨h0, fun i h1 h2 => ?_⟩
        rcases hsplit i h1 h2 with rfl | h3
        · omega
        · exact h i h3 h2
      · simp only at h0 h1 h2 h3 h4 h5
        refine .inr ⟨h0, by simp only; omega, h2, h3, fun i h6 h7 => ?_, fun i h6 h7 => ?_⟩
        · rcases hsplit i h6 (by simp only at h7; omega) with rfl | h8
          · simp only
            omega
          · exact h4 i h8 h7
        · rcases hsplit i h6 h7 with rfl | h8
          · simp only
            omega
          · exact h5 i h8 h7
/-- What the program keeps after the first m cuts. -/
theorem lpTo_least {M : Nat → Nat → Bool} {n : Nat} : ∀ {i : Nat}, i ≤ n → (lpTo M n i = none ∧ ∀ t, t < i → bkF M t n t = 0) ∨ ∃ f, f < i ∧ bkF M f n f ≠ 0 ∧ lpTo M n i = some (gTo M f n (bkF M f n f - 1)) ∧ (∀ t, t < f → bkF M t n t = 0 ∨ bkF M f n f < bkF M t n t) ∧ ∀ t, t < i → bkF M t n t = 0 ∨ bkF M f n f ≤ bkF M t n t
  | 0, _ => .inl ⟨rfl, fun t h => by omega⟩
  | i + 1, hi => by
    have ih := lpTo_least (M := M) (n := n) (i := i) (by omega)
    unfold lpTo
    split
    · rename_i ht
      obtain ⟨h0, h1⟩ := takeB_iff.1 ht
      refine .inr ⟨i, by omega, h0, rfl, fun t htt => ?_, fun t htt => ?_⟩
      · rcases ih with ⟨_, h⟩ | ⟨f, hfi, hf0, hl, _, h⟩
        · exact .inl (h t htt)
        · have := h1 _ hl
          rw [gTo_len] at this
          rcases h t htt with h | h
          · exact .inl h
          · exact .inr (by omega)
      · by_cases e : t = i
        · subst e
          exact .inr (Nat.le_refl _)
        · rcases ih with ⟨_, h⟩ | ⟨f, hfi, hf0, hl, _, h⟩
          · exact .inl (h t (by omega))
          · have := h1 _ hl
            rw [gTo_len] at this
            rcases h t (by omega) with h | h
            · exact .inl h
            · exact .inr (by omega)
    · rename_i ht
      rw [takeB_iff] at ht
      rcases ih with ⟨hl, h⟩ | ⟨f, hfi, hf0, hl, h4, h5⟩
      · refine .inl ⟨hl, fun t htt => ?_⟩
        by_cases e : t = i
        · subst e
          apply Decidable.byContradiction
          intro h0
          exact ht ⟨h0, fun l hl' => by rw [hl] at hl'; cases hl'⟩
        · exact h t (by omega)
      · refine .inr ⟨f, by omega, hf0, hl, h4, fun t htt => ?_⟩
        by_cases e : t = i
        · subst e
          apply Decidable.byContradiction
          intro hno
          refine ht ⟨fun h0 => hno (.inl h0), fun l hl' => ?_⟩
          rw [hl] at hl'
          cases hl'
          rw [gTo_len]
          have : ¬ bkF M f n f ≤ bkF M t n t := fun h => hno (.inr h)
          omega
        · exact h5 t (by omega)
/-- The program's loop is the reference's. -/
theorem lpTo_pick {M : Nat → Nat → Bool} {n : Nat} (hM : ∀ a, M a a = false) : lpTo M n n = if (pick M n n).1 = 0 then none else arnd M n (pick M n n).1 n [(pick M n n).2] := by
  have h1 := pick_least M n n (Nat.le_refl _)
  rw [Nat.sub_self] at h1
  rcases lpTo_least (M := M) (n := n) (Nat.le_refl _) with ⟨hl, h⟩ | ⟨f, hfi, hf0, hl, h4, h5⟩
  · rcases h1 with ⟨h0, _⟩ | ⟨h0, _, h2, h3, _⟩
    · rw [if_pos h0, hl]
    · have := h _ h2
      omega
  · rcases h1 with ⟨h0, h6⟩ | ⟨h0, _, h2, h3, h6, h7⟩
    · exact absurd (h6 f (Nat.zero_le _) hfi) hf0
    · have he : f = (pick M n n).2 := by
        rcases Nat.lt_trichotomy f (pick M n n).2 with hc | hc | hc
        · have a := h6 f (Nat.zero_le _) hc
          have b := h5 _ h2
          omega
        · exact hc
        · have a := h4 _ hc
          have b := h7 f (Nat.zero_le _) hfi
          omega
      rw [if_neg h0, hl, ← he, ← h3, ← he]
      have := arnd_gTo hM hfi hf0 (u := n) (j := 0) (by omega) (by have := bkF_le hM hfi; omega)
      exact this.symm
end
end Go.Proofs.Ytgeapenglcohfaa
