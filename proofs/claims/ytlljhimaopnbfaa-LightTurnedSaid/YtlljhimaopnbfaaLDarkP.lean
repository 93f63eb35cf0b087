/- Shadows and pictures in plain Lean: higher lights, flat, raised, turned, mirrored fields. No program. -/
import Derived.Test.YtlljhimaopnbfaaLOneP
import Derived.Test.YtlljhimaopnbfaaLPct
namespace Go.Proofs.Ytlljhimaopnbfaa
section
/-- A higher light darkens no more. -/
theorem dark_higher {n m : Nat} {p : Int} {hs : List Int} {lx ly lz d : Int} {x y : Nat} (hp : 0 ≤ p) (hd : 0 ≤ d) (h : darkB n m p hs lx ly (lz + d) x y = true) : darkB n m p hs lx ly lz x y = true := by
  rw [dark_iff] at h ⊢
  obtain ⟨hg, k, h1, h2, h3⟩ := h
  refine ⟨hg, k, h1, h2, ?_⟩
  unfold hitB at h3 ⊢
  rw [Bool.and_eq_true, decide_eq_true_eq] at h3 ⊢
  refine ⟨h3.1, Int.lt_of_le_of_lt ?_ h3.2⟩
  have e : 4 * (k : Int) * p * (lz + d) = 4 * (k : Int) * p * lz + 4 * (k : Int) * p * d := Int.mul_add _ _ _
  have : 0 ≤ 4 * (k : Int) * p * d := Int.mul_nonneg (Int.mul_nonneg (by omega) hp) hd
  omega
/-- What is hit is lower than another cell. -/
theorem dark_lower {n m : Nat} {p : Int} {hs : List Int} {lx ly lz : Int} {x y : Nat} (hp : 0 ≤ p) (hz : 0 ≤ lz) (h : darkB n m p hs lx ly lz x y = true) : ∃ X Y, X < n ∧ Y < m ∧ midC n hs x y < midC n hs X Y := by
  rw [dark_iff] at h
  obtain ⟨hg, k, h1, h2, h3⟩ := h
  unfold hitB at h3
  rw [Bool.and_eq_true, decide_eq_true_eq, inC_iff] at h3
  refine ⟨(rayX lx ly x k).toNat, (rayY lx ly y k).toNat, by omega, by omega, ?_⟩
  have h0 : 0 ≤ 4 * (k : Int) * p * lz := Int.mul_nonneg (Int.mul_nonneg (by omega) hp) hz
  have h4 := gL_nonneg lx ly
  have h5 : 0 < gL lx ly * (midC n hs (rayX lx ly x k).toNat (rayY lx ly y k).toNat - midC n hs x y) := by omega
  have := Int.pos_of_mul_pos_right h5 (by omega)
  omega
theorem dark_plumb {n m : Nat} {p : Int} {hs : List Int} {lz : Int} {x y : Nat} : darkB n m p hs 0 0 lz x y = false := dark_flat (by rfl)
theorem hit_iff {n m : Nat} {p : Int} {hs : List Int} {lx ly lz : Int} {x y k : Nat} : hitB n m p hs lx ly lz x y k = true ↔ ∃ X Y : Nat, X < n ∧ Y < m ∧ rayX lx ly x k = X ∧ rayY lx ly y k = Y ∧ 4 * (k : Int) * p * lz < gL lx ly * (midC n hs X Y - midC n hs x y) := by
  unfold hitB
  rw [Bool.and_eq_true, decide_eq_true_eq, inC_iff]
  constructor
  · rintro ⟨⟨⟨h1, h2⟩, h3, h4⟩, h5⟩
    exact ⟨_, _, by omega, by omega, (Int.toNat_of_nonneg h1).symm, (Int.toNat_of_nonneg h3).symm, h5⟩
  · rintro ⟨X, Y, h1, h2, h3, h4, h5⟩
    rw [h3, h4, Int.toNat_natCast, Int.toNat_natCast]
    exact ⟨⟨⟨by omega, by omega⟩, by omega, by omega⟩, h5⟩
/-- Fields of which each cell lies like one of the other, in the same order along the rays. -/
theorem dark_map {n m n' m' : Nat} {p : Int} {hs hs' : List Int} {lx ly lx' ly' lz : Int} {x y x' y' : Nat} (hg : gL lx' ly' = gL lx ly)
    (hr : ∀ k : Nat, ∀ X Y : Nat, X < n → Y < m → rayX lx ly x k = X → rayY lx ly y k = Y → ∃ X' Y' : Nat, X' < n' ∧ Y' < m' ∧ rayX lx' ly' x' k = X' ∧ rayY lx' ly' y' k = Y' ∧ midC n' hs' X' Y' - midC n' hs' x' y' = midC n hs X Y - midC n hs x y)
    (h : darkB n m p hs lx ly lz x y = true) : darkB n' m' p hs' lx' ly' lz x' y' = true := by
  rw [dark_iff] at h ⊢
  obtain ⟨h0, k, h1, h2, h3⟩ := h
  refine ⟨by rw [hg]; exact h0, k, h1, h2, ?_⟩
  rw [hit_iff] at h3 ⊢
  obtain ⟨X, Y, h4, h5, h6, h7, h8⟩ := h3
  obtain ⟨X', Y', a, b, c, d, e⟩ := hr k X Y h4 h5 h6 h7
  exact ⟨X', Y', a, b, c, d, by rw [hg, e]; exact h8⟩
theorem bool_eq {a b : Bool} (h1 : a = true → b = true) (h2 : b = true → a = true) : a = b := by
  cases a <;> cases b <;> simp_all
/-- Two fields whose cells differ by a constant. -/
theorem dark_same {n m : Nat} {p : Int} {hs hs' : List Int} {lx ly lz c : Int} {x y : Nat} (hx : x < n) (hy : y < m) (h : ∀ X Y, X < n → Y < m → midC n hs' X Y = midC n hs X Y + c) : darkB n m p hs' lx ly lz x y = darkB n m p hs lx ly lz x y :=
  bool_eq (dark_map rfl fun k X Y h1 h2 h3 h4 => ⟨X, Y, h1, h2, h3, h4, by have := h X Y h1 h2; have := h x y hx hy; omega⟩)
    (dark_map rfl fun k X Y h1 h2 h3 h4 => ⟨X, Y, h1, h2, h3, h4, by have := h X Y h1 h2; have := h x y hx hy; omega⟩)
theorem cell_in {n m x y : Nat} (hx : x < n) (hy : y < m) : y * (n + 1) + x + (n + 1) + 1 < (n + 1) * (m + 1) := by
  have : (y + 2) * (n + 1) ≤ (m + 1) * (n + 1) := Nat.mul_le_mul_right _ (by omega)
  rw [Nat.add_mul] at this
  rw [Nat.mul_comm (n + 1)]
  omega
/-- Raising all heights. -/
theorem raised {n m : Nat} {hs hs' : List Int} {by_ : Int} {x y : Nat} (h : ∀ i, i < (n + 1) * (m + 1) → hA hs' i = hA hs i + by_) (hx : x < n) (hy : y < m) : midC n hs' x y = midC n hs x y + 4 * by_ ∧ tiltX n hs' x y = tiltX n hs x y ∧ tiltY n hs' x y = tiltY n hs x y := by
  have hc := cell_in hx hy
  have h0 := h (y * (n + 1) + x) (by omega)
  have h1 := h (y * (n + 1) + x + 1) (by omega)
  have h2 := h (y * (n + 1) + x + (n + 1)) (by omega)
  have h3 := h (y * (n + 1) + x + (n + 1) + 1) (by omega)
  unfold midC tiltX tiltY cor0 cor1 cor2 cor3
  rw [h0, h1, h2, h3]
  omega
theorem seen_raised {n m : Nat} {p : Int} {hs hs' : List Int} {by_ lx ly lz : Int} {x y : Nat} (h : ∀ i, i < (n + 1) * (m + 1) → hA hs' i = hA hs i + by_) (hx : x < n) (hy : y < m) : seenC n m p hs' lx ly lz x y = seenC n m p hs lx ly lz x y := by
  obtain ⟨_, h1, h2⟩ := raised h hx hy
  unfold seenC
  rw [dark_same hx hy fun X Y hX hY => (raised h hX hY).1, h1, h2]
/-- A flat field. -/
theorem flat_cell {n m : Nat} {hs : List Int} {c : Int} {x y : Nat} (h : ∀ i, i < (n + 1) * (m + 1) → hA hs i = c) (hx : x < n) (hy : y < m) : midC n hs x y = 4 * c ∧ tiltX n hs x y = 0 ∧ tiltY n hs x y = 0 := by
  have hc := cell_in hx hy
  have h0 := h (y * (n + 1) + x) (by omega)
  have h1 := h (y * (n + 1) + x + 1) (by omega)
  have h2 := h (y * (n + 1) + x + (n + 1)) (by omega)
  have h3 := h (y * (n + 1) + x + (n + 1) + 1) (by omega)
  unfold midC tiltX tiltY cor0 cor1 cor2 cor3
  rw [h0, h1, h2, h3]
  omega
theorem flat_dark {n m : Nat} {p : Int} {hs : List Int} {c lx ly lz : Int} {x y : Nat} (h : ∀ i, i < (n + 1) * (m + 1) → hA hs i = c) (hp : 0 ≤ p) (hz : 0 ≤ lz) (hx : x < n) (hy : y < m) : darkB n m p hs lx ly lz x y = false := by
  cases hd : darkB n m p hs lx ly lz x y with
  | false => rfl
  | true =>
    obtain ⟨X, Y, hX, hY, hlt⟩ := dark_lower hp hz hd
    rw [(flat_cell h hx hy).1, (flat_cell h hX hY).1] at hlt
    omega
theorem flat_seen {n m : Nat} {p : Int} {hs : List Int} {c lx ly lz : Int} {x y : Nat} (h : ∀ i, i < (n + 1) * (m + 1) → hA hs i = c) (hp : 0 ≤ p) (hz : 0 ≤ lz) (hx : x < n) (hy : y < m) : seenC n m p hs lx ly lz x y = (shadeN 0 0 p lx ly lz, shadeD 0 0 p lx ly lz) := by
  obtain ⟨_, h1, h2⟩ := flat_cell h hx hy
  unfold seenC
  rw [flat_dark h hp hz hx hy, h1, h2]
  rfl
theorem gL_turn (lx ly : Int) : gL (-ly) lx = gL lx ly := by
  unfold gL
  rw [Int.neg_gcd, Int.gcd_comm]
theorem gL_mirror (lx ly : Int) : gL (-lx) ly = gL lx ly := by
  unfold gL
  rw [Int.neg_gcd]
theorem quo_neg {g a : Int} (h : g ∣ a) : -a / g = -(a / g) := Int.neg_ediv_of_dvd h
/-- Turned by a quarter: what is at (x, y) comes to (m - y, x), for points; cells alike. -/
structure TurnIs (n m : Nat) (hs hs' : List Int) : Prop where
  at_ : ∀ i k, i ≤ m → k ≤ n → hA hs' (k * (m + 1) + i) = hA hs ((m - i) * (n + 1) + k)
theorem turn_cell {n m : Nat} {hs hs' : List Int} {x y : Nat} (h : TurnIs n m hs hs') (hx : x < n) (hy : y < m) : midC m hs' (m - 1 - y) x = midC n hs x y ∧ tiltX m hs' (m - 1 - y) x = -tiltY n hs x y ∧ tiltY m hs' (m - 1 - y) x = tiltX n hs x y := by
  have h0 := h.at_ (m - 1 - y) x (by omega) (by omega)
  have h1 := h.at_ (m - 1 - y + 1) x (by omega) (by omega)
  have h2 := h.at_ (m - 1 - y) (x + 1) (by omega) (by omega)
  have h3 := h.at_ (m - 1 - y + 1) (x + 1) (by omega) (by omega)
  rw [show m - (m - 1 - y) = y + 1 by omega] at h0 h2
  rw [show m - (m - 1 - y + 1) = y by omega] at h1 h3
  have e1 : (x + 1) * (m + 1) = x * (m + 1) + (m + 1) := by rw [Nat.add_mul, Nat.one_mul]
  have e2 : (y + 1) * (n + 1) = y * (n + 1) + (n + 1) := by rw [Nat.add_mul, Nat.one_mul]
  rw [e2] at h0 h2
  rw [e1] at h2 h3
  unfold midC tiltX tiltY cor0 cor1 cor2 cor3
  rw [show x * (m + 1) + (m - 1 - y) + 1 = x * (m + 1) + (m - 1 - y + 1) by omega, show x * (m + 1) + (m - 1 - y) + (m + 1) = x * (m + 1) + (m + 1) + (m - 1 - y) by omega, show x * (m + 1) + (m + 1) + (m - 1 - y) + 1 = x * (m + 1) + (m + 1) + (m - 1 - y + 1) by omega, h0, h1, h2, h3,
    show y * (n + 1) + x + 1 = y * (n + 1) + (x + 1) by omega, show y * (n + 1) + x + (n + 1) = y * (n + 1) + (n + 1) + x by omega, show y * (n + 1) + (n + 1) + x + 1 = y * (n + 1) + (n + 1) + (x + 1) by omega]
  omega
theorem turn_dark {n m : Nat} {p : Int} {hs hs' : List Int} {lx ly lz : Int} {x y : Nat} (h : TurnIs n m hs hs') (hx : x < n) (hy : y < m) : darkB m n p hs' (-ly) lx lz (m - 1 - y) x = darkB n m p hs lx ly lz x y := by
  have hg := gL_turn lx ly
  have hq := quo_neg (show gL lx ly ∣ ly from Int.gcd_dvd_right lx ly)
  have hX : ∀ k, rayX (-ly) lx (m - 1 - y) k = (m : Int) - 1 - rayY lx ly y k := fun k => by
    unfold rayX rayY
    rw [hg, hq, Int.mul_neg]
    omega
  have hY : ∀ k, rayY (-ly) lx x k = rayX lx ly x k := fun k => by
    unfold rayX rayY
    rw [hg]
  refine bool_eq (dark_map hg.symm fun k X Y h1 h2 h3 h4 => ?_) (dark_map hg fun k X Y h1 h2 h3 h4 => ?_)
  · rw [hX] at h3
    rw [hY] at h4
    refine ⟨Y, m - 1 - X, h2, by omega, h4, by omega, ?_⟩
    have := (turn_cell h (x := Y) (y := m - 1 - X) h2 (by omega)).1
    rw [show m - 1 - (m - 1 - X) = X by omega] at this
    rw [this, (turn_cell h hx hy).1]
  · refine ⟨m - 1 - Y, X, by omega, h1, by rw [hX, h4]; omega, by rw [hY, h3], ?_⟩
    rw [(turn_cell h h1 h2).1, (turn_cell h hx hy).1]
theorem turn_seen {n m : Nat} {p : Int} {hs hs' : List Int} {lx ly lz : Int} {x y : Nat} (h : TurnIs n m hs hs') (hx : x < n) (hy : y < m) : seenC m n p hs' (-ly) lx lz (m - 1 - y) x = seenC n m p hs lx ly lz x y := by
  obtain ⟨_, h1, h2⟩ := turn_cell h hx hy
  unfold seenC
  rw [turn_dark h hx hy, h1, h2, (shade_turn ..).1, (shade_turn ..).2]
/-- Mirrored: what is at (x, y) comes to (n - x, y). -/
structure MirrorIs (n m : Nat) (hs hs' : List Int) : Prop where
  at_ : ∀ i k, i ≤ n → k ≤ m → hA hs' (k * (n + 1) + i) = hA hs (k * (n + 1) + (n - i))
theorem mirror_cell {n m : Nat} {hs hs' : List Int} {x y : Nat} (h : MirrorIs n m hs hs') (hx : x < n) (hy : y < m) : midC n hs' (n - 1 - x) y = midC n hs x y ∧ tiltX n hs' (n - 1 - x) y = -tiltX n hs x y ∧ tiltY n hs' (n - 1 - x) y = tiltY n hs x y := by
  have h0 := h.at_ (n - 1 - x) y (by omega) (by omega)
  have h1 := h.at_ (n - 1 - x + 1) y (by omega) (by omega)
  have h2 := h.at_ (n - 1 - x) (y + 1) (by omega) (by omega)
  have h3 := h.at_ (n - 1 - x + 1) (y + 1) (by omega) (by omega)
  rw [show n - (n - 1 - x) = x + 1 by omega] at h0 h2
  rw [show n - (n - 1 - x + 1) = x by omega] at h1 h3
  rw [Nat.add_mul, Nat.one_mul] at h2 h3
  unfold midC tiltX tiltY cor0 cor1 cor2 cor3
  rw [show y * (n + 1) + (n - 1 - x) + 1 = y * (n + 1) + (n - 1 - x + 1) by omega, show y * (n + 1) + (n - 1 - x) + (n + 1) = y * (n + 1) + (n + 1) + (n - 1 - x) by omega, show y * (n + 1) + (n + 1) + (n - 1 - x) + 1 = y * (n + 1) + (n + 1) + (n - 1 - x + 1) by omega, h0, h1, h2, h3,
    show y * (n + 1) + x + 1 = y * (n + 1) + (x + 1) by omega, show y * (n + 1) + x + (n + 1) = y * (n + 1) + (n + 1) + x by omega, show y * (n + 1) + (n + 1) + x + 1 = y * (n + 1) + (n + 1) + (x + 1) by omega]
  omega
theorem mirror_dark {n m : Nat} {p : Int} {hs hs' : List Int} {lx ly lz : Int} {x y : Nat} (h : MirrorIs n m hs hs') (hx : x < n) (hy : y < m) : darkB n m p hs' (-lx) ly lz (n - 1 - x) y = darkB n m p hs lx ly lz x y := by
  have hg := gL_mirror lx ly
  have hq := quo_neg (show gL lx ly ∣ lx from Int.gcd_dvd_left lx ly)
  have hX : ∀ k, rayX (-lx) ly (n - 1 - x) k = (n : Int) - 1 - rayX lx ly x k := fun k => by
    unfold rayX
    rw [hg, hq, Int.mul_neg]
    omega
  have hY : ∀ k, rayY (-lx) ly y k = rayY lx ly y k := fun k => by
    unfold rayY
    rw [hg]
  refine bool_eq (dark_map hg.symm fun k X Y h1 h2 h3 h4 => ?_) (dark_map hg fun k X Y h1 h2 h3 h4 => ?_)
  · rw [hX] at h3
    rw [hY] at h4
    refine ⟨n - 1 - X, Y, by omega, h2, by omega, h4, ?_⟩
    have := (mirror_cell h (x := n - 1 - X) (y := Y) (by omega) h2).1
    rw [show n - 1 - (n - 1 - X) = X by omega] at this
    rw [this, (mirror_cell h hx hy).1]
  · refine ⟨n - 1 - X, Y, by omega, h2, by rw [hX, h3]; omega, by rw [hY, h4], ?_⟩
    rw [(mirror_cell h h1 h2).1, (mirror_cell h hx hy).1]
theorem mirror_seen {n m : Nat} {p : Int} {hs hs' : List Int} {lx ly lz : Int} {x y : Nat} (h : MirrorIs n m hs hs') (hx : x < n) (hy : y < m) : seenC n m p hs' (-lx) ly lz (n - 1 - x) y = seenC n m p hs lx ly lz x y := by
  obtain ⟨_, h1, h2⟩ := mirror_cell h hx hy
  unfold seenC
  rw [mirror_dark h hx hy, h1, h2, (shade_mirror ..).1, (shade_mirror ..).2]
end
end Go.Proofs.Ytlljhimaopnbfaa
