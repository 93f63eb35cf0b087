/- Distances of lines: moved, turned back, with one more spot, wrong by a little. No program. -/
import Derived.Test.YtlljhimaopnbfaaGFarP
namespace Go.Proofs.Ytlljhimaopnbfaa
section
/- GQ: Distances of lines in plain Lean: no two places of two lines are nearer than what is found, and some are so near. No program. -/
open Go.RowKit

/-- In fractions. -/
def alQ (px py ax ay bx by' : Rat) : Rat := (bx - ax) * (px - ax) + (by' - ay) * (py - ay)
def szQ (ax ay bx by' : Rat) : Rat := (bx - ax) * (bx - ax) + (by' - ay) * (by' - ay)
def crQ (px py ax ay bx by' : Rat) : Rat := (bx - ax) * (py - ay) - (by' - ay) * (px - ax)
theorem alQ_cast (px py ax ay bx by' : Int) : ((alongP px py ax ay bx by' : Int) : Rat) = alQ px py ax ay bx by' := by
  unfold alongP alQ; push_cast; rfl
theorem szQ_cast (ax ay bx by' : Int) : ((sizeP ax ay bx by' : Int) : Rat) = szQ ax ay bx by' := by
  unfold sizeP szQ; push_cast; rfl
theorem crQ_cast (px py ax ay bx by' : Int) : ((crossP px py ax ay bx by' : Int) : Rat) = crQ px py ax ay bx by' := by
  unfold crossP crQ; push_cast; rfl
theorem le_cast {a b : Int} : ((a : Rat) ≤ b) ↔ a ≤ b := Rat.intCast_le_intCast
theorem sq_q (x : Rat) : 0 ≤ x * x := by
  rcases (by grind : 0 ≤ x ∨ 0 ≤ -x) with h | h
  · exact Rat.mul_nonneg h h
  · have := Rat.mul_nonneg h h; grind
/-- A spot is no nearer to a place of a segment than to the segment. -/
theorem spot_le (px py ax ay bx by' : Int) (t : Rat) (h0 : 0 ≤ t) (h1 : t ≤ 1) :
    (spotN px py ax ay bx by' : Rat) ≤ spotD px py ax ay bx by' * szQ (ax + t * (bx - ax)) (ay + t * (by' - ay)) px py := by
  have H1 := alQ_cast px py ax ay bx by'
  have H2 := szQ_cast ax ay bx by'
  have H3 := crQ_cast px py ax ay bx by'
  have S0 : (0 : Rat) ≤ szQ ax ay bx by' := by unfold szQ; have := sq_q ((bx : Rat) - ax); have := sq_q ((by' : Rat) - ay); grind
  unfold spotN spotD
  by_cases c1 : alongP px py ax ay bx by' ≤ 0
  · rw [if_pos c1, if_pos c1, szQ_cast]
    have c2 : alQ px py ax ay bx by' ≤ 0 := by rw [← H1]; exact le_cast.2 c1
    have g1 := Rat.mul_nonneg h0 (show (0 : Rat) ≤ - alQ px py ax ay bx by' by grind)
    have g2 := Rat.mul_nonneg (sq_q t) S0
    unfold alQ szQ at *
    grind
  rw [if_neg c1, if_neg c1]
  by_cases c3 : sizeP ax ay bx by' ≤ alongP px py ax ay bx by'
  · rw [if_pos c3, if_pos c3, szQ_cast]
    have c2 : szQ ax ay bx by' ≤ alQ px py ax ay bx by' := by rw [← H1, ← H2]; exact le_cast.2 c3
    have g1 := Rat.mul_nonneg (show 0 ≤ 1 - t by grind) (show (0 : Rat) ≤ alQ px py ax ay bx by' - szQ ax ay bx by' by grind)
    have g2 := Rat.mul_nonneg (sq_q (1 - t)) S0
    unfold alQ szQ at *
    grind
  · rw [if_neg c3, if_neg c3, Rat.intCast_mul, H3, H2]
    have g := sq_q (alQ px py ax ay bx by' - t * szQ ax ay bx by')
    unfold alQ szQ crQ at *
    grind
/-- .. and it is so near to a place of it. -/
theorem spot_at (px py ax ay bx by' : Int) : ∃ t : Rat, 0 ≤ t ∧ t ≤ 1 ∧
    (spotN px py ax ay bx by' : Rat) = spotD px py ax ay bx by' * szQ (ax + t * (bx - ax)) (ay + t * (by' - ay)) px py := by
  have H1 := alQ_cast px py ax ay bx by'
  have H2 := szQ_cast ax ay bx by'
  have H3 := crQ_cast px py ax ay bx by'
  unfold spotN spotD
  by_cases c1 : alongP px py ax ay bx by' ≤ 0
  · refine ⟨0, by grind, by grind, ?_⟩
    rw [if_pos c1, if_pos c1, szQ_cast]
    unfold szQ at *
    grind
  rw [if_neg c1, if_neg c1]
  by_cases c3 : sizeP ax ay bx by' ≤ alongP px py ax ay bx by'
  · refine ⟨1, by grind, by grind, ?_⟩
    rw [if_pos c3, if_pos c3, szQ_cast]
    unfold szQ at *
    grind
  · rw [if_neg c3, if_neg c3, Rat.intCast_mul, H3, H2]
    have l1 : 0 < alQ px py ax ay bx by' := by rw [← H1]; exact Rat.intCast_lt_intCast.2 (show (0 : Int) < _ by omega)
    have l2 : alQ px py ax ay bx by' < szQ ax ay bx by' := by rw [← H1, ← H2]; exact Rat.intCast_lt_intCast.2 (by omega)
    obtain ⟨t, ht⟩ : ∃ t, t = alQ px py ax ay bx by' / szQ ax ay bx by' := ⟨_, rfl⟩
    have e : t * szQ ax ay bx by' = alQ px py ax ay bx by' := by rw [ht]; grind
    have i : 0 < (szQ ax ay bx by')⁻¹ := Rat.inv_pos.2 (by grind)
    refine ⟨t, ?_, ?_, ?_⟩
    · rw [ht, Rat.div_def]; exact Rat.mul_nonneg (by grind) (by grind)
    · rw [ht, Rat.div_def]
      have := Rat.mul_nonneg (show 0 ≤ szQ ax ay bx by' - alQ px py ax ay bx by' by grind) (show 0 ≤ (szQ ax ay bx by')⁻¹ by grind)
      grind
    · clear ht
      unfold alQ szQ crQ at *
      grind
theorem sq2 (x y : Rat) : 0 ≤ x * x + y * y := by have := sq_q x; have := sq_q y; grind
/-- On the way from a number of the unit interval to one outside, an end is met. -/
theorem way_out (x y : Rat) (h0 : 0 ≤ x) (h1 : x ≤ 1) (hy : y < 0 ∨ 1 < y) : ∃ m : Rat, 0 ≤ m ∧ m ≤ 1 ∧ (x + m * (y - x) = 0 ∨ x + m * (y - x) = 1) ∧ ∀ k : Rat, 0 ≤ k → k ≤ m → 0 ≤ x + k * (y - x) ∧ x + k * (y - x) ≤ 1 := by
  rcases hy with hy | hy
  · have hp : 0 < x - y := by grind
    have hi : 0 < (x - y)⁻¹ := Rat.inv_pos.2 hp
    have e : (x - y) * (x - y)⁻¹ = 1 := by grind
    refine ⟨x * (x - y)⁻¹, Rat.mul_nonneg h0 (by grind), ?_, .inl (by grind), fun k k0 k1 => ?_⟩
    · have := Rat.mul_nonneg (show 0 ≤ -y by grind) (show 0 ≤ (x - y)⁻¹ by grind)
      grind
    · have a1 := Rat.mul_nonneg k0 (show 0 ≤ x - y by grind)
      have a2 := Rat.mul_nonneg (show 0 ≤ x * (x - y)⁻¹ - k by grind) (show 0 ≤ x - y by grind)
      have e2 : (x * (x - y)⁻¹ - k) * (x - y) = x - k * (x - y) := by grind
      rw [e2] at a2
      clear e e2 hi k1
      constructor <;> grind
  · have hp : 0 < y - x := by grind
    have hi : 0 < (y - x)⁻¹ := Rat.inv_pos.2 hp
    have e : (y - x) * (y - x)⁻¹ = 1 := by grind
    refine ⟨(1 - x) * (y - x)⁻¹, Rat.mul_nonneg (by grind) (by grind), ?_, .inr (by grind), fun k k0 k1 => ?_⟩
    · have := Rat.mul_nonneg (show 0 ≤ y - 1 by grind) (show 0 ≤ (y - x)⁻¹ by grind)
      grind
    · have a1 := Rat.mul_nonneg k0 (show 0 ≤ y - x by grind)
      have a2 := Rat.mul_nonneg (show 0 ≤ (1 - x) * (y - x)⁻¹ - k by grind) (show 0 ≤ y - x by grind)
      have e2 : ((1 - x) * (y - x)⁻¹ - k) * (y - x) = 1 - x - k * (y - x) := by grind
      rw [e2] at a2
      clear e e2 hi k1
      constructor <;> grind
theorem way_in (x y k : Rat) (h0 : 0 ≤ x) (h1 : x ≤ 1) (g0 : 0 ≤ y) (g1 : y ≤ 1) (k0 : 0 ≤ k) (k1 : k ≤ 1) : 0 ≤ x + k * (y - x) ∧ x + k * (y - x) ≤ 1 := by
  have a1 := Rat.mul_nonneg k0 g0
  have a2 := Rat.mul_nonneg (show 0 ≤ 1 - k by grind) h0
  have a3 := Rat.mul_nonneg k0 (show 0 ≤ 1 - y by grind)
  have a4 := Rat.mul_nonneg (show 0 ≤ 1 - k by grind) (show 0 ≤ 1 - x by grind)
  constructor <;> grind
/-- Two numbers at once. -/
theorem ways_out (x y x' y' : Rat) (h0 : 0 ≤ x) (h1 : x ≤ 1) (g0 : 0 ≤ y) (g1 : y ≤ 1) (hn : ¬ ((0 ≤ x' ∧ x' ≤ 1) ∧ 0 ≤ y' ∧ y' ≤ 1)) :
    ∃ m : Rat, 0 ≤ m ∧ m ≤ 1 ∧ (0 ≤ x + m * (x' - x) ∧ x + m * (x' - x) ≤ 1) ∧ (0 ≤ y + m * (y' - y) ∧ y + m * (y' - y) ≤ 1) ∧
      ((x + m * (x' - x) = 0 ∨ x + m * (x' - x) = 1) ∨ (y + m * (y' - y) = 0 ∨ y + m * (y' - y) = 1)) := by
  by_cases hx : 0 ≤ x' ∧ x' ≤ 1
  · obtain ⟨m, m0, m1, e, _⟩ := way_out y y' g0 g1 (by grind)
    exact ⟨m, m0, m1, way_in x x' m h0 h1 hx.1 hx.2 m0 m1, by rcases e with e | e <;> rw [e] <;> grind, .inr e⟩
  by_cases hy : 0 ≤ y' ∧ y' ≤ 1
  · obtain ⟨m, m0, m1, e, _⟩ := way_out x x' h0 h1 (by grind)
    exact ⟨m, m0, m1, by rcases e with e | e <;> rw [e] <;> grind, way_in y y' m g0 g1 hy.1 hy.2 m0 m1, .inl e⟩
  obtain ⟨m, m0, m1, e, k⟩ := way_out x x' h0 h1 (by grind)
  obtain ⟨n, n0, n1, f, l⟩ := way_out y y' g0 g1 (by grind)
  rcases (by grind : m ≤ n ∨ n ≤ m) with h | h
  · exact ⟨m, m0, m1, k m m0 (by grind), l m m0 h, .inl e⟩
  · exact ⟨n, n0, n1, k n n0 h, l n n0 (by grind), .inr f⟩
/-- Places of two segments: there are places no farther from each other, of which one is an end; or the segments cross between their ends. -/
theorem seg_cases (ax ay bx by' cx cy dx dy s t : Rat) (h0 : 0 ≤ s) (h1 : s ≤ 1) (g0 : 0 ≤ t) (g1 : t ≤ 1) :
    (∃ s' t' : Rat, (0 ≤ s' ∧ s' ≤ 1) ∧ (0 ≤ t' ∧ t' ≤ 1) ∧ ((s' = 0 ∨ s' = 1) ∨ (t' = 0 ∨ t' = 1)) ∧
      szQ (ax + s' * (bx - ax)) (ay + s' * (by' - ay)) (cx + t' * (dx - cx)) (cy + t' * (dy - cy)) ≤ szQ (ax + s * (bx - ax)) (ay + s * (by' - ay)) (cx + t * (dx - cx)) (cy + t * (dy - cy))) ∨
    ((bx - ax) * (dy - cy) - (by' - ay) * (dx - cx) ≠ 0 ∧ ∃ s' t' : Rat, (0 < s' ∧ s' < 1) ∧ (0 < t' ∧ t' < 1) ∧ ax + s' * (bx - ax) = cx + t' * (dx - cx) ∧ ay + s' * (by' - ay) = cy + t' * (dy - cy)) := by
  obtain ⟨ux, hux⟩ : ∃ z, z = bx - ax := ⟨_, rfl⟩
  obtain ⟨uy, huy⟩ : ∃ z, z = by' - ay := ⟨_, rfl⟩
  obtain ⟨vx, hvx⟩ : ∃ z, z = dx - cx := ⟨_, rfl⟩
  obtain ⟨vy, hvy⟩ : ∃ z, z = dy - cy := ⟨_, rfl⟩
  rw [← hux, ← huy, ← hvx, ← hvy]
  clear hux huy hvx hvy
  by_cases hD : ux * vy - uy * vx = 0
  · refine .inl ?_
    -- parallel: a way on which the difference stays
    by_cases hu : ux * ux + uy * uy = 0
    · have a1 : 0 ≤ ux * ux := by rcases (by grind : 0 ≤ ux ∨ 0 ≤ -ux) with h | h <;> have := Rat.mul_nonneg h h <;> grind
      have a2 : 0 ≤ uy * uy := by rcases (by grind : 0 ≤ uy ∨ 0 ≤ -uy) with h | h <;> have := Rat.mul_nonneg h h <;> grind
      have e1 : ux = 0 := by have : ux * ux = 0 := by grind
                             rcases Rat.mul_eq_zero.1 this with h | h <;> exact h
      have e2 : uy = 0 := by have : uy * uy = 0 := by grind
                             rcases Rat.mul_eq_zero.1 this with h | h <;> exact h
      refine ⟨0, t, ⟨by grind, by grind⟩, ⟨g0, g1⟩, .inl (.inl rfl), ?_⟩
      rw [e1, e2]; unfold szQ; grind
    · -- v = l u
      obtain ⟨l, hl⟩ : ∃ l, l = (ux * vx + uy * vy) / (ux * ux + uy * uy) := ⟨_, rfl⟩
      have e1 : vx = l * ux := by rw [hl]; grind
      have e2 : vy = l * uy := by rw [hl]; grind
      -- towards t = -1: s - l (t + 1)
      obtain ⟨m, m0, m1, b1, b2, b3⟩ := ways_out s t (s - l * (t + 1)) (-1) h0 h1 g0 g1 (by grind)
      refine ⟨_, _, b1, b2, b3, ?_⟩
      have q1 : ax + (s + m * (s - l * (t + 1) - s)) * ux - (cx + (t + m * (-1 - t)) * vx) = ax + s * ux - (cx + t * vx) := by rw [e1]; grind
      have q2 : ay + (s + m * (s - l * (t + 1) - s)) * uy - (cy + (t + m * (-1 - t)) * vy) = ay + s * uy - (cy + t * vy) := by rw [e2]; grind
      unfold szQ
      have q3 : cx + (t + m * (-1 - t)) * vx - (ax + (s + m * (s - l * (t + 1) - s)) * ux) = cx + t * vx - (ax + s * ux) := by grind
      have q4 : cy + (t + m * (-1 - t)) * vy - (ay + (s + m * (s - l * (t + 1) - s)) * uy) = cy + t * vy - (ay + s * uy) := by grind
      rw [q3, q4]; grind
  · obtain ⟨s', hs⟩ : ∃ z, z = ((cx - ax) * vy - (cy - ay) * vx) / (ux * vy - uy * vx) := ⟨_, rfl⟩
    obtain ⟨t', ht⟩ : ∃ z, z = ((cx - ax) * uy - (cy - ay) * ux) / (ux * vy - uy * vx) := ⟨_, rfl⟩
    have e1 : ax + s' * ux = cx + t' * vx := by rw [hs, ht]; grind
    have e2 : ay + s' * uy = cy + t' * vy := by rw [hs, ht]; grind
    clear hs ht
    by_cases hin : (0 ≤ s' ∧ s' ≤ 1) ∧ 0 ≤ t' ∧ t' ≤ 1
    · by_cases hb : (s' = 0 ∨ s' = 1) ∨ (t' = 0 ∨ t' = 1)
      · refine .inl ⟨s', t', hin.1, hin.2, hb, ?_⟩
        rw [e1, e2]
        unfold szQ
        have := sq2 (cx + t * vx - (ax + s * ux)) (cy + t * vy - (ay + s * uy))
        grind
      · exact .inr ⟨hD, s', t', by grind, by grind, e1, e2⟩
    · obtain ⟨m, m0, m1, b1, b2, b3⟩ := ways_out s t s' t' h0 h1 g0 g1 hin
      refine .inl ⟨_, _, b1, b2, b3, ?_⟩
      have q1 : cx + (t + m * (t' - t)) * vx - (ax + (s + m * (s' - s)) * ux) = (1 - m) * (cx + t * vx - (ax + s * ux)) := by grind
      have q2 : cy + (t + m * (t' - t)) * vy - (ay + (s + m * (s' - s)) * uy) = (1 - m) * (cy + t * vy - (ay + s * uy)) := by grind
      unfold szQ
      rw [q1, q2]
      have h2 := sq2 (cx + t * vx - (ax + s * ux)) (cy + t * vy - (ay + s * uy))
      generalize cx + t * vx - (ax + s * ux) = p at *
      generalize cy + t * vy - (ay + s * uy) = q at *
      have h3 : 0 ≤ 1 - (1 - m) * (1 - m) := by have := Rat.mul_nonneg m0 (show 0 ≤ 2 - m by grind); grind
      have := Rat.mul_nonneg h3 h2
      grind

/-- Two ends on different sides of the other segment, and the other way round: the segments cross. -/
theorem apart_iff (a b c d : Int × Int) : apartP a b c d = true ↔ (0 < crQ c.1 c.2 a.1 a.2 b.1 b.2 ∧ crQ d.1 d.2 a.1 a.2 b.1 b.2 < 0) ∨ (crQ c.1 c.2 a.1 a.2 b.1 b.2 < 0 ∧ 0 < crQ d.1 d.2 a.1 a.2 b.1 b.2) := by
  unfold apartP apartB
  rw [← crQ_cast, ← crQ_cast]
  generalize crossP c.1 c.2 a.1 a.2 b.1 b.2 = m
  generalize crossP d.1 d.2 a.1 a.2 b.1 b.2 = n
  have z (k : Int) : ((0 : Rat) < k) ↔ 0 < k := Rat.intCast_lt_intCast (a := 0) (b := k)
  have z' (k : Int) : ((k : Rat) < 0) ↔ k < 0 := Rat.intCast_lt_intCast (a := k) (b := 0)
  rw [z, z, z', z']
  by_cases h1 : 0 < m <;> by_cases h2 : 0 < n <;> simp [h1, h2] <;> omega
abbrev dQ (a b c d : Int × Int) (s t : Rat) : Rat := szQ (a.1 + s * (b.1 - a.1)) (a.2 + s * (b.2 - a.2)) (c.1 + t * (d.1 - c.1)) (c.2 + t * (d.2 - c.2))
theorem szQ_sym (x y z u : Rat) : szQ x y z u = szQ z u x y := by unfold szQ; grind
theorem cross_at {a b c d : Int × Int} (h1 : apartP a b c d = true) (h2 : apartP c d a b = true) : ∃ s t : Rat, (0 ≤ s ∧ s ≤ 1) ∧ (0 ≤ t ∧ t ≤ 1) ∧ dQ a b c d s t = 0 := by
  rw [apart_iff] at h1 h2
  unfold dQ
  generalize (a.1 : Rat) = ax at *
  generalize (a.2 : Rat) = ay at *
  generalize (b.1 : Rat) = bx at *
  generalize (b.2 : Rat) = by' at *
  generalize (c.1 : Rat) = cx at *
  generalize (c.2 : Rat) = cy at *
  generalize (d.1 : Rat) = dx at *
  generalize (d.2 : Rat) = dy at *
  obtain ⟨p, hp⟩ : ∃ p, p = crQ ax ay cx cy dx dy := ⟨_, rfl⟩
  obtain ⟨q, hq⟩ : ∃ q, q = crQ bx by' cx cy dx dy := ⟨_, rfl⟩
  obtain ⟨m, hm⟩ : ∃ p, p = crQ cx cy ax ay bx by' := ⟨_, rfl⟩
  obtain ⟨n, hn⟩ : ∃ q, q = crQ dx dy ax ay bx by' := ⟨_, rfl⟩
  rw [← hp, ← hq] at h2
  rw [← hm, ← hn] at h1
  obtain ⟨D, hD⟩ : ∃ D, D = (bx - ax) * (dy - cy) - (by' - ay) * (dx - cx) := ⟨_, rfl⟩
  unfold crQ at hp hq hm hn
  have e1 : p - q = D := by grind
  have e2 : n - m = D := by grind
  have hD0 : D ≠ 0 := by grind
  obtain ⟨s, hs⟩ : ∃ s, s = p / D := ⟨_, rfl⟩
  obtain ⟨t, ht⟩ : ∃ t, t = - m / D := ⟨_, rfl⟩
  have es : s * D = p := by rw [hs]; grind
  have et : t * D = - m := by rw [ht]; grind
  have k1 : ax + s * (bx - ax) = cx + t * (dx - cx) := by
    have : D * (ax + s * (bx - ax) - (cx + t * (dx - cx))) = 0 := by grind
    rcases Rat.mul_eq_zero.1 this with h | h
    · exact absurd h hD0
    · grind
  have k2 : ay + s * (by' - ay) = cy + t * (dy - cy) := by
    have : D * (ay + s * (by' - ay) - (cy + t * (dy - cy))) = 0 := by grind
    rcases Rat.mul_eq_zero.1 this with h | h
    · exact absurd h hD0
    · grind
  have U : ∀ (x y z : Rat), x * D = y → (0 < y ∧ y < D) ∨ (y < 0 ∧ D < y) → 0 ≤ x ∧ x ≤ 1 := fun x y z e h => by
    have hi : D * D⁻¹ = 1 := by grind
    have ex : x = y * D⁻¹ := by grind
    rcases h with h | h
    · have hi2 : 0 < D⁻¹ := Rat.inv_pos.2 (by grind)
      have a1 := Rat.mul_nonneg (show 0 ≤ y by grind) (show 0 ≤ D⁻¹ by grind)
      have a2 := Rat.mul_nonneg (show 0 ≤ D - y by grind) (show 0 ≤ D⁻¹ by grind)
      constructor <;> grind
    · have hi2 : 0 < (-D)⁻¹ := Rat.inv_pos.2 (by grind)
      have hi3 : (-D) * (-D)⁻¹ = 1 := by grind
      have ex2 : x = (-y) * (-D)⁻¹ := by grind
      have a1 := Rat.mul_nonneg (show 0 ≤ -y by grind) (show 0 ≤ (-D)⁻¹ by grind)
      have a2 := Rat.mul_nonneg (show 0 ≤ y - D by grind) (show 0 ≤ (-D)⁻¹ by grind)
      constructor <;> grind
  refine ⟨s, t, U s p 0 es (by grind), U t (-m) 0 et (by grind), ?_⟩
  rw [k1, k2]
  unfold szQ
  grind
theorem cross_of {a b c d : Int × Int} {s t : Rat} (hD : ((b.1 : Rat) - a.1) * ((d.2 : Rat) - c.2) - ((b.2 : Rat) - a.2) * ((d.1 : Rat) - c.1) ≠ 0) (hs : 0 < s ∧ s < 1) (ht : 0 < t ∧ t < 1)
    (h1 : (a.1 : Rat) + s * (b.1 - a.1) = c.1 + t * (d.1 - c.1)) (h2 : (a.2 : Rat) + s * (b.2 - a.2) = c.2 + t * (d.2 - c.2)) : apartP a b c d = true ∧ apartP c d a b = true := by
  rw [apart_iff, apart_iff]
  generalize (a.1 : Rat) = ax at *
  generalize (a.2 : Rat) = ay at *
  generalize (b.1 : Rat) = bx at *
  generalize (b.2 : Rat) = by' at *
  generalize (c.1 : Rat) = cx at *
  generalize (c.2 : Rat) = cy at *
  generalize (d.1 : Rat) = dx at *
  generalize (d.2 : Rat) = dy at *
  obtain ⟨D, hDD⟩ : ∃ D, D = (bx - ax) * (dy - cy) - (by' - ay) * (dx - cx) := ⟨_, rfl⟩
  rw [← hDD] at hD
  have e1 : crQ cx cy ax ay bx by' = -t * D := by unfold crQ; grind
  have e2 : crQ dx dy ax ay bx by' = (1 - t) * D := by unfold crQ; grind
  have e3 : crQ ax ay cx cy dx dy = s * D := by unfold crQ; grind
  have e4 : crQ bx by' cx cy dx dy = -(1 - s) * D := by unfold crQ; grind
  rw [e1, e2, e3, e4]
  rcases (by grind : 0 < D ∨ 0 < -D) with h | h
  · have a1 := Rat.mul_pos ht.1 h
    have a2 := Rat.mul_pos (show 0 < 1 - t by grind) h
    have a3 := Rat.mul_pos hs.1 h
    have a4 := Rat.mul_pos (show 0 < 1 - s by grind) h
    constructor <;> grind
  · have a1 := Rat.mul_pos ht.1 h
    have a2 := Rat.mul_pos (show 0 < 1 - t by grind) h
    have a3 := Rat.mul_pos hs.1 h
    have a4 := Rat.mul_pos (show 0 < 1 - s by grind) h
    constructor <;> grind

/-- A fraction is at most a number. -/
def Lq (s : Int × Int) (z : Rat) : Prop := 0 < s.2 ∧ (s.1 : Rat) ≤ s.2 * z
theorem spotP_den (p a b : Int × Int) : 0 < (spotP p a b).2 := by
  unfold spotP spotD
  simp only
  (repeat' split) <;> omega
theorem Lq.mono {s : Int × Int} {z z' : Rat} (h : Lq s z) (hz : z ≤ z') : Lq s z' := by
  refine ⟨h.1, ?_⟩
  have := Rat.mul_nonneg (show (0 : Rat) ≤ s.2 from Rat.intCast_le_intCast.2 (show (0 : Int) ≤ s.2 by have := h.1; omega)) (show 0 ≤ z' - z by grind)
  have := h.2
  grind
theorem spotP_le (p a b : Int × Int) (t : Rat) (h0 : 0 ≤ t) (h1 : t ≤ 1) : Lq (spotP p a b) (szQ (a.1 + t * (b.1 - a.1)) (a.2 + t * (b.2 - a.2)) p.1 p.2) :=
  ⟨spotP_den _ _ _, spot_le p.1 p.2 a.1 a.2 b.1 b.2 t h0 h1⟩
/-- Two segments that do not cross: one of the four squares is at most that of any two places. -/
theorem four_low (a b c d : Int × Int) (hx : (apartP a b c d && apartP c d a b) = false) (s t : Rat) (hs : 0 ≤ s ∧ s ≤ 1) (ht : 0 ≤ t ∧ t ≤ 1) :
    Lq (spotP a c d) (dQ a b c d s t) ∨ Lq (spotP b c d) (dQ a b c d s t) ∨ Lq (spotP c a b) (dQ a b c d s t) ∨ Lq (spotP d a b) (dQ a b c d s t) := by
  rcases seg_cases a.1 a.2 b.1 b.2 c.1 c.2 d.1 d.2 s t hs.1 hs.2 ht.1 ht.2 with ⟨s', t', h1, h2, hb, hle⟩ | ⟨hD, s', t', h1, h2, e1, e2⟩
  · rcases hb with (rfl | rfl) | (rfl | rfl)
    · refine .inl (Lq.mono (spotP_le a c d t' h2.1 h2.2) (Rat.le_trans ?_ hle))
      unfold szQ; grind
    · refine .inr (.inl (Lq.mono (spotP_le b c d t' h2.1 h2.2) (Rat.le_trans ?_ hle)))
      unfold szQ; grind
    · refine .inr (.inr (.inl (Lq.mono (spotP_le c a b s' h1.1 h1.2) (Rat.le_trans ?_ hle))))
      unfold szQ; grind
    · refine .inr (.inr (.inr (Lq.mono (spotP_le d a b s' h1.1 h1.2) (Rat.le_trans ?_ hle))))
      unfold szQ; grind
  · obtain ⟨k1, k2⟩ := cross_of hD h1 h2 e1 e2
    rw [k1, k2] at hx
    cases hx

/-- A place of a line. -/
def OnP (xs : List (Int × Int)) (x y : Rat) : Prop := ∃ i, i < segN xs.length ∧ ∃ s : Rat, (0 ≤ s ∧ s ≤ 1) ∧ x = (sgA xs i).1 + s * ((sgB xs i).1 - (sgA xs i).1) ∧ y = (sgA xs i).2 + s * ((sgB xs i).2 - (sgA xs i).2)
/-- A fraction is the square of a distance of two places. -/
def AtQ (xs ys : List (Int × Int)) (s : Int × Int) : Prop := 0 < s.2 ∧ ∃ x y u v : Rat, OnP xs x y ∧ OnP ys u v ∧ (s.1 : Rat) = s.2 * szQ x y u v
theorem take_low {s u : Int × Int} {z : Rat} (h : Lq s z) (hu : 0 < u.2) : Lq (takeP s u) z := by
  unfold takeP take1
  split
  · rename_i hc
    rcases hc with hc | hc
    · have := h.1; omega
    · refine ⟨hu, ?_⟩
      have h2 := h.2
      have h1 : (0 : Rat) < s.2 := Rat.intCast_lt_intCast.2 h.1
      have h3 : (0 : Rat) < u.2 := Rat.intCast_lt_intCast.2 hu
      have h4 : (u.1 : Rat) * s.2 ≤ s.1 * u.2 := by
        rw [← Rat.intCast_mul, ← Rat.intCast_mul]
        exact Rat.intCast_le_intCast.2 (by omega)
      have h5 : (u.1 : Rat) * s.2 ≤ u.2 * z * s.2 := by
        have := Rat.mul_nonneg (show (0 : Rat) ≤ s.2 * z - s.1 by grind) (show (0 : Rat) ≤ u.2 by grind)
        grind
      have h6 : 0 ≤ (u.2 * z - u.1) * s.2 := by grind
      have hi : 0 < (s.2 : Rat)⁻¹ := Rat.inv_pos.2 h1
      have he : (s.2 : Rat) * (s.2 : Rat)⁻¹ = 1 := by grind
      have h7 := Rat.mul_nonneg h6 (show 0 ≤ (s.2 : Rat)⁻¹ by grind)
      have h8 : (u.2 * z - u.1) * s.2 * (s.2 : Rat)⁻¹ = u.2 * z - u.1 := by grind
      rw [h8] at h7
      show (u.1 : Rat) ≤ u.2 * z
      grind
  · exact h
theorem take_low2 {s u : Int × Int} {z : Rat} (hs : 0 ≤ s.2) (h : Lq u z) : Lq (takeP s u) z := by
  unfold takeP take1
  split
  · exact h
  · rename_i hc
    have hsd : 0 < s.2 := by omega
    refine ⟨hsd, ?_⟩
    have h2 := h.2
    have h1 : (0 : Rat) < s.2 := Rat.intCast_lt_intCast.2 hsd
    have h3 : (0 : Rat) < u.2 := Rat.intCast_lt_intCast.2 h.1
    have h4 : (s.1 : Rat) * u.2 ≤ u.1 * s.2 := by
      rw [← Rat.intCast_mul, ← Rat.intCast_mul]
      exact Rat.intCast_le_intCast.2 (by omega)
    have h5 : (s.1 : Rat) * u.2 ≤ s.2 * z * u.2 := by
      have := Rat.mul_nonneg (show (0 : Rat) ≤ u.2 * z - u.1 by grind) (show (0 : Rat) ≤ s.2 by grind)
      grind
    have h6 : 0 ≤ (s.2 * z - s.1) * u.2 := by grind
    have hi : 0 < (u.2 : Rat)⁻¹ := Rat.inv_pos.2 h3
    have he : (u.2 : Rat) * (u.2 : Rat)⁻¹ = 1 := by grind
    have h7 := Rat.mul_nonneg h6 (show 0 ≤ (u.2 : Rat)⁻¹ by grind)
    have h8 : (s.2 * z - s.1) * u.2 * (u.2 : Rat)⁻¹ = s.2 * z - s.1 := by grind
    rw [h8] at h7
    show (s.1 : Rat) ≤ s.2 * z
    grind
theorem take_den {s u : Int × Int} (hs : 0 ≤ s.2) (hu : 0 < u.2) : 0 < (takeP s u).2 := by
  unfold takeP take1
  split
  · exact hu
  · rename_i hc; omega
theorem four_keep {s a b c d : Int × Int} {z : Rat} (h : Lq s z) : Lq (four s a b c d) z :=
  take_low (take_low (take_low (take_low h (spotP_den _ _ _)) (spotP_den _ _ _)) (spotP_den _ _ _)) (spotP_den _ _ _)
theorem four_den {s a b c d : Int × Int} (hs : 0 ≤ s.2) : 0 < (four s a b c d).2 := by
  have h1 := take_den hs (spotP_den a c d)
  have h2 := take_den (Int.le_of_lt h1) (spotP_den b c d)
  have h3 := take_den (Int.le_of_lt h2) (spotP_den c a b)
  exact take_den (Int.le_of_lt h3) (spotP_den d a b)
theorem four_new {s a b c d : Int × Int} {z : Rat} (hs : 0 ≤ s.2) (h : Lq (spotP a c d) z ∨ Lq (spotP b c d) z ∨ Lq (spotP c a b) z ∨ Lq (spotP d a b) z) : Lq (four s a b c d) z := by
  have h1 := take_den hs (spotP_den a c d)
  have h2 := take_den (Int.le_of_lt h1) (spotP_den b c d)
  have h3 := take_den (Int.le_of_lt h2) (spotP_den c a b)
  rcases h with h | h | h | h
  · exact take_low (take_low (take_low (take_low2 hs h) (spotP_den _ _ _)) (spotP_den _ _ _)) (spotP_den _ _ _)
  · exact take_low (take_low (take_low2 (Int.le_of_lt h1) h) (spotP_den _ _ _)) (spotP_den _ _ _)
  · exact take_low (take_low2 (Int.le_of_lt h2) h) (spotP_den _ _ _)
  · exact take_low2 (Int.le_of_lt h3) h
theorem take_or {Q : Int × Int → Prop} {s u : Int × Int} (h : Q s ∨ s.2 = 0) (hu : Q u) : Q (takeP s u) := by
  unfold takeP take1
  split
  · exact hu
  · rename_i hc
    rcases h with h | h
    · exact h
    · omega
theorem four_or {Q : Int × Int → Prop} {s a b c d : Int × Int} (h : Q s ∨ s.2 = 0) (h1 : Q (spotP a c d)) (h2 : Q (spotP b c d)) (h3 : Q (spotP c a b)) (h4 : Q (spotP d a b)) : Q (four s a b c d) :=
  take_or (.inl (take_or (.inl (take_or (.inl (take_or h h1)) h2)) h3)) h4
theorem spot_seg {xs ys : List (Int × Int)} {i k : Nat} (hi : i < segN xs.length) (hk : k < segN ys.length) {p : Int × Int} (hp : p = sgA xs i ∨ p = sgB xs i) : AtQ xs ys (spotP p (sgA ys k) (sgB ys k)) := by
  obtain ⟨t, t0, t1, e⟩ := spot_at p.1 p.2 (sgA ys k).1 (sgA ys k).2 (sgB ys k).1 (sgB ys k).2
  refine ⟨spotP_den _ _ _, p.1, p.2, _, _, ⟨i, hi, ?_⟩, ⟨k, hk, t, ⟨t0, t1⟩, rfl, rfl⟩, by rw [szQ_sym]; exact e⟩
  rcases hp with rfl | rfl
  · exact ⟨0, by grind, by grind, by grind⟩
  · exact ⟨1, by grind, by grind, by grind⟩
theorem AtQ.sym {xs ys : List (Int × Int)} {s : Int × Int} (h : AtQ xs ys s) : AtQ ys xs s := by
  obtain ⟨h0, x, y, u, v, h1, h2, h3⟩ := h
  exact ⟨h0, u, v, x, y, h2, h1, by rw [szQ_sym]; exact h3⟩
theorem foldM_low {σ : Type} {f : σ → Nat → Option σ} {G : σ → Prop} {L : σ → Prop} (hG : ∀ s x s', G s → f s x = some s' → G s') (hL : ∀ s x s', G s → L s → f s x = some s' → L s') {k : Nat} (hk : ∀ s s', G s → f s k = some s' → L s') :
    ∀ (l : List Nat) (s s' : σ), G s → (L s ∨ k ∈ l) → l.foldlM f s = some s' → L s'
  | [], s, s', _, h, he => by
    cases he
    simpa using h
  | x :: l, s, s', hg, h, he => by
    simp only [List.foldlM_cons] at he
    cases hf : f s x with
    | none => rw [hf] at he; cases he
    | some s1 =>
      rw [hf] at he
      refine foldM_low hG hL hk l s1 s' (hG s x s1 hg hf) ?_ he
      rcases h with h | h
      · exact .inl (hL s x s1 hg h hf)
      · rcases List.mem_cons.1 h with rfl | h
        · exact .inl (hk s s1 hg hf)
        · exact .inr h
theorem foldM_none {σ : Type} {f : σ → Nat → Option σ} : ∀ (l : List Nat) (s : σ), l.foldlM f s = none → ∃ k ∈ l, ∃ s', f s' k = none
  | [], s, he => by cases he
  | x :: l, s, he => by
    simp only [List.foldlM_cons] at he
    cases hf : f s x with
    | none => exact ⟨x, by simp, s, hf⟩
    | some s1 =>
      rw [hf] at he
      obtain ⟨k, hk, h⟩ := foldM_none l s1 he
      exact ⟨k, by simp [hk], h⟩
theorem foldM_low' {σ : Type} {f : σ → Nat → Option σ} {A : σ → Prop} {Z : σ → Prop} : ∀ {l : List Nat} (_ : ∀ k s s', k ∈ l → (A s ∨ Z s) → f s k = some s' → A s') (_ : l ≠ []) {s s' : σ}, (A s ∨ Z s) → l.foldlM f s = some s' → A s'
  | [], _, hl, _, _, _, _ => absurd rfl hl
  | [x], h, _, s, s', ha, he => by
    simp only [List.foldlM_cons, List.foldlM_nil] at he
    cases hf : f s x with
    | none => rw [hf] at he; cases he
    | some s1 =>
      rw [hf] at he
      obtain rfl : s1 = s' := Option.some.inj he
      exact h x s s1 (by simp) ha hf
  | x :: y :: l, h, _, s, s', ha, he => by
    rw [List.foldlM_cons] at he
    cases hf : f s x with
    | none => rw [hf] at he; cases he
    | some s1 =>
      rw [hf] at he
      exact foldM_low' (l := y :: l) (fun k s s' hk => h k s s' (by simp [List.mem_cons.1 hk])) (by simp) (.inl (h x s s1 (by simp) ha hf)) he
/-- The distance of two lines: no two places are nearer, and some are so near. -/
theorem farL_spec (xs ys : List (Int × Int)) : AtQ xs ys (farL xs ys) ∧ ∀ x y u v, OnP xs x y → OnP ys u v → Lq (farL xs ys) (szQ x y u v) := by
  have nn : ∀ x y u v : Rat, 0 ≤ szQ x y u v := fun x y u v => sq2 _ _
  have hin : ∀ {a b : Int × Int} {s : Int × Int} {k : Nat} {s' : Int × Int}, farIn a b ys s k = some s' → (apartP a b (sgA ys k) (sgB ys k) && apartP (sgA ys k) (sgB ys k) a b) = false ∧ s' = four s a b (sgA ys k) (sgB ys k) := fun {a b s k s'} h => by
    unfold farIn at h
    split at h
    · cases h
    · rename_i hc
      exact ⟨by simpa using hc, (Option.some.inj h).symm⟩
  have hden : ∀ (a b : Int × Int) (s : Int × Int) (k : Nat) (s' : Int × Int), 0 ≤ s.2 → farIn a b ys s k = some s' → 0 ≤ s'.2 := fun a b s k s' h he => by
    obtain ⟨_, rfl⟩ := hin he
    exact Int.le_of_lt (four_den h)
  have hden2 : ∀ (s : Int × Int) (i : Nat) (s' : Int × Int), 0 ≤ s.2 → farOut xs ys s i = some s' → 0 ≤ s'.2 := fun s i s' h he =>
    foldM_inv (R := fun s => 0 ≤ s.2) (fun s x s' h hf => hden _ _ s x s' h hf) _ s s' h he
  unfold farL
  cases hf : (List.range (segN xs.length)).foldlM (farOut xs ys) (1, 0) with
  | none =>
    obtain ⟨i, hi, s, h1⟩ := foldM_none _ _ hf
    obtain ⟨k, hk, s2, h2⟩ := foldM_none _ _ h1
    have hi' := List.mem_range.1 hi
    have hk' := List.mem_range.1 hk
    unfold farIn at h2
    split at h2
    · rename_i hc
      simp only [Bool.and_eq_true] at hc
      obtain ⟨p, q, hp, hq, e⟩ := cross_at hc.1 hc.2
      refine ⟨⟨by decide, _, _, _, _, ⟨i, hi', p, hp, rfl, rfl⟩, ⟨k, hk', q, hq, rfl, rfl⟩, ?_⟩, fun x y u v _ _ => ⟨by decide, ?_⟩⟩
      · simp only [Option.getD_none]
        rw [show szQ _ _ _ _ = 0 from e]
        grind
      · have := nn x y u v
        simp only [Option.getD_none]
        grind
    · cases h2
  | some s' =>
    simp only [Option.getD_some]
    constructor
    · -- so near
      have hat : ∀ (i : Nat), i < segN xs.length → ∀ (k : Nat), k < segN ys.length → ∀ (s s' : Int × Int), (AtQ xs ys s ∨ s.2 = 0) → farIn (sgA xs i) (sgB xs i) ys s k = some s' → AtQ xs ys s' := fun i hi k hk s s' h he => by
        obtain ⟨_, rfl⟩ := hin he
        exact four_or h (spot_seg hi hk (.inl rfl)) (spot_seg hi hk (.inr rfl)) (spot_seg hk hi (.inl rfl)).sym (spot_seg hk hi (.inr rfl)).sym
      have hat2 : ∀ (i : Nat), i < segN xs.length → ∀ (s s' : Int × Int), (AtQ xs ys s ∨ s.2 = 0) → farOut xs ys s i = some s' → AtQ xs ys s' := fun i hi s s' h he => by
        have hz := segN_pos ys.length
        exact foldM_low' (fun k s s' hk h he => hat i hi k (List.mem_range.1 hk) s s' h he) (by rw [Ne, List.range_eq_nil]; omega) h he
      have hz := segN_pos xs.length
      exact foldM_low' (fun i s s' hi h he => hat2 i (List.mem_range.1 hi) s s' h he) (by rw [Ne, List.range_eq_nil]; omega) (.inr rfl) hf
    · rintro x y u v ⟨i, hi, p, hp, rfl, rfl⟩ ⟨k, hk, q, hq, rfl, rfl⟩
      have hkeep : ∀ (a b : Int × Int) (z : Rat) (s : Int × Int) (x : Nat) (s' : Int × Int), Lq s z → farIn a b ys s x = some s' → Lq s' z := fun a b z s x s' h he => by
        obtain ⟨_, rfl⟩ := hin he
        exact four_keep h
      refine foldM_low (G := fun s => 0 ≤ s.2) (L := fun s => Lq s _) (k := i) hden2 (fun s x s' _ h he => foldM_inv (R := fun s => Lq s _) (fun s x s' h he => hkeep _ _ _ s x s' h he) _ s s' h he) (fun s s' hg he => ?_) _ _ s' (by decide) (.inr (List.mem_range.2 hi)) hf
      refine foldM_low (G := fun s => 0 ≤ s.2) (L := fun s => Lq s _) (k := k) (hden _ _) (fun s x s' _ h he => hkeep _ _ _ s x s' h he) (fun s s' hg he => ?_) _ _ s' hg (.inr (List.mem_range.2 hk)) he
      obtain ⟨hx, rfl⟩ := hin he
      exact four_new hg (four_low _ _ _ _ hx p q hp hq)
end
open Go.RowKit

/-- A place of a segment. -/
def InSeg (p q : Int × Int) (x y : Rat) : Prop := ∃ s : Rat, (0 ≤ s ∧ s ≤ 1) ∧ x = p.1 + s * (q.1 - p.1) ∧ y = p.2 + s * (q.2 - p.2)
theorem InSeg.flip {p q : Int × Int} {x y : Rat} (h : InSeg p q x y) : InSeg q p x y := by
  obtain ⟨s, ⟨h0, h1⟩, rfl, rfl⟩ := h
  exact ⟨1 - s, by constructor <;> grind, by grind, by grind⟩
theorem onP_iff {xs : List (Int × Int)} {x y : Rat} : OnP xs x y ↔ ∃ i, i < segN xs.length ∧ InSeg (sgA xs i) (sgB xs i) x y := Iff.rfl
theorem sgA_at {xs : List (Int × Int)} {i : Nat} (h : i < xs.length) : sgA xs i = xs[i] := by unfold sgA; rw [List.getElem?_eq_getElem h]; rfl
theorem sgB_at {xs : List (Int × Int)} {i : Nat} (h : i + 1 < xs.length) : sgB xs i = xs[i + 1] := by
  unfold sgB
  rw [show min (i + 1) (xs.length - 1) = i + 1 by omega, List.getElem?_eq_getElem h]; rfl
theorem onP_two {xs : List (Int × Int)} (h : 2 ≤ xs.length) {x y : Rat} : OnP xs x y ↔ ∃ (i : Nat) (hi : i + 1 < xs.length), InSeg xs[i] xs[i + 1] x y := by
  rw [onP_iff]
  constructor
  · rintro ⟨i, hi, hs⟩
    unfold segN at hi
    have hi' : i + 1 < xs.length := by omega
    rw [sgA_at (by omega), sgB_at hi'] at hs
    exact ⟨i, hi', hs⟩
  · rintro ⟨i, hi, hs⟩
    refine ⟨i, by unfold segN; omega, ?_⟩
    rw [sgA_at (by omega), sgB_at hi]
    exact hs
theorem onP_one (p : Int × Int) {x y : Rat} : OnP [p] x y ↔ x = p.1 ∧ y = p.2 := by
  rw [onP_iff]
  constructor
  · rintro ⟨i, hi, s, hs, h1, h2⟩
    have : i = 0 := by simp [segN] at hi; omega
    subst this
    have e1 : sgA [p] 0 = p := rfl
    have e2 : sgB [p] 0 = p := rfl
    rw [e1, e2] at h1 h2
    constructor <;> grind
  · rintro ⟨rfl, rfl⟩
    have e1 : sgA [p] 0 = p := rfl
    exact ⟨0, by simp [segN], 0, by constructor <;> grind, by rw [e1]; grind, by rw [e1]; grind⟩
theorem onP_spot {xs : List (Int × Int)} {p : Int × Int} (h : p ∈ xs) : OnP xs p.1 p.2 := by
  obtain ⟨i, hi, rfl⟩ := List.getElem_of_mem h
  by_cases h2 : 2 ≤ xs.length
  · rw [onP_two h2]
    by_cases h3 : i + 1 < xs.length
    · exact ⟨i, h3, 0, by constructor <;> grind, by grind, by grind⟩
    · obtain ⟨k, rfl⟩ : ∃ k, i = k + 1 := ⟨i - 1, by omega⟩
      exact ⟨k, hi, 1, by constructor <;> grind, by grind, by grind⟩
  · have hl : xs.length = 1 := by omega
    obtain ⟨p, rfl⟩ := List.length_eq_one_iff.1 hl
    have : i = 0 := by simpa using hi
    subst this
    exact (onP_one p).2 ⟨rfl, rfl⟩

/-- One distance is at most the other. -/
theorem far_le {xs ys xs' ys' : List (Int × Int)} (h : ∀ x y u v, OnP xs' x y → OnP ys' u v → ∃ x1 y1 u1 v1, OnP xs x1 y1 ∧ OnP ys u1 v1 ∧ szQ x1 y1 u1 v1 ≤ szQ x y u v) : (farL xs ys).1 * (farL xs' ys').2 ≤ (farL xs' ys').1 * (farL xs ys).2 := by
  obtain ⟨⟨d0, x, y, u, v, h1, h2, e⟩, _⟩ := farL_spec xs' ys'
  obtain ⟨x1, y1, u1, v1, g1, g2, hle⟩ := h x y u v h1 h2
  have k := ((farL_spec xs ys).2 x1 y1 u1 v1 g1 g2).mono hle
  refine Rat.intCast_le_intCast.1 ?_
  rw [Rat.intCast_mul, Rat.intCast_mul, e]
  have := Rat.mul_nonneg (show (0 : Rat) ≤ (farL xs ys).2 * szQ x y u v - (farL xs ys).1 by have := k.2; grind) (show (0 : Rat) ≤ (farL xs' ys').2 from Rat.intCast_le_intCast.2 (show (0 : Int) ≤ _ by omega))
  grind
theorem lowF_eq {n d m e : Int} (hd : 0 < d) (he : 0 < e) (h : n * e = m * d) : lowF n d = lowF m e := by
  unfold lowF
  have g1 : (0 : Int) < Int.gcd n d := by have := Int.gcd_pos_of_ne_zero_right n (show d ≠ 0 by omega); omega
  have g2 : (0 : Int) < Int.gcd m e := by have := Int.gcd_pos_of_ne_zero_right m (show e ≠ 0 by omega); omega
  -- gcd n d * e = gcd m e * d
  have k : (Int.gcd n d : Int) * e = (Int.gcd m e : Int) * d := by
    have k1 : Int.gcd (n * e) (d * e) = Int.gcd n d * e.natAbs := Int.gcd_mul_right n e d
    have k2 : Int.gcd (m * d) (e * d) = Int.gcd m e * d.natAbs := Int.gcd_mul_right m d e
    rw [h, Int.mul_comm d e, k2] at k1
    have : ((Int.gcd m e * d.natAbs : Nat) : Int) = ((Int.gcd n d * e.natAbs : Nat) : Int) := by rw [k1]
    rw [Int.natCast_mul, Int.natCast_mul, Int.natAbs_of_nonneg (by omega), Int.natAbs_of_nonneg (by omega)] at this
    exact this.symm
  obtain ⟨a, ha⟩ := Int.gcd_dvd_left n d
  obtain ⟨b, hb⟩ := Int.gcd_dvd_right n d
  obtain ⟨a', ha'⟩ := Int.gcd_dvd_left m e
  obtain ⟨b', hb'⟩ := Int.gcd_dvd_right m e
  generalize hg : (Int.gcd n d : Int) = g at *
  generalize hg' : (Int.gcd m e : Int) = g' at *
  clear hg hg'
  subst ha hb ha' hb'
  rw [Int.mul_ediv_cancel_left _ (by omega), Int.mul_ediv_cancel_left _ (by omega), Int.mul_ediv_cancel_left _ (by omega), Int.mul_ediv_cancel_left _ (by omega)]
  have gg : g * g' ≠ 0 := Int.mul_ne_zero (by omega) (by omega)
  have kb : b = b' := Int.eq_of_mul_eq_mul_left gg (by grind)
  subst kb
  have hb : b ≠ 0 := by intro hb; subst hb; simp at hd
  have ka : a = a' := by
    have : (g * g') * b * a = (g * g') * b * a' := by grind
    exact Int.eq_of_mul_eq_mul_left (Int.mul_ne_zero gg hb) this
  rw [ka]
theorem far_pos (xs ys : List (Int × Int)) : 0 < (farL xs ys).2 := (farL_spec xs ys).1.1
theorem far_nn (xs ys : List (Int × Int)) : 0 ≤ (farL xs ys).1 := by
  obtain ⟨⟨d0, x, y, u, v, h1, h2, e⟩, _⟩ := farL_spec xs ys
  refine Rat.intCast_le_intCast.1 ?_
  rw [e]
  exact Rat.mul_nonneg (Rat.intCast_le_intCast.2 (show (0 : Int) ≤ _ by omega)) (sq2 _ _)
/-- The same distance. -/
theorem far_same {xs ys xs' ys' : List (Int × Int)} (h : ∀ x y u v, OnP xs' x y → OnP ys' u v → ∃ x1 y1 u1 v1, OnP xs x1 y1 ∧ OnP ys u1 v1 ∧ szQ x1 y1 u1 v1 ≤ szQ x y u v) (h' : ∀ x y u v, OnP xs x y → OnP ys u v → ∃ x1 y1 u1 v1, OnP xs' x1 y1 ∧ OnP ys' u1 v1 ∧ szQ x1 y1 u1 v1 ≤ szQ x y u v) : lowF (farL xs ys).1 (farL xs ys).2 = lowF (farL xs' ys').1 (farL xs' ys').2 := by
  have a := far_le h
  have b := far_le h'
  exact lowF_eq (far_pos _ _) (far_pos _ _) (by omega)
theorem onP_rev {xs : List (Int × Int)} {x y : Rat} (h : OnP xs x y) : OnP xs.reverse x y := by
  by_cases h2 : 2 ≤ xs.length
  · rw [onP_two h2] at h
    rw [onP_two (by simpa using h2)]
    obtain ⟨i, hi, hs⟩ := h
    refine ⟨xs.length - 2 - i, by simp; omega, ?_⟩
    simp only [List.getElem_reverse]
    have e1 : xs.length - 1 - (xs.length - 2 - i) = i + 1 := by omega
    have e2 : xs.length - 1 - (xs.length - 2 - i + 1) = i := by omega
    simp only [e1, e2]
    exact hs.flip
  · have hl : xs.length = 0 ∨ xs.length = 1 := by omega
    rcases hl with hl | hl
    · obtain rfl := List.length_eq_zero_iff.1 hl
      exact h
    · obtain ⟨p, rfl⟩ := List.length_eq_one_iff.1 hl
      exact h
/-- The other way round, one of them backwards. -/
theorem far_back (xs ys : List (Int × Int)) : lowF (farL ys xs.reverse).1 (farL ys xs.reverse).2 = lowF (farL xs ys).1 (farL xs ys).2 :=
  far_same (fun x y u v h1 h2 => ⟨u, v, x, y, h2, onP_rev h1, by rw [szQ_sym]; grind⟩) (fun x y u v h1 h2 => ⟨u, v, x, y, by have := onP_rev h2; rwa [List.reverse_reverse] at this, h1, by rw [szQ_sym]; grind⟩)

/-- Moves: each keeps the lines and the distances. -/
structure Move (T : Int × Int → Int × Int) (Q : Rat → Rat → Rat × Rat) : Prop where
  seg : ∀ (p q : Int × Int) (s : Rat), Q (p.1 + s * (q.1 - p.1)) (p.2 + s * (q.2 - p.2)) = ((T p).1 + s * ((T q).1 - (T p).1), (T p).2 + s * ((T q).2 - (T p).2))
  dist : ∀ x y u v, szQ (Q x y).1 (Q x y).2 (Q u v).1 (Q u v).2 = szQ x y u v
theorem Move.comp {T T' : Int × Int → Int × Int} {Q Q' : Rat → Rat → Rat × Rat} (h : Move T Q) (h' : Move T' Q') : Move (fun p => T' (T p)) (fun x y => Q' (Q x y).1 (Q x y).2) := by
  refine ⟨fun p q s => ?_, fun x y u v => ?_⟩
  · simp only [h.seg]
    exact h'.seg (T p) (T q) s
  · rw [h'.dist, h.dist]
theorem sg_map {T : Int × Int → Int × Int} {xs : List (Int × Int)} {i : Nat} (hi : i < segN xs.length) (hx : xs ≠ []) : sgA (xs.map T) i = T (sgA xs i) ∧ sgB (xs.map T) i = T (sgB xs i) := by
  have hl : 0 < xs.length := List.length_pos_iff.2 hx
  unfold segN at hi
  unfold sgA sgB
  rw [List.length_map, List.getElem?_map, List.getElem?_map, List.getElem?_eq_getElem (show i < xs.length by omega), List.getElem?_eq_getElem (show min (i + 1) (xs.length - 1) < xs.length by omega)]
  exact ⟨rfl, rfl⟩
theorem Move.on {T : Int × Int → Int × Int} {Q : Rat → Rat → Rat × Rat} (h : Move T Q) {xs : List (Int × Int)} (hx : xs ≠ []) {x y : Rat} (hp : OnP xs x y) : OnP (xs.map T) (Q x y).1 (Q x y).2 := by
  obtain ⟨i, hi, s, hs, rfl, rfl⟩ := hp
  refine ⟨i, by simpa using hi, s, hs, ?_⟩
  obtain ⟨e1, e2⟩ := sg_map (T := T) hi hx
  rw [e1, e2, h.seg]
  exact ⟨rfl, rfl⟩
theorem Move.off {T : Int × Int → Int × Int} {Q : Rat → Rat → Rat × Rat} (h : Move T Q) {xs : List (Int × Int)} (hx : xs ≠ []) {x y : Rat} (hp : OnP (xs.map T) x y) : ∃ x1 y1, OnP xs x1 y1 ∧ (x, y) = Q x1 y1 := by
  obtain ⟨i, hi, s, hs, rfl, rfl⟩ := hp
  have hi' : i < segN xs.length := by simpa using hi
  obtain ⟨e1, e2⟩ := sg_map (T := T) hi' hx
  exact ⟨_, _, ⟨i, hi', s, hs, rfl, rfl⟩, by rw [e1, e2, h.seg]⟩
theorem far_move {T : Int × Int → Int × Int} {Q : Rat → Rat → Rat × Rat} (h : Move T Q) {xs ys : List (Int × Int)} (hx : xs ≠ []) (hy : ys ≠ []) : lowF (farL (xs.map T) (ys.map T)).1 (farL (xs.map T) (ys.map T)).2 = lowF (farL xs ys).1 (farL xs ys).2 := by
  refine far_same (fun x y u v h1 h2 => ⟨_, _, _, _, h.on hx h1, h.on hy h2, by rw [h.dist]; grind⟩) (fun x y u v h1 h2 => ?_)
  obtain ⟨x1, y1, g1, e1⟩ := h.off hx h1
  obtain ⟨u1, v1, g2, e2⟩ := h.off hy h2
  refine ⟨x1, y1, u1, v1, g1, g2, ?_⟩
  rw [← h.dist, ← e1, ← e2]
  grind
theorem move_id : Move (fun p => p) (fun x y => (x, y)) := ⟨fun _ _ _ => rfl, fun _ _ _ _ => rfl⟩
theorem move_mir : Move (fun p => (-p.1, p.2)) (fun x y => (-x, y)) := ⟨fun p q s => by simp only [Rat.intCast_neg]; refine Prod.ext ?_ ?_ <;> simp only <;> grind, fun x y u v => by unfold szQ; grind⟩
theorem move_turn : Move (fun p => (-p.2, p.1)) (fun x y => (-y, x)) := ⟨fun p q s => by simp only [Rat.intCast_neg]; refine Prod.ext ?_ ?_ <;> simp only <;> grind, fun x y u v => by unfold szQ; grind⟩
theorem move_by (a b : Int) : Move (fun p => (p.1 + a, p.2 + b)) (fun x y => (x + a, y + b)) := ⟨fun p q s => by simp only [Rat.intCast_add]; refine Prod.ext ?_ ?_ <;> simp only <;> grind, fun x y u v => by unfold szQ; grind⟩

/-- Fewer places are no nearer. -/
theorem far_sub {xs ys xs' ys' : List (Int × Int)} (h : ∀ x y, OnP xs' x y → OnP xs x y) (h' : ∀ x y, OnP ys' x y → OnP ys x y) : (farL xs ys).1 * (farL xs' ys').2 ≤ (farL xs' ys').1 * (farL xs ys).2 :=
  far_le fun x y u v h1 h2 => ⟨x, y, u, v, h _ _ h1, h' _ _ h2, by grind⟩
/-- Lines with a spot in common. -/
theorem far_zero {xs ys : List (Int × Int)} {p : Int × Int} (hx : p ∈ xs) (hy : p ∈ ys) : (farL xs ys).1 = 0 := by
  have h := (farL_spec xs ys).2 _ _ _ _ (onP_spot hx) (onP_spot hy)
  have h2 := h.2
  have h3 : szQ p.1 p.2 p.1 p.2 = 0 := by unfold szQ; grind
  rw [h3, Rat.mul_zero] at h2
  have h4 : (farL xs ys).1 ≤ 0 := Rat.intCast_le_intCast.1 h2
  have := far_nn xs ys
  omega
theorem lowF_zero {d : Int} (hd : 0 < d) : lowF 0 d = (0, 1) := by
  have := lowF_eq (n := 0) (m := 0) hd (show (0 : Int) < 1 by decide) (by simp)
  rw [this]
  decide

/-- One more spot in the middle of two others. -/
def insMid (xs : List (Int × Int)) (k : Nat) (m : Int × Int) : List (Int × Int) := xs.take k ++ m :: xs.drop k
theorem insMid_len {xs : List (Int × Int)} {k : Nat} {m : Int × Int} (hk : k ≤ xs.length) : (insMid xs k m).length = xs.length + 1 := by
  simp [insMid]; omega
theorem insMid_at {xs : List (Int × Int)} {k : Nat} {m : Int × Int} (hk : k ≤ xs.length) (j : Nat) (hj : j < (insMid xs k m).length) : (insMid xs k m)[j] = if h : j < k then xs[j] else if h2 : j = k then m else xs[j - 1]'(by rw [insMid_len hk] at hj; omega) := by
  have hj' := hj
  rw [insMid_len hk] at hj'
  have ht : (xs.take k).length = k := by simp; omega
  have e : (insMid xs k m)[j]? = (if j < k then xs[j]? else if j = k then some m else xs[j - 1]?) := by
    unfold insMid
    by_cases h : j < k
    · rw [List.getElem?_append_left (by omega), if_pos h, List.getElem?_take, if_pos h]
    · rw [List.getElem?_append_right (by omega), ht, if_neg h]
      by_cases e : j = k
      · subst e; simp
      · obtain ⟨q, rfl⟩ : ∃ q, j = k + (q + 1) := ⟨j - k - 1, by omega⟩
        rw [if_neg e, show k + (q + 1) - k = q + 1 by omega, List.getElem?_cons_succ, List.getElem?_drop]
        congr 1
  rw [List.getElem?_eq_getElem hj] at e
  split
  · rename_i h
    rw [if_pos h, List.getElem?_eq_getElem (by omega)] at e
    exact Option.some.inj e
  · rename_i h
    rw [if_neg h] at e
    split
    · rename_i h2
      rw [if_pos h2] at e
      exact Option.some.inj e
    · rename_i h2
      rw [if_neg h2, List.getElem?_eq_getElem (by omega)] at e
      exact Option.some.inj e
theorem onP_mid {xs : List (Int × Int)} {k : Nat} {m : Int × Int} (hk1 : 1 ≤ k) (hk : k < xs.length) (hm1 : 2 * m.1 = (xs[k - 1]).1 + (xs[k]).1) (hm2 : 2 * m.2 = (xs[k - 1]).2 + (xs[k]).2) {x y : Rat} : OnP (insMid xs k m) x y ↔ OnP xs x y := by
  have hl := insMid_len (m := m) (Nat.le_of_lt hk)
  have q1 : 2 * (m.1 : Rat) = (xs[k - 1]).1 + (xs[k]).1 := by
    have := congrArg (fun z : Int => (z : Rat)) hm1
    simpa [Rat.intCast_mul, Rat.intCast_add] using this
  have q2 : 2 * (m.2 : Rat) = (xs[k - 1]).2 + (xs[k]).2 := by
    have := congrArg (fun z : Int => (z : Rat)) hm2
    simpa [Rat.intCast_mul, Rat.intCast_add] using this
  rw [onP_two (by omega), onP_two (by omega)]
  constructor
  · rintro ⟨i, hi, hs⟩
    rw [insMid_at (Nat.le_of_lt hk), insMid_at (Nat.le_of_lt hk)] at hs
    rcases (by omega : i + 1 < k ∨ i + 1 = k ∨ i = k ∨ k < i) with h | h | h | h
    · rw [dif_pos (by omega), dif_pos h] at hs
      exact ⟨i, by omega, hs⟩
    · subst h
      rw [dif_pos (by omega), dif_neg (by omega), dif_pos rfl] at hs
      obtain ⟨s, ⟨h0, h1⟩, rfl, rfl⟩ := hs
      simp only [Nat.add_sub_cancel] at q1 q2
      exact ⟨i, hk, s / 2, by constructor <;> grind, by grind, by grind⟩
    · subst h
      rw [dif_neg (by omega), dif_pos rfl, dif_neg (by omega), dif_neg (by omega)] at hs
      obtain ⟨s, ⟨h0, h1⟩, rfl, rfl⟩ := hs
      obtain ⟨k, rfl⟩ : ∃ k, i = k + 1 := ⟨i - 1, by omega⟩
      simp only [Nat.add_sub_cancel] at q1 q2 ⊢
      exact ⟨k, hk, (1 + s) / 2, by constructor <;> grind, by grind, by grind⟩
    · rw [dif_neg (by omega), dif_neg (by omega), dif_neg (by omega), dif_neg (by omega)] at hs
      obtain ⟨k, rfl⟩ : ∃ k, i = k + 1 := ⟨i - 1, by omega⟩
      simp only [Nat.add_sub_cancel] at hs
      exact ⟨k, by omega, hs⟩
  · rintro ⟨i, hi, hs⟩
    rcases (by omega : i + 1 < k ∨ i + 1 = k ∨ k ≤ i) with h | h | h
    · refine ⟨i, by omega, ?_⟩
      rw [insMid_at (Nat.le_of_lt hk), insMid_at (Nat.le_of_lt hk), dif_pos (by omega), dif_pos h]
      exact hs
    · subst h
      simp only [Nat.add_sub_cancel] at q1 q2
      obtain ⟨s, ⟨h0, h1⟩, rfl, rfl⟩ := hs
      rcases (by grind : s ≤ 1 / 2 ∨ 1 / 2 ≤ s) with h | h
      · refine ⟨i, by omega, ?_⟩
        rw [insMid_at (Nat.le_of_lt hk), insMid_at (Nat.le_of_lt hk), dif_pos (by omega), dif_neg (by omega), dif_pos rfl]
        exact ⟨2 * s, by constructor <;> grind, by grind, by grind⟩
      · refine ⟨i + 1, by omega, ?_⟩
        rw [insMid_at (Nat.le_of_lt hk), insMid_at (Nat.le_of_lt hk), dif_neg (by omega), dif_pos rfl, dif_neg (by omega), dif_neg (by omega)]
        simp only [Nat.add_sub_cancel]
        exact ⟨2 * s - 1, by constructor <;> grind, by grind, by grind⟩
    · refine ⟨i + 1, by omega, ?_⟩
      rw [insMid_at (Nat.le_of_lt hk), insMid_at (Nat.le_of_lt hk), dif_neg (by omega), dif_neg (by omega), dif_neg (by omega), dif_neg (by omega)]
      simp only [Nat.add_sub_cancel]
      exact hs
theorem far_mid {xs ys : List (Int × Int)} {k : Nat} {m : Int × Int} (hk1 : 1 ≤ k) (hk : k < xs.length) (hm1 : 2 * m.1 = (xs[k - 1]).1 + (xs[k]).1) (hm2 : 2 * m.2 = (xs[k - 1]).2 + (xs[k]).2) : lowF (farL (insMid xs k m) ys).1 (farL (insMid xs k m) ys).2 = lowF (farL xs ys).1 (farL xs ys).2 :=
  far_same (fun x y u v h1 h2 => ⟨x, y, u, v, (onP_mid hk1 hk hm1 hm2).2 h1, h2, by grind⟩) (fun x y u v h1 h2 => ⟨x, y, u, v, (onP_mid hk1 hk hm1 hm2).1 h1, h2, by grind⟩)

/-- Spots that are wrong by at most p. -/
def Wrong (p : Int) (xs xs' : List (Int × Int)) : Prop := xs.length = xs'.length ∧ ∀ (i : Nat) (h : i < xs.length) (h' : i < xs'.length), ((xs[i]).1 - p ≤ (xs'[i]).1 ∧ (xs'[i]).1 ≤ (xs[i]).1 + p) ∧ (xs[i]).2 - p ≤ (xs'[i]).2 ∧ (xs'[i]).2 ≤ (xs[i]).2 + p
theorem conv_bd {a b a' b' p s : Rat} (h0 : 0 ≤ s) (h1 : s ≤ 1) (ha : a - p ≤ a' ∧ a' ≤ a + p) (hb : b - p ≤ b' ∧ b' ≤ b + p) : (a + s * (b - a)) - p ≤ a' + s * (b' - a') ∧ a' + s * (b' - a') ≤ (a + s * (b - a)) + p := by
  have g1 := Rat.mul_nonneg h0 (show 0 ≤ b' - b + p by grind)
  have g2 := Rat.mul_nonneg h0 (show 0 ≤ b + p - b' by grind)
  have g3 := Rat.mul_nonneg (show 0 ≤ 1 - s by grind) (show 0 ≤ a' - a + p by grind)
  have g4 := Rat.mul_nonneg (show 0 ≤ 1 - s by grind) (show 0 ≤ a + p - a' by grind)
  constructor <;> grind
theorem cast_bd {a b p : Int} (h : a - p ≤ b ∧ b ≤ a + p) : (a : Rat) - p ≤ b ∧ (b : Rat) ≤ a + p := by
  constructor
  · rw [← Rat.intCast_sub]; exact Rat.intCast_le_intCast.2 h.1
  · rw [← Rat.intCast_add]; exact Rat.intCast_le_intCast.2 h.2
theorem Wrong.on {p : Int} {xs xs' : List (Int × Int)} (h : Wrong p xs xs') (hx : xs ≠ []) {x y : Rat} (hp : OnP xs' x y) : ∃ x1 y1, OnP xs x1 y1 ∧ (x1 - p ≤ x ∧ x ≤ x1 + p) ∧ y1 - p ≤ y ∧ y ≤ y1 + p := by
  obtain ⟨hl, hb⟩ := h
  have hl0 : 0 < xs.length := List.length_pos_iff.2 hx
  obtain ⟨i, hi, s, hs, rfl, rfl⟩ := hp
  rw [← hl] at hi
  refine ⟨_, _, ⟨i, hi, s, hs, rfl, rfl⟩, ?_⟩
  unfold segN at hi
  have e1 : sgA xs i = xs[i]'(by omega) := sgA_at (by omega)
  have e2 : sgA xs' i = xs'[i]'(by omega) := sgA_at (by omega)
  have e3 : sgB xs i = xs[min (i + 1) (xs.length - 1)]'(by omega) := by unfold sgB; rw [List.getElem?_eq_getElem (by omega)]; rfl
  have e4 : sgB xs' i = xs'[min (i + 1) (xs.length - 1)]'(by omega) := by unfold sgB; rw [show min (i + 1) (xs'.length - 1) = min (i + 1) (xs.length - 1) by omega, List.getElem?_eq_getElem (by omega)]; rfl
  rw [e1, e2, e3, e4]
  obtain ⟨b1, b2⟩ := hb i (by omega) (by omega)
  obtain ⟨b3, b4⟩ := hb (min (i + 1) (xs.length - 1)) (by omega) (by omega)
  exact ⟨conv_bd hs.1 hs.2 (cast_bd b1) (cast_bd b3), conv_bd hs.1 hs.2 (cast_bd b2) (cast_bd b4)⟩
theorem stands_num {a b f g m p : Rat} (hm : 0 ≤ m) (hp : 0 ≤ p) (hd : a * a + b * b < m * m) (hf : -(2 * p) ≤ f ∧ f ≤ 2 * p) (hg : -(2 * p) ≤ g ∧ g ≤ 2 * p) : (a + f) * (a + f) + (b + g) * (b + g) < (m + 3 * p) * (m + 3 * p) := by
  have f1 := Rat.mul_nonneg (show 0 ≤ 2 * p - f by grind) (show 0 ≤ 2 * p + f by grind)
  have g1 := Rat.mul_nonneg (show 0 ≤ 2 * p - g by grind) (show 0 ≤ 2 * p + g by grind)
  have pp := sq_q p
  have hmp := Rat.mul_nonneg hm hp
  have ff : f * f + g * g ≤ 8 * (p * p) := by grind
  have key : a * f + b * g ≤ 3 * (m * p) := by
    apply Classical.byContradiction
    intro hn
    have hn' : 3 * (m * p) < a * f + b * g := by grind
    have cs : (a * f + b * g) * (a * f + b * g) ≤ (a * a + b * b) * (f * f + g * g) := by
      have := sq_q (a * g - b * f)
      grind
    have k1 : (a * a + b * b) * (f * f + g * g) ≤ m * m * (8 * (p * p)) := by
      have k2 := Rat.mul_nonneg (show 0 ≤ m * m - (a * a + b * b) by grind) (show 0 ≤ f * f + g * g from sq2 f g)
      have k3 := Rat.mul_nonneg (sq_q m) (show 0 ≤ 8 * (p * p) - (f * f + g * g) by grind)
      grind
    have k4 : (3 * (m * p)) * (3 * (m * p)) < (a * f + b * g) * (a * f + b * g) := by
      generalize a * f + b * g = z at *
      have := Rat.mul_pos (show 0 < z - 3 * (m * p) by grind) (show 0 < z + 3 * (m * p) by grind)
      grind
    have k5 := Rat.mul_nonneg (sq_q m) (sq_q p)
    grind
  grind
/-- What is wrong by at most p at each spot is nearer by at most 3 p. -/
theorem far_wrong {xs ys xs' ys' : List (Int × Int)} {p m : Int} (hm : 0 ≤ m) (hp : 0 ≤ p) (hx : xs ≠ []) (hy : ys ≠ []) (h : Wrong p xs xs') (h' : Wrong p ys ys') (hfar : ¬ (farL xs ys).1 < (m + 3 * p) * (m + 3 * p) * (farL xs ys).2) : ¬ (farL xs' ys').1 < m * m * (farL xs' ys').2 := by
  intro hn
  obtain ⟨⟨d0, x, y, u, v, h1, h2, e⟩, _⟩ := farL_spec xs' ys'
  obtain ⟨x1, y1, g1, bx, by1⟩ := h.on hx h1
  obtain ⟨u1, v1, g2, bu, bv⟩ := h'.on hy h2
  have k := (farL_spec xs ys).2 x1 y1 u1 v1 g1 g2
  have hlt : szQ x y u v < m * m := by
    have : ((farL xs' ys').1 : Rat) < m * m * (farL xs' ys').2 := by
      rw [← Rat.intCast_mul, ← Rat.intCast_mul]; exact Rat.intCast_lt_intCast.2 hn
    rw [e] at this
    apply Classical.byContradiction
    intro hc
    have := Rat.mul_nonneg (show (0 : Rat) ≤ szQ x y u v - m * m by grind) (show (0 : Rat) ≤ (farL xs' ys').2 from Rat.intCast_le_intCast.2 (show (0 : Int) ≤ _ by omega))
    grind
  have hge : (m + 3 * p : Rat) * (m + 3 * p) * (farL xs ys).2 ≤ (farL xs ys).2 * szQ x1 y1 u1 v1 := by
    refine Rat.le_trans ?_ k.2
    have : (m + 3 * p) * (m + 3 * p) * (farL xs ys).2 ≤ (farL xs ys).1 := by omega
    have := Rat.intCast_le_intCast.2 this
    simpa [Rat.intCast_mul, Rat.intCast_add] using this
  have hm' : (0 : Rat) ≤ m := Rat.intCast_le_intCast.2 hm
  have hp' : (0 : Rat) ≤ p := Rat.intCast_le_intCast.2 hp
  unfold szQ at hlt
  have hs := stands_num (a := u - x) (b := v - y) (f := (u1 - x1) - (u - x)) (g := (v1 - y1) - (v - y)) hm' hp' hlt (by constructor <;> grind) (by constructor <;> grind)
  have hs' : szQ x1 y1 u1 v1 < (m + 3 * p) * (m + 3 * p) := by unfold szQ; grind
  have hd1 : (0 : Rat) < (farL xs ys).2 := Rat.intCast_lt_intCast.2 k.1
  have := Rat.mul_pos hd1 (show 0 < (m + 3 * p : Rat) * (m + 3 * p) - szQ x1 y1 u1 v1 by grind)
  grind
end Go.Proofs.Ytlljhimaopnbfaa
