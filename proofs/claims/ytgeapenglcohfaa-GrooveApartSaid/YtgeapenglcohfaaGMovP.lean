/- GrooveMoved in plain Lean. No program. -/
import Derived.Test.YtgeapenglcohfaaGTurn
import Derived.Test.YtgeapenglcohfaaGQE
import Derived.Test.YtgeapenglcohfaaGDist
namespace Go.Proofs.Ytgeapenglcohfaa
open Go.RowKit

theorem wrap_move (b : Int) : ∃ c : Int, ∀ x : Int, -20000 ≤ x → x ≤ 20000 → -10000 ≤ wrap64 (x + b) → wrap64 (x + b) ≤ 10000 → wrap64 (x + b) = x + c := by
  refine ⟨wrap64 b, fun x h1 h2 h3 h4 => ?_⟩
  unfold wrap64 at *
  omega
theorem rotN_bd {p : Int × Int} {B : Int} (h : (-B ≤ p.1 ∧ p.1 ≤ B) ∧ -B ≤ p.2 ∧ p.2 ≤ B) : ∀ n, (-B ≤ (rotN n p).1 ∧ (rotN n p).1 ≤ B) ∧ -B ≤ (rotN n p).2 ∧ (rotN n p).2 ≤ B
  | 0 => h
  | n + 1 => by
    have := rotN_bd h n
    unfold rotN rot1
    simp only
    omega
theorem mirP_bd {p : Int × Int} {B : Int} (m : Bool) (h : (-B ≤ p.1 ∧ p.1 ≤ B) ∧ -B ≤ p.2 ∧ p.2 ≤ B) : (-B ≤ (mirP m p).1 ∧ (mirP m p).1 ≤ B) ∧ -B ≤ (mirP m p).2 ∧ (mirP m p).2 ≤ B := by
  unfold mirP
  cases m <;> simp <;> omega
def rotQ : Nat → Rat → Rat → Rat × Rat
  | 0, x, y => (x, y)
  | n + 1, x, y => (-(rotQ n x y).2, (rotQ n x y).1)
theorem move_rot : ∀ n, Move (rotN n) (rotQ n)
  | 0 => move_id
  | n + 1 => (move_rot n).comp move_turn
def mirQ (m : Bool) (x y : Rat) : Rat × Rat := if m then (-x, y) else (x, y)
theorem move_mirP (m : Bool) : Move (mirP m) (mirQ m) := by
  cases m
  · exact move_id
  · exact move_mir
theorem dist_moved {xs ys : List (Int × Int)} (hx : lineB xs = true) (hy : lineB ys = true) (m : Bool) (q : Nat) (bx by' : Int) (hx' : lineB (xs.map (moveP m q bx by')) = true) (hy' : lineB (ys.map (moveP m q bx by')) = true) :
    distP (xs.map (moveP m q bx by')) (ys.map (moveP m q bx by')) = distP xs ys := by
  obtain ⟨cx, hcx⟩ := wrap_move bx
  obtain ⟨cy, hcy⟩ := wrap_move by'
  have hT : Move (fun p => ((rotN q (mirP m p)).1 + cx, (rotN q (mirP m p)).2 + cy)) (fun x y => ((rotQ q (mirQ m x y).1 (mirQ m x y).2).1 + cx, (rotQ q (mirQ m x y).1 (mirQ m x y).2).2 + cy)) := ((move_mirP m).comp (move_rot q)).comp (move_by cx cy)
  have e : ∀ l : List (Int × Int), lineB l = true → lineB (l.map (moveP m q bx by')) = true → l.map (moveP m q bx by') = l.map (fun p => ((rotN q (mirP m p)).1 + cx, (rotN q (mirP m p)).2 + cy)) := fun l hl hl' => by
    refine List.map_congr_left fun p hp => ?_
    obtain ⟨b1, b2⟩ := (lineB_iff.1 hl).1 p hp
    obtain ⟨b3, b4⟩ := (lineB_iff.1 hl').1 _ (List.mem_map.2 ⟨p, hp, rfl⟩)
    obtain ⟨b5, b6⟩ := rotN_bd (B := 10000) (mirP_bd m ⟨b1, b2⟩) q
    unfold moveP at b3 b4 ⊢
    simp only at b3 b4
    rw [hcx _ (by omega) (by omega) b3.1 b3.2, hcy _ (by omega) (by omega) b4.1 b4.2]
  have nx : xs ≠ [] := by intro h; subst h; simp [lineB] at hx; revert hx; decide
  have ny : ys ≠ [] := by intro h; subst h; simp [lineB] at hy; revert hy; decide
  unfold distP
  rw [hx, hy, hx', hy', e xs hx hx', e ys hy hy']
  exact far_move hT nx ny
theorem lineB_rev {xs : List (Int × Int)} : lineB xs.reverse = lineB xs := by
  unfold lineB
  rw [List.all_reverse, List.length_reverse]
theorem dist_back (xs ys : List (Int × Int)) : distP ys xs.reverse = distP xs ys ∧ distE ys xs.reverse = distE xs ys := by
  unfold distP distE
  rw [lineB_rev, Bool.and_comm]
  refine ⟨?_, rfl⟩
  split
  · exact far_back xs ys
  · rfl
theorem distE_iff {xs ys : List (Int × Int)} : distE xs ys = 0 ↔ lineB xs = true ∧ lineB ys = true := by
  unfold distE
  cases lineB xs <;> cases lineB ys <;> simp
theorem dist_bad {xs ys : List (Int × Int)} (h : distE xs ys ≠ 0) : distP xs ys = (0, 0) := by
  unfold distE distP at *
  cases h' : (lineB xs && lineB ys)
  · rfl
  · rw [h'] at h; simp at h
theorem dist_pos {xs ys : List (Int × Int)} (h : distE xs ys = 0) : 0 < (distP xs ys).2 ∧ 0 ≤ (distP xs ys).1 := by
  obtain ⟨h1, h2⟩ := distE_iff.1 h
  unfold distP
  rw [h1, h2]
  obtain ⟨h3, _, h4, _⟩ := lowF_bd (far_nn xs ys) (show 1 ≤ (farL xs ys).2 from far_pos xs ys)
  exact ⟨h4, h3⟩
end Go.Proofs.Ytgeapenglcohfaa
