/- The light in which a facet is brightest: the plain part. No condition. -/
import Derived.Test.YtlljhimaopnbfaaLPics
namespace Go.Proofs.Ytlljhimaopnbfaa

def bestTo (sh : Nat → Int × Int) : Nat → Nat
  | 0 => 0
  | n + 1 => if 0 < compareOf (sh n).1 (sh n).2 (sh (bestTo sh n)).1 (sh (bestTo sh n)).2 then n else bestTo sh n
theorem bestTo_lt {sh : Nat → Int × Int} : ∀ {n : Nat}, bestTo sh n ≤ n ∧ (1 ≤ n → bestTo sh n < n)
  | 0 => ⟨Nat.le_refl _, by omega⟩
  | n + 1 => by
    have := (bestTo_lt (sh := sh) (n := n)).1
    rw [bestTo]
    split <;> omega
theorem bestTo_one {sh : Nat → Int × Int} : bestTo sh 1 = 0 := by
  rw [bestTo]
  split <;> rfl
def shOf (pp : List (List (Int × Int))) (j q : Nat) : Int × Int := (pp[q]?.getD [])[j]?.getD (0, 1)
theorem shOf_at {pp : List (List (Int × Int))} {j q : Nat} (h : q < pp.length) (h' : j < pp[q].length) : shOf pp j q = pp[q][j] := by simp [shOf, h, h']
/-- What is found while cell i is at work, n lights of k tried. -/
def outL (pp : List (List (Int × Int))) (N k i n : Nat) : List Int := (List.range N).map fun j => if j < i then (bestTo (shOf pp j) k : Int) else if j = i then (bestTo (shOf pp j) n : Int) else 0
def bestL (pp : List (List (Int × Int))) (N : Nat) : List Int := (List.range N).map fun j => (bestTo (shOf pp j) pp.length : Int)
theorem outL_len {pp : List (List (Int × Int))} {N k i n : Nat} : (outL pp N k i n).length = N := by simp [outL]
theorem outL_at {pp : List (List (Int × Int))} {N k i n : Nat} (h' : i < (outL pp N k i n).length) : (outL pp N k i n)[i] = (bestTo (shOf pp i) n : Int) := by simp [outL]
theorem outL_zero {pp : List (List (Int × Int))} {N k : Nat} : outL pp N k 0 0 = List.replicate N 0 := by
  apply List.ext_getElem
  · simp [outL]
  · intro j h1 h2
    simp only [outL, List.getElem_map, List.getElem_range, List.getElem_replicate, bestTo]
    split
    · omega
    · split <;> rfl
theorem outL_next {pp : List (List (Int × Int))} {N k i : Nat} : outL pp N k i k = outL pp N k (i + 1) 0 := by
  unfold outL
  refine List.map_congr_left fun j _ => ?_
  rcases Nat.lt_trichotomy j i with h | h | h
  · rw [if_pos h, if_pos (by omega)]
  · rw [if_neg (by omega), if_pos h, if_pos (by omega)]
  · rw [if_neg (by omega), if_neg (by omega), if_neg (by omega)]
    split
    · simp [bestTo]
    · rfl
theorem outL_end {pp : List (List (Int × Int))} {N k : Nat} (h : pp.length = k) : outL pp N k N 0 = bestL pp N := by
  unfold outL bestL
  refine List.map_congr_left fun j hj => ?_
  rw [if_pos (by simpa using hj), h]
theorem outL_set {pp : List (List (Int × Int))} {N k i n : Nat} (h : bestTo (shOf pp i) (n + 1) = n) : (outL pp N k i n).set i (n : Int) = outL pp N k i (n + 1) := by
  apply List.ext_getElem
  · simp [outL]
  · intro j h1 h2
    rw [List.getElem_set]
    split
    · rename_i he
      subst he
      simp [outL, h]
    · simp only [outL, List.getElem_map, List.getElem_range]
      split
      · rfl
      · rw [if_neg (by omega), if_neg (by omega)]
theorem outL_stay {pp : List (List (Int × Int))} {N k i n : Nat} (h : bestTo (shOf pp i) (n + 1) = bestTo (shOf pp i) n) : outL pp N k i n = outL pp N k i (n + 1) := by
  unfold outL
  refine List.map_congr_left fun j _ => ?_
  split
  · rfl
  · split
    · rename_i he
      rw [he, h]
    · rfl
/-- The reference's lists: the cells before i have tried light n, the others only those before it. -/
def refL (pp : List (List (Int × Int))) (N n i : Nat) : List Int := (List.range N).map fun j => if j < i then (bestTo (shOf pp j) (n + 1) : Int) else (bestTo (shOf pp j) n : Int)
def refS (pp : List (List (Int × Int))) (N n i : Nat) : List (Int × Int) := (List.range N).map fun j => if j < i then shOf pp j (bestTo (shOf pp j) (n + 1)) else shOf pp j (bestTo (shOf pp j) n)
theorem refL_len {pp : List (List (Int × Int))} {N n i : Nat} : (refL pp N n i).length = N := by simp [refL]
theorem refS_len {pp : List (List (Int × Int))} {N n i : Nat} : (refS pp N n i).length = N := by simp [refS]
theorem refS_at {pp : List (List (Int × Int))} {N n i : Nat} (h' : i < (refS pp N n i).length) : (refS pp N n i)[i] = shOf pp i (bestTo (shOf pp i) n) := by simp [refS]
theorem refL_one {pp : List (List (Int × Int))} {N : Nat} : refL pp N 1 0 = List.replicate N 0 := by
  apply List.ext_getElem
  · simp [refL]
  · intro j h1 h2
    simp [refL, bestTo_one]
theorem refS_one {pp : List (List (Int × Int))} {N : Nat} (h : 1 ≤ pp.length) (hl : pp[0].length = N) : refS pp N 1 0 = pp[0] := by
  apply List.ext_getElem
  · simp [refS, hl]
  · intro j h1 h2
    simp [refS, bestTo_one, shOf_at h h2]
theorem refL_next {pp : List (List (Int × Int))} {N n : Nat} : refL pp N n N = refL pp N (n + 1) 0 := by
  unfold refL
  refine List.map_congr_left fun j hj => ?_
  rw [if_pos (by simpa using hj), if_neg (by omega)]
theorem refS_next {pp : List (List (Int × Int))} {N n : Nat} : refS pp N n N = refS pp N (n + 1) 0 := by
  unfold refS
  refine List.map_congr_left fun j hj => ?_
  rw [if_pos (by simpa using hj), if_neg (by omega)]
theorem refL_end {pp : List (List (Int × Int))} {N : Nat} : refL pp N pp.length 0 = bestL pp N := by simp [refL, bestL]
theorem refL_set {pp : List (List (Int × Int))} {N n i : Nat} (h : bestTo (shOf pp i) (n + 1) = n) : (refL pp N n i).set i (n : Int) = refL pp N n (i + 1) := by
  apply List.ext_getElem
  · simp [refL]
  · intro j h1 h2
    rw [List.getElem_set]
    split
    · rename_i he
      subst he
      simp [refL, h]
    · simp only [refL, List.getElem_map, List.getElem_range]
      rcases Nat.lt_trichotomy j i with h | h | h
      · rw [if_pos h, if_pos (by omega)]
      · omega
      · rw [if_neg (by omega), if_neg (by omega)]
theorem refS_set {pp : List (List (Int × Int))} {N n i : Nat} (h : bestTo (shOf pp i) (n + 1) = n) : (refS pp N n i).set i (shOf pp i n) = refS pp N n (i + 1) := by
  apply List.ext_getElem
  · simp [refS]
  · intro j h1 h2
    rw [List.getElem_set]
    split
    · rename_i he
      subst he
      simp [refS, h]
    · simp only [refS, List.getElem_map, List.getElem_range]
      rcases Nat.lt_trichotomy j i with h | h | h
      · rw [if_pos h, if_pos (by omega)]
      · omega
      · rw [if_neg (by omega), if_neg (by omega)]
theorem refL_stay {pp : List (List (Int × Int))} {N n i : Nat} (h : bestTo (shOf pp i) (n + 1) = bestTo (shOf pp i) n) : refL pp N n i = refL pp N n (i + 1) := by
  unfold refL
  refine List.map_congr_left fun j _ => ?_
  rcases Nat.lt_trichotomy j i with h' | h' | h'
  · rw [if_pos h', if_pos (by omega)]
  · rw [if_neg (by omega), if_pos (by omega), h', h]
  · rw [if_neg (by omega), if_neg (by omega)]
theorem refS_stay {pp : List (List (Int × Int))} {N n i : Nat} (h : bestTo (shOf pp i) (n + 1) = bestTo (shOf pp i) n) : refS pp N n i = refS pp N n (i + 1) := by
  unfold refS
  refine List.map_congr_left fun j _ => ?_
  rcases Nat.lt_trichotomy j i with h' | h' | h'
  · rw [if_pos h', if_pos (by omega)]
  · rw [if_neg (by omega), if_pos (by omega), h', h]
  · rw [if_neg (by omega), if_neg (by omega)]
theorem best_yes {sh : Nat → Int × Int} {n : Nat} (h : 0 < compareOf (sh n).1 (sh n).2 (sh (bestTo sh n)).1 (sh (bestTo sh n)).2) : bestTo sh (n + 1) = n := by rw [bestTo, if_pos h]
theorem best_no {sh : Nat → Int × Int} {n : Nat} (h : ¬ 0 < compareOf (sh n).1 (sh n).2 (sh (bestTo sh n)).1 (sh (bestTo sh n)).2) : bestTo sh (n + 1) = bestTo sh n := by rw [bestTo, if_neg h]

def flashE (W H P : Int) (hs : List Int) (ls : List (Int × Int × Int)) : Int := if surfB W H P hs then (if inB 1 8 ls.length then (if ls.all lightB' then 0 else 61) else 4) else 60
def flashL (W H P : Int) (hs : List Int) (ls : List (Int × Int × Int)) : List Int := if surfB W H P hs && inB 1 8 ls.length && ls.all lightB' then bestL (picsL (nOf W) (nOf H) P hs ls) (nOf H * nOf W) else []
theorem picsL_len {n m : Nat} {p : Int} {hs : List Int} {ls : List (Int × Int × Int)} : (picsL n m p hs ls).length = ls.length := by simp [picsL]
theorem picsL_each {n m : Nat} {p : Int} {hs : List Int} {ls : List (Int × Int × Int)} (q : Nat) (h : q < (picsL n m p hs ls).length) : (picsL n m p hs ls)[q].length = m * n := by simp [picsL, seenL]
end Go.Proofs.Ytlljhimaopnbfaa
