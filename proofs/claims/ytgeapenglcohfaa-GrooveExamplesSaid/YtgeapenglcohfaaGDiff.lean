/- groove.different; slices.Index over ints. Condition: the list reads. -/
import Derived.Test.YtgeapenglcohfaaGOrd
namespace Go.Proofs.Ytgeapenglcohfaa
open Go.RowKit

/-- The first j of a list are different indices below n. -/
def diffTo (l : List Int) (n : Int) : Nat → Bool
  | 0 => true
  | j + 1 => diffTo l n j && (decide (0 ≤ l[j]?.getD 0) && decide (l[j]?.getD 0 < n) && !(l.take j).contains (l[j]?.getD 0))
def diffB (l : List Int) (n : Int) : Bool := diffTo l n l.length
theorem diffTo_le {l : List Int} {n : Int} {j : Nat} (h : diffTo l n j = false) : ∀ d, diffTo l n (j + d) = false
  | 0 => h
  | d + 1 => by rw [← Nat.add_assoc]; unfold diffTo; rw [diffTo_le h d]; rfl
def SeenAt (g : Nat) (S : Int → Bool) (W : World) : Prop := ∀ q : Nat, q < 16 → W.cell? ⟨g, q, none⟩ = some (.bool (S q)) ∧ W.frozen? ⟨g, q, none⟩ = false
theorem SeenAt.put {g : Nat} {S S' : Int → Bool} {W : World} (h : SeenAt g S W) {q : Nat} (hq : q < 16) (hS : ∀ z : Nat, z < 16 → S' z = if z = q then true else S z) : SeenAt g S' (W.setCell ⟨g, q, none⟩ (.bool true)) := by
  intro z hz
  obtain ⟨h1, h2⟩ := h z hz
  refine ⟨?_, by simp [h2]⟩
  rw [hS z hz]
  by_cases e : z = q
  · subst e
    rw [if_pos rfl]
    exact cell_set_same h1
  · rw [if_neg e]
    exact (cell_set_other (.inr e)).trans h1
theorem SeenAt.new {W : World} {g : Nat} {T : TypeId} {cs : Array Value} (h : BoxAt g cs T W) (hc : cs = Array.replicate 16 (Value.bool false)) : SeenAt g (fun _ => false) W := by
  subst hc
  intro q hq
  have e : (Array.replicate 16 (Value.bool false))[q]? = some (.bool false) := by rw [Array.getElem?_replicate, if_pos hq]
  exact ⟨h.cell (by rw [Array.getElem?_toList]; exact e), frozen_of_row _ _ _ _ _ h⟩

set_option maxRecDepth 100000 in
set_option maxHeartbeats 2000000 in
theorem different_any (v : Value) (l : List Int) (n : Nat) (w : World) (hI : IsI w v l) (hn : n ≤ 16) :
    Calls Try.prog 84 #[v, .int .i64 (n : Int)] w fun e w' => e = .returned (.bool (diffB l n)) ∧ Ext w w' := by
  obtain ⟨A, k, c, rfl, hc0, hr, hk⟩ := hI.open_
  have HR := Lib.hid hr
  have HL := Lib.hid hr.len
  clear hI hr hc0
  go_enter Try.func84, Try.ntmps84
  go_wp2_with fail
  have hbx := BoxAt.new w #[.bool false, .bool false, .bool false, .bool false, .bool false, .bool false, .bool false, .bool false, .bool false, .bool false, .bool false, .bool false, .bool false, .bool false, .bool false, .bool false] 142
  refine lay_wp (fun W => SeenAt w.heap.size (fun _ => false) W ∧ Ext w W ∧ W.heap.size = w.heap.size + 1) ⟨SeenAt.new hbx rfl, (Ext.refl _).alloc _, by simp⟩ ?_
  clear hbx
  rintro W1 ⟨hse, hx1, hs1⟩
  have HSE := Lib.hid hse
  have HX1 := Lib.hid hx1
  obtain ⟨g, hg⟩ : ∃ g, g = w.heap.size := ⟨_, rfl⟩
  rw [← hg] at HSE hs1 ⊢
  have HG := Lib.hid hg
  clear hse hx1 hg
  go_loopw [10] (fun iv wr => ∃ j : Nat, j ≤ k ∧ iv = .int .i64 (j : Int) ∧ Hid (diffTo l n j = true) ∧ SeenAt g (fun z => (l.take j).contains z) wr ∧ But [g] W1 wr) (fun iv _ => k - (intOf iv).toNat)
  case atStart => exact ⟨0, by omega, rfl, Lib.hid rfl, by simpa using HSE.out, But.refl _ _⟩
  case round =>
    obtain ⟨j, hj, rfl, HD, hse, hbt⟩ := hrel
    have HS := Lib.hid hse
    have HB := Lib.hid hbt
    have XR := Lib.hid (show Ext w wr from hbt.below HX1.out (fun d hd => by rw [List.mem_singleton] at hd; rw [hd, HG.out]; exact Nat.le_refl _))
    by_cases hlt : j < k
    · obtain ⟨b, o, rfl, hb, hc⟩ := HR.out.at_ j hlt
      replace hc := XR.out.cell_some hc
      have lb := cell_lt hc
      have hji : (j : Int) < (k : Int) := by omega
      have HTK := Lib.hid (show l.take (j + 1) = l.take j ++ [l[j]?.getD 0] from take_snoc (by rw [HL.out]; exact hlt))
      have HDJ := Lib.hid (show diffTo l n (j + 1) = (decide (0 ≤ l[j]?.getD 0) && decide (l[j]?.getD 0 < (n : Int)) && !(l.take j).contains (l[j]?.getD 0)) by
        show (diffTo l n j && _) = _
        rw [HD.out, Bool.true_and])
      have HNO := Lib.hid fun (h : diffTo l n (j + 1) = false) => show diffB l n = false from by
        unfold diffB
        rw [HL.out]
        obtain ⟨d, hd⟩ : ∃ d, k = j + 1 + d := ⟨k - (j + 1), by omega⟩
        rw [hd]
        exact diffTo_le h d
      generalize l[j]?.getD 0 = x at *
      clear hse hbt hb
      by_cases h1 : x < 0
      · have q1 : decide (x < 0) = true := decide_eq_true h1
        have HF := Lib.hid (HNO.out (by rw [HDJ.out, decide_eq_false (by omega)]; rfl))
        clear h1
        go_wp2_with fail
        go_ret
        exact ⟨ret_b HF.out.symm, XR.out⟩
      by_cases h2 : (n : Int) ≤ x
      · have q1 : decide (x < 0) = false := decide_eq_false h1
        have q2 : decide ((n : Int) ≤ x) = true := decide_eq_true h2
        have HF := Lib.hid (HNO.out (by rw [HDJ.out, decide_eq_false (show ¬ x < (n : Int) by omega), Bool.and_false]; rfl))
        clear h1 h2
        go_wp2_with fail
        go_ret
        exact ⟨ret_b HF.out.symm, XR.out⟩
      obtain ⟨q, rfl⟩ : ∃ q : Nat, x = (q : Int) := ⟨x.toNat, by omega⟩
      have q1 : decide ((q : Int) < 0) = false := decide_eq_false h1
      have q2 : decide ((n : Int) ≤ (q : Int)) = false := decide_eq_false h2
      have hqn1 : decide (n ≤ q) = false := decide_eq_false (by omega)
      have hq16 : (q : Int) < 16 := by omega
      have hq16n : q < 16 := by omega
      obtain ⟨s0, s1⟩ := HS.out q hq16n
      simp only at s0
      have ls := cell_lt s0
      cases hcon : (l.take j).contains (q : Int) with
      | true =>
        have HF := Lib.hid (HNO.out (by rw [HDJ.out, hcon, Bool.not_true, Bool.and_false]))
        rw [hcon] at s0
        clear h1 h2 hcon
        go_wp2_with fail
        go_ret
        exact ⟨ret_b HF.out.symm, XR.out⟩
      | false =>
        have HOK := Lib.hid (show diffTo l n (j + 1) = true by rw [HDJ.out, hcon, decide_eq_true (show (0 : Int) ≤ q by omega), decide_eq_true (show (q : Int) < n by omega)]; rfl)
        rw [hcon] at s0
        clear h1 h2 hcon
        go_wp2_with fail
        go_roundw
        case rel =>
          refine ⟨j + 1, by omega, by go_num, HOK, SeenAt.put HS.out hq16n fun z hz => ?_, HB.out.setCell (by simp) _⟩
          rw [HTK.out]
          by_cases e : z = q
          · subst e
            rw [if_pos rfl]
            simp
          · rw [if_neg e, Bool.eq_iff_iff]
            simp only [List.contains_iff_mem, List.mem_append, List.mem_singleton]
            exact ⟨fun h => h.resolve_right fun h => e (by omega), .inl⟩
        case measure => simp [intOf]; omega
    · obtain rfl : j = k := by omega
      have HF := Lib.hid (show diffB l n = true by unfold diffB; rw [HL.out]; exact HD.out)
      clear hse hbt
      go_wp2_with fail
      go_ret
      exact ⟨ret_b HF.out.symm, XR.out⟩

/-- Where x is for the first time. -/
def ixTo (l : List Int) (x : Int) : Nat → Int
  | 0 => -1
  | j + 1 => if 0 ≤ ixTo l x j then ixTo l x j else if l[j]?.getD 0 = x then j else -1
def ixI (l : List Int) (x : Int) : Int := ixTo l x l.length
theorem ixTo_neg {l : List Int} {x : Int} : ∀ j, (∀ i, i < j → l[i]?.getD 0 ≠ x) → ixTo l x j = -1
  | 0, _ => rfl
  | j + 1, h => by
    unfold ixTo
    rw [ixTo_neg j fun i hi => h i (by omega), if_neg (by decide), if_neg (h j (by omega))]
theorem ixTo_at {l : List Int} {x : Int} {j : Nat} (h : ∀ i, i < j → l[i]?.getD 0 ≠ x) (hx : l[j]?.getD 0 = x) : ∀ d, ixTo l x (j + 1 + d) = j
  | 0 => by
    show (if 0 ≤ ixTo l x j then ixTo l x j else _) = _
    rw [ixTo_neg j h, if_neg (by decide), if_pos hx]
  | d + 1 => by
    rw [← Nat.add_assoc]
    show (if 0 ≤ ixTo l x (j + 1 + d) then ixTo l x (j + 1 + d) else _) = _
    rw [ixTo_at h hx d, if_pos (by omega)]
set_option maxHeartbeats 1000000 in
theorem indexI_any (v : Value) (l : List Int) (x : Int) (w : World) (hI : IsI w v l) :
    Calls Try.prog 87 #[v, .int .i64 x] w fun e w' => e = .returned (.int .i64 (ixI l x)) ∧ w = w' := by
  obtain ⟨A, n, c, rfl, hc0, hr, hk⟩ := hI.open_
  have HR := Lib.hid hr
  have HL := Lib.hid hr.len
  clear hI hr hc0
  go_enter Try.func87, Try.ntmps87
  go_wp2_with fail
  go_loop [8, 5] (fun iv _ => ∃ j : Nat, j ≤ n ∧ iv = .int .i64 j ∧ Hid (∀ i, i < j → l[i]?.getD 0 ≠ x)) (fun iv _ => n - (intOf iv).toNat)
  case atStart => exact ⟨0, by omega, rfl, fun i hi => by omega⟩
  case round =>
    obtain ⟨j, hj, rfl, HA⟩ := hrel
    by_cases hlt : j < n
    · obtain ⟨b, o, rfl, hb, hc⟩ := HR.out.at_ j hlt
      have lb := cell_lt hc
      by_cases hz : l[j]?.getD 0 = x
      · have HF := Lib.hid (show ixI l x = j by
          unfold ixI
          rw [HL.out]
          obtain ⟨d, hd⟩ : ∃ d, n = j + 1 + d := ⟨n - (j + 1), by omega⟩
          rw [hd]
          exact ixTo_at HA.out hz d)
        rw [hz] at hc
        clear hz
        go_wp2_with fail
        go_ret
        exact ⟨by rw [HF.out]; rfl, rfl⟩
      · have HA2 := Lib.hid (show ∀ i, i < j + 1 → l[i]?.getD 0 ≠ x from fun i hi => by
          rcases (by omega : i < j ∨ i = j) with h | rfl
          · exact HA.out i h
          · exact hz)
        have hzb : (x == l[j]?.getD 0) = false := by simp; omega
        generalize l[j]?.getD 0 = y at *
        clear hz
        go_wp2_with fail
        go_round
        case rel => exact ⟨j + 1, by omega, by go_num, HA2⟩
        case measure => simp [intOf]; omega
    · obtain rfl : j = n := by omega
      have HF := Lib.hid (show ixI l x = -1 by unfold ixI; rw [HL.out]; exact ixTo_neg _ HA.out)
      go_wp2_with fail
      go_ret
      exact ⟨by rw [HF.out]; rfl, rfl⟩
end Go.Proofs.Ytgeapenglcohfaa
