/- GrooveHidden's and GrooveBack's helpers: hidden, weigh. Condition: the lists read. -/
import Derived.Test.YtgeapenglcohfaaGAlive
import Derived.Test.YtgeapenglcohfaaQTail
namespace Go.Proofs.Ytgeapenglcohfaa
open Go.RowKit

def nzTo (l : List Int) : Nat → Int
  | 0 => 0
  | j + 1 => if l[j]?.getD 0 = 0 then nzTo l j else nzTo l j + 1
def absTo (l : List Int) : Nat → Int
  | 0 => 0
  | j + 1 => absTo l j + max (l[j]?.getD 0) (-(l[j]?.getD 0))
def weighN (l : List Int) : Int := nzTo l l.length
def weighS (l : List Int) : Int := absTo l l.length
theorem nzTo_bd (l : List Int) : ∀ j, 0 ≤ nzTo l j ∧ nzTo l j ≤ j
  | 0 => ⟨Int.le_refl _, Int.le_refl _⟩
  | j + 1 => by
    have := nzTo_bd l j
    unfold nzTo
    split <;> omega
theorem absTo_bd {l : List Int} {B : Int} (hB : 0 ≤ B) (h : ∀ x ∈ l, -B ≤ x ∧ x ≤ B) : ∀ j : Nat, 0 ≤ absTo l j ∧ absTo l j ≤ B * j
  | 0 => ⟨Int.le_refl _, by simp [absTo]⟩
  | j + 1 => by
    have h1 := absTo_bd hB h j
    have h2 : -B ≤ l[j]?.getD 0 ∧ l[j]?.getD 0 ≤ B := by
      cases hx : l[j]? with
      | none => simp; omega
      | some v => exact h v (List.mem_of_getElem? hx)
    unfold absTo
    have h3 : B * ((j + 1 : Nat) : Int) = B * j + B := by rw [Int.natCast_add, Int.mul_add]; simp
    rw [h3]
    omega

set_option maxRecDepth 100000 in
set_option maxHeartbeats 2000000 in
theorem weigh_any (v : Value) (l : List Int) (w : World) (hI : IsI w v l) (hl : l.length ≤ 1000) (hb : ∀ x ∈ l, -1000000 ≤ x ∧ x ≤ 1000000) :
    Calls Try.prog 56 #[v] w fun e w' => e = .returned (.tuple #[.int .i64 (weighN l), .int .i64 (weighS l)]) ∧ w = w' := by
  obtain ⟨A, n, c, rfl, hc0, hr, hn⟩ := hI.open_
  have hlen := hr.len
  have HR := Lib.hid hr
  have HLN := Lib.hid hlen
  have HBB := Lib.hid (absTo_bd (by decide) hb)
  have HBX := Lib.hid hb
  have hn1 : n ≤ 1000 := by omega
  clear hI hr hlen hb hl hc0 hn
  go_enter Try.func56, Try.ntmps56
  go_wp2_with fail
  go_loop [4, 5, 10] (fun nv sv iv => ∃ j : Nat, j ≤ n ∧ iv = .int .i64 j ∧ nv = .int .i64 (nzTo l j) ∧ sv = .int .i64 (absTo l j)) (fun _ _ iv => n - (intOf iv).toNat)
  case atStart => exact ⟨0, by omega, rfl, rfl, rfl⟩
  case round =>
    obtain ⟨j, hj, rfl, rfl, rfl⟩ := hrel
    have h1 := nzTo_bd l j
    have h2 := HBB.out j
    by_cases hlt : j < n
    · obtain ⟨b, o, rfl, hb, hc⟩ := HR.out.at_ j hlt
      have lb := cell_lt hc
      have hx : -1000000 ≤ l[j]?.getD 0 ∧ l[j]?.getD 0 ≤ 1000000 := by
        cases hx : l[j]? with
        | none => simp
        | some v => exact HBX.out v (List.mem_of_getElem? hx)
      have HNZ := Lib.hid (show nzTo l (j + 1) = if l[j]?.getD 0 = 0 then nzTo l j else nzTo l j + 1 from rfl)
      have HAB := Lib.hid (show absTo l (j + 1) = absTo l j + max (l[j]?.getD 0) (-(l[j]?.getD 0)) from rfl)
      generalize l[j]?.getD 0 = x at *
      generalize nzTo l j = z at *
      generalize absTo l j = t at *
      rcases (by omega : x = 0 ∨ 0 < x ∨ x < 0) with rfl | hp | hn'
      · replace HNZ := Lib.hid (show nzTo l (j + 1) = z by rw [HNZ.out, if_pos rfl])
        replace HAB := Lib.hid (show absTo l (j + 1) = t by rw [HAB.out]; omega)
        go_wp2_with fail
        go_round
        case rel => exact ⟨j + 1, by omega, by go_num, by rw [HNZ.out], by rw [HAB.out]⟩
        case measure => simp [intOf]; omega
      · replace HNZ := Lib.hid (show nzTo l (j + 1) = z + 1 by rw [HNZ.out, if_neg (by omega)])
        replace HAB := Lib.hid (show absTo l (j + 1) = t + x by rw [HAB.out]; omega)
        have hxb : (x != (0 : Int)) = true := by simp; omega
        go_wp2_with fail
        go_round
        case rel => exact ⟨j + 1, by omega, by go_num, by rw [HNZ.out], by rw [HAB.out]⟩
        case measure => simp [intOf]; omega
      · replace HNZ := Lib.hid (show nzTo l (j + 1) = z + 1 by rw [HNZ.out, if_neg (by omega)])
        replace HAB := Lib.hid (show absTo l (j + 1) = t + -x by rw [HAB.out]; omega)
        have hxb : (x != (0 : Int)) = true := by simp; omega
        go_wp2_with fail
        go_round
        case rel => exact ⟨j + 1, by omega, by go_num, by rw [HNZ.out], by rw [HAB.out]⟩
        case measure => simp [intOf]; omega
    · obtain rfl : j = n := by omega
      have HE := Lib.hid (show nzTo l j = weighN l ∧ absTo l j = weighS l by unfold weighN weighS; rw [HLN.out]; exact ⟨rfl, rfl⟩)
      clear h1 h2
      go_wp2_with fail
      go_ret2
      exact ⟨by rw [HE.out.1, HE.out.2]; rfl, rfl⟩
end Go.Proofs.Ytgeapenglcohfaa
