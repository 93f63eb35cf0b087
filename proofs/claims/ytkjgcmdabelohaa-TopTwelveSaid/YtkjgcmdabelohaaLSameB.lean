/- The reference's comparisons of lists. Condition: the slices read as lists. -/
import Derived.Test.YtkjgcmdabelohaaLXK
namespace Go.Proofs.Ytkjgcmdabelohaa
open Go.RowKit

theorem pairs_at {K : EK (Int × Int)} (hk : K.k = 2) (he : ∀ x, K.enc x = [.int .i64 x.1, .int .i64 x.2]) {w : World} {A : Option Addr} {xs : List (Int × Int)} (h : K.Row w A xs) (j : Nat) (hj : j < xs.length) :
    ∃ b o, A = some ⟨b, o, none⟩ ∧ b < w.heap.size ∧ w.cell? ⟨b, o + j * 2, none⟩ = some (.int .i64 xs[j].1) ∧ w.cell? ⟨b, o + j * 2 + 1, none⟩ = some (.int .i64 xs[j].2) := by
  obtain ⟨b, o, rfl, hb, hc⟩ := h j hj
  rw [hk] at hc
  exact ⟨b, o, rfl, hb, hc 0 _ (by rw [he]; rfl), hc 1 _ (by rw [he]; rfl)⟩
theorem bools_at {w : World} {A : Option Addr} {xs : List Bool} (h : boolK.Row w A xs) (j : Nat) (hj : j < xs.length) : ∃ b o, A = some ⟨b, o, none⟩ ∧ b < w.heap.size ∧ w.cell? ⟨b, o + j, none⟩ = some (.bool xs[j]) := by
  obtain ⟨b, o, rfl, hb, hc⟩ := h j hj
  have := hc 0 _ rfl
  exact ⟨b, o, rfl, hb, by simpa [boolK] using this⟩
theorem ints_at {w : World} {A : Option Addr} {xs : List Int} (h : intK.Row w A xs) (j : Nat) (hj : j < xs.length) : ∃ b o, A = some ⟨b, o, none⟩ ∧ b < w.heap.size ∧ w.cell? ⟨b, o + j, none⟩ = some (.int .i64 xs[j]) := by
  obtain ⟨b, o, rfl, hb, hc⟩ := h j hj
  have := hc 0 _ rfl
  exact ⟨b, o, rfl, hb, by simpa [intK] using this⟩
theorem same_no {α : Type} {xs ys : List α} {j : Nat} (h1 : j < xs.length) (h2 : j < ys.length) (h : xs[j] ≠ ys[j]) : xs ≠ ys := fun e => by
  subst e
  exact h rfl
theorem same_yes {α : Type} {xs ys : List α} (hl : xs.length = ys.length) (h : ∀ (j : Nat) (h1 : j < xs.length) (h2 : j < ys.length), xs[j] = ys[j]) : xs = ys := List.ext_getElem hl fun j h1 h2 => h j h1 h2

theorem EK.Own.setCell {α : Type} {K : EK α} {B : Nat} {w : World} {v : Value} {xs : List α} (h : K.Own B w v xs) {b o : Nat} {u : Value} (hb : b < B) : K.Own B (w.setCell ⟨b, o, none⟩ u) v xs := by
  refine h.kept (row := some b) ⟨rfl, rfl, rfl, by simp, fun i _ hi => heap_setCell_other w ⟨b, o, none⟩ i _ (fun e => hi (by simp [e]))⟩ ?_
  rcases h' : v.ownBlock with _ | g
  · exact .inl rfl
  · refine .inr fun e => ?_
    have := (h.lt g h').1
    simp only [Option.some.injEq] at e
    omega

set_option maxRecDepth 100000 in
set_option maxHeartbeats 4000000 in
theorem sameBools_any (u v : Value) (xs ys : List (Bool)) (w : World) (hu : boolK.Is w u xs) (hv : boolK.Is w v ys) :
    Calls Try.prog 39 #[u, v] w fun e w' => e = .returned (.bool (decide (xs = ys))) ∧ Ext w w' := by
  obtain ⟨A, n, c, rfl, hn, _, hr, hm⟩ := hu.open_
  obtain ⟨A', n', c', rfl, hn', _, hr', hm'⟩ := hv.open_
  have HR := Lib.hid hr
  have HR' := Lib.hid hr'
  have HN := Lib.hid hn
  have HN' := Lib.hid hn'
  clear hu hv hr hr' hn hn'
  by_cases hl : n = n'
  · subst hl
    go_enter Try.func39, Try.ntmps39
    go_wp2_with fail
    go_loopw [5] (fun i wr => ∃ j : Nat, j ≤ n ∧ i = .int .i64 j ∧ Hid (∀ (q : Nat) (h1 : q < xs.length) (h2 : q < ys.length), q < j → xs[q] = ys[q]) ∧ Ext w wr) (fun i _ => n - (intOf i).toNat)
    case atStart => exact ⟨0, by omega, rfl, (fun q _ _ h => by omega), Ext.refl _⟩
    case round =>
      obtain ⟨j, hj, rfl, Ha, hx⟩ := hrel
      by_cases hlt : j < n
      · have hj1 : j < xs.length := by rw [HN.out]; exact hlt
        have hj2 : j < ys.length := by rw [HN'.out]; exact hlt
        obtain ⟨b, o, rfl, hb, h0⟩ := bools_at HR.out j hj1
        obtain ⟨b', o', rfl, hb', h0'⟩ := bools_at HR'.out j hj2
        have g0 := hx.cell_some h0
        have g2 := hx.cell_some h0'
        have l0 := cell_lt g0
        have l1 := cell_lt g2
        have HX := Lib.hid hx
        have HNO := Lib.hid (same_no hj1 hj2)
        have HE := Lib.hid (show xs[j] = xs[j] ∧ ys[j] = ys[j] from ⟨rfl, rfl⟩)
        generalize hg1 : xs[j] = x1 at *
        generalize hg2 : ys[j] = y1 at *
        have HG1 := Lib.hid hg1
        have HG2 := Lib.hid hg2
        clear h0 h0' hx hg1 hg2 HE
        by_cases he : x1 = y1
        · obtain rfl := he
          have HQ := Lib.hid (show ∀ (q : Nat) (h1 : q < xs.length) (h2 : q < ys.length), q < j + 1 → xs[q] = ys[q] from fun q h1 h2 h => by
            rcases (by omega : q < j ∨ q = j) with h | rfl
            · exact Ha.out q h1 h2 h
            · exact HG1.out.trans HG2.out.symm)
          go_wp2_with fail
          refine wp_region_bext (by kernel_rfl) (by kernel_rfl) ?_
          repeat (any_goals (go_big_quiet_step (fail)))
          all_goals refine wpQuiet_nil ?_
          all_goals rintro _ ⟨δ, rfl⟩
          go_wp2_with fail
          go_roundw
          case rel => exact ⟨j + 1, by omega, by go_num, HQ, HX.out.step _⟩
          case measure => simp [intOf]; omega
        · have HNE := Lib.hid (HNO.out (fun e => he (e)))
          have hb2 : (x1 != y1) = true := by simpa using he
          have hb3 : (x1 == y1) = false := by simpa using he
          go_wp2_with fail
          refine wp_region_bext (by kernel_rfl) (by kernel_rfl) ?_
          repeat (any_goals (go_big_quiet_step (fail)))
          all_goals refine wpQuiet_nil ?_
          all_goals rintro _ ⟨δ, rfl⟩
          go_wp2_with fail
          go_ret
          exact ⟨ret_b (decide_eq_false HNE.out).symm, HX.out.step _⟩
      · obtain rfl : j = n := by omega
        have HX := Lib.hid hx
        clear hx
        go_wp2_with fail
        go_ret
        exact ⟨ret_b (by rw [decide_eq_true (same_yes (HN.out.trans HN'.out.symm) fun q h1 h2 => Ha.out q h1 h2 (by rw [← HN.out]; exact h1))]), HX.out⟩
  · have hne : ((n : Int) != (n' : Int)) = true := by simp; omega
    have HNE := Lib.hid (show decide (xs = ys) = false from decide_eq_false fun e => hl (by rw [← HN.out, ← HN'.out, e]))
    go_enter Try.func39, Try.ntmps39
    go_wp2_with fail
    go_ret
    exact ⟨ret_b HNE.out.symm, Ext.refl _⟩

set_option maxRecDepth 100000 in
set_option maxHeartbeats 4000000 in
theorem sameInts_any (u v : Value) (xs ys : List (Int)) (w : World) (hu : intK.Is w u xs) (hv : intK.Is w v ys) :
    Calls Try.prog 19 #[u, v] w fun e w' => e = .returned (.bool (decide (xs = ys))) ∧ Ext w w' := by
  obtain ⟨A, n, c, rfl, hn, _, hr, hm⟩ := hu.open_
  obtain ⟨A', n', c', rfl, hn', _, hr', hm'⟩ := hv.open_
  have HR := Lib.hid hr
  have HR' := Lib.hid hr'
  have HN := Lib.hid hn
  have HN' := Lib.hid hn'
  clear hu hv hr hr' hn hn'
  by_cases hl : n = n'
  · subst hl
    go_enter Try.func19, Try.ntmps19
    go_wp2_with fail
    go_loopw [5] (fun i wr => ∃ j : Nat, j ≤ n ∧ i = .int .i64 j ∧ Hid (∀ (q : Nat) (h1 : q < xs.length) (h2 : q < ys.length), q < j → xs[q] = ys[q]) ∧ Ext w wr) (fun i _ => n - (intOf i).toNat)
    case atStart => exact ⟨0, by omega, rfl, (fun q _ _ h => by omega), Ext.refl _⟩
    case round =>
      obtain ⟨j, hj, rfl, Ha, hx⟩ := hrel
      by_cases hlt : j < n
      · have hj1 : j < xs.length := by rw [HN.out]; exact hlt
        have hj2 : j < ys.length := by rw [HN'.out]; exact hlt
        obtain ⟨b, o, rfl, hb, h0⟩ := ints_at HR.out j hj1
        obtain ⟨b', o', rfl, hb', h0'⟩ := ints_at HR'.out j hj2
        have g0 := hx.cell_some h0
        have g2 := hx.cell_some h0'
        have l0 := cell_lt g0
        have l1 := cell_lt g2
        have HX := Lib.hid hx
        have HNO := Lib.hid (same_no hj1 hj2)
        have HE := Lib.hid (show xs[j] = xs[j] ∧ ys[j] = ys[j] from ⟨rfl, rfl⟩)
        generalize hg1 : xs[j] = x1 at *
        generalize hg2 : ys[j] = y1 at *
        have HG1 := Lib.hid hg1
        have HG2 := Lib.hid hg2
        clear h0 h0' hx hg1 hg2 HE
        by_cases he : x1 = y1
        · obtain rfl := he
          have HQ := Lib.hid (show ∀ (q : Nat) (h1 : q < xs.length) (h2 : q < ys.length), q < j + 1 → xs[q] = ys[q] from fun q h1 h2 h => by
            rcases (by omega : q < j ∨ q = j) with h | rfl
            · exact Ha.out q h1 h2 h
            · exact HG1.out.trans HG2.out.symm)
          go_wp2_with fail
          refine wp_region_bext (by kernel_rfl) (by kernel_rfl) ?_
          repeat (any_goals (go_big_quiet_step (fail)))
          all_goals refine wpQuiet_nil ?_
          all_goals rintro _ ⟨δ, rfl⟩
          go_wp2_with fail
          go_roundw
          case rel => exact ⟨j + 1, by omega, by go_num, HQ, HX.out.step _⟩
          case measure => simp [intOf]; omega
        · have HNE := Lib.hid (HNO.out (fun e => he (e)))
          have hb : (x1 == y1) = false := by simpa using he
          have hb2 : (x1 != y1) = true := by simpa using he
          go_wp2_with fail
          refine wp_region_bext (by kernel_rfl) (by kernel_rfl) ?_
          repeat (any_goals (go_big_quiet_step (fail)))
          all_goals refine wpQuiet_nil ?_
          all_goals rintro _ ⟨δ, rfl⟩
          go_wp2_with fail
          go_ret
          exact ⟨ret_b (decide_eq_false HNE.out).symm, HX.out.step _⟩
      · obtain rfl : j = n := by omega
        have HX := Lib.hid hx
        clear hx
        go_wp2_with fail
        go_ret
        exact ⟨ret_b (by rw [decide_eq_true (same_yes (HN.out.trans HN'.out.symm) fun q h1 h2 => Ha.out q h1 h2 (by rw [← HN.out]; exact h1))]), HX.out⟩
  · have hne : ((n : Int) != (n' : Int)) = true := by simp; omega
    have HNE := Lib.hid (show decide (xs = ys) = false from decide_eq_false fun e => hl (by rw [← HN.out, ← HN'.out, e]))
    go_enter Try.func19, Try.ntmps19
    go_wp2_with fail
    go_ret
    exact ⟨ret_b HNE.out.symm, Ext.refl _⟩
end Go.Proofs.Ytkjgcmdabelohaa
