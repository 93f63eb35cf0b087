/- Pairs; the reference's SamePairs. Condition: the slices read as lists. -/
import Derived.Test.YtgeapenglcohfaaGWkP
import Derived.Test.YtgeapenglcohfaaGChk
import Derived.Test.YtgeapenglcohfaaQTail
import Derived.StillTailTactics
namespace Go.Proofs.Ytgeapenglcohfaa
open Go.RowKit

def pairK : EK (Int × Int) := ⟨91, 62, 2, fun x => [.int .i64 x.1, .int .i64 x.2], .agg #[.int .i64 0, .int .i64 0], 16, Try.underlying62, by kernel_rfl, rfl, by decide, by decide, fun _ => rfl, by simp [Value.oneCell']⟩
theorem pairs_at {K : EK (Int × Int)} (hk : K.k = 2) (he : ∀ x, K.enc x = [.int .i64 x.1, .int .i64 x.2]) {w : World} {A : Option Addr} {xs : List (Int × Int)} (h : K.Row w A xs) (j : Nat) (hj : j < xs.length) :
    ∃ b o, A = some ⟨b, o, none⟩ ∧ b < w.heap.size ∧ w.cell? ⟨b, o + j * 2, none⟩ = some (.int .i64 xs[j].1) ∧ w.cell? ⟨b, o + j * 2 + 1, none⟩ = some (.int .i64 xs[j].2) := by
  obtain ⟨b, o, rfl, hb, hc⟩ := h j hj
  rw [hk] at hc
  exact ⟨b, o, rfl, hb, hc 0 _ (by rw [he]; rfl), hc 1 _ (by rw [he]; rfl)⟩
theorem same_no {α : Type} {xs ys : List α} {j : Nat} (h1 : j < xs.length) (h2 : j < ys.length) (h : xs[j] ≠ ys[j]) : xs ≠ ys := fun e => by
  subst e
  exact h rfl
theorem same_yes {α : Type} {xs ys : List α} (hl : xs.length = ys.length) (h : ∀ (j : Nat) (h1 : j < xs.length) (h2 : j < ys.length), xs[j] = ys[j]) : xs = ys := List.ext_getElem hl fun j h1 h2 => h j h1 h2


set_option maxRecDepth 100000 in
set_option maxHeartbeats 4000000 in
theorem samePairs_any (u v : Value) (xs ys : List (Int × Int)) (w : World) (hu : pairK.Is w u xs) (hv : pairK.Is w v ys) :
    Calls Try.prog 41 #[u, v] w fun e w' => e = .returned (.bool (decide (xs = ys))) ∧ Ext w w' := by
  obtain ⟨A, n, c, rfl, hn, _, hr, hm⟩ := hu.open_
  obtain ⟨A', n', c', rfl, hn', _, hr', hm'⟩ := hv.open_
  have HR := Lib.hid hr
  have HR' := Lib.hid hr'
  have HN := Lib.hid hn
  have HN' := Lib.hid hn'
  clear hu hv hr hr' hn hn'
  by_cases hl : n = n'
  · subst hl
    go_enter Try.func41, Try.ntmps41
    go_wp2_with fail
    go_loopw [5] (fun i wr => ∃ j : Nat, j ≤ n ∧ i = .int .i64 j ∧ Hid (∀ (q : Nat) (h1 : q < xs.length) (h2 : q < ys.length), q < j → xs[q] = ys[q]) ∧ Ext w wr) (fun i _ => n - (intOf i).toNat)
    case atStart => exact ⟨0, by omega, rfl, (fun q _ _ h => by omega), Ext.refl _⟩
    case round =>
      obtain ⟨j, hj, rfl, Ha, hx⟩ := hrel
      by_cases hlt : j < n
      · have hj1 : j < xs.length := by rw [HN.out]; exact hlt
        have hj2 : j < ys.length := by rw [HN'.out]; exact hlt
        obtain ⟨b, o, rfl, hb, h0, h1⟩ := pairs_at (K := pairK) rfl (fun _ => rfl) HR.out j hj1
        obtain ⟨b', o', rfl, hb', h0', h1'⟩ := pairs_at (K := pairK) rfl (fun _ => rfl) HR'.out j hj2
        have g0 := hx.cell_some h0
        have g1 := hx.cell_some h1
        have g2 := hx.cell_some h0'
        have g3 := hx.cell_some h1'
        have l0 := cell_lt g0
        have l1 := cell_lt g2
        have HX := Lib.hid hx
        have HE := Lib.hid (show xs[j] = ys[j] ↔ xs[j].1 = ys[j].1 ∧ xs[j].2 = ys[j].2 from ⟨fun e => by rw [e]; exact ⟨rfl, rfl⟩, fun ⟨h1, h2⟩ => Prod.ext h1 h2⟩)
        have HNO := Lib.hid (same_no hj1 hj2)
        generalize xs[j].1 = x1 at *
        generalize xs[j].2 = x2 at *
        generalize ys[j].1 = y1 at *
        generalize ys[j].2 = y2 at *
        clear h0 h1 h0' h1' hx
        by_cases he : x1 = y1 ∧ x2 = y2
        · obtain ⟨rfl, rfl⟩ := he
          have HQ := Lib.hid (show ∀ (q : Nat) (h1 : q < xs.length) (h2 : q < ys.length), q < j + 1 → xs[q] = ys[q] from fun q h1 h2 h => by
            rcases (by omega : q < j ∨ q = j) with h | rfl
            · exact Ha.out q h1 h2 h
            · exact HE.out.2 ⟨rfl, rfl⟩)
          go_wp2_with fail
          refine wp_region_bext (by kernel_rfl) (by kernel_rfl) ?_
          repeat (any_goals (go_big_quiet_step (fail)))
          all_goals refine wpQuiet_nil ?_
          all_goals rintro _ ⟨δ, rfl⟩
          go_wp2_with fail
          go_roundw
          case rel => exact ⟨j + 1, by omega, by go_num, HQ, HX.out.step _⟩
          case measure => simp [intOf]; omega
        · have HNE := Lib.hid (HNO.out (fun e => he (HE.out.1 e)))
          by_cases h1 : x1 = y1
          · subst h1
            have hb : (x2 == y2) = false := by
              rw [beq_eq_false_iff_ne]
              exact fun e => he ⟨rfl, e⟩
            have hb' : ¬ x2 = y2 := fun e => he ⟨rfl, e⟩
            clear he
            go_wp2_with fail
            refine wp_region_bext (by kernel_rfl) (by kernel_rfl) ?_
            repeat (any_goals (go_big_quiet_step (fail)))
            all_goals refine wpQuiet_nil ?_
            all_goals rintro _ ⟨δ, rfl⟩
            go_wp2_with fail
            go_ret
            exact ⟨ret_b (decide_eq_false HNE.out).symm, HX.out.step _⟩
          · have hb : (x1 == y1) = false := by simpa using h1
            clear he
            go_wp2_with fail
            refine wp_region_bext (by kernel_rfl) (by kernel_rfl) ?_
            repeat (any_goals (go_big_quiet_step (fail)))
            all_goals refine wpQuiet_nil ?_
            all_goals rintro _ ⟨δ, rfl⟩
            go_wp2_with fail
            go_ret
            exact ⟨ret_b (decide_eq_false HNE.out).symm, HX.out.step _⟩
      · obtain rfl : j = n := by omega
        have HX := Lib.hid hx
        clear hx
        go_wp2_with fail
        go_ret
        exact ⟨ret_b (by rw [decide_eq_true (same_yes (HN.out.trans HN'.out.symm) fun q h1 h2 => Ha.out q h1 h2 (by rw [← HN.out]; exact h1))]), HX.out⟩
  · have hne : ((n : Int) != (n' : Int)) = true := by simp; omega
    have HNE := Lib.hid (show decide (xs = ys) = false from decide_eq_false fun e => hl (by rw [← HN.out, ← HN'.out, e]))
    go_enter Try.func41, Try.ntmps41
    go_wp2_with fail
    go_ret
    exact ⟨ret_b HNE.out.symm, Ext.refl _⟩
end Go.Proofs.Ytgeapenglcohfaa
