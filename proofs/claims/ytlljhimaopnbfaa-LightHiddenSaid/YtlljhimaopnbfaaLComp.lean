/- slices.Compact over shades. Condition: the slice is the call's own. -/
import Derived.Test.YtlljhimaopnbfaaLSlot
import Derived.Test.YtlljhimaopnbfaaAcc
import Derived.Lib.SliceRun
import Derived.Deep.Upon
namespace Go.Proofs.Ytlljhimaopnbfaa
section
/-- What is kept of the first j. -/
def cmpTo (ys : List (Int × Int)) : Nat → List (Int × Int)
  | 0 => []
  | j + 1 => if j = 0 ∨ ys[j]?.getD (0, 0) ≠ ys[j - 1]?.getD (0, 0) then cmpTo ys j ++ [ys[j]?.getD (0, 0)] else cmpTo ys j
theorem cmpTo_len (ys : List (Int × Int)) : ∀ j, (cmpTo ys j).length ≤ j
  | 0 => Nat.le_refl _
  | j + 1 => by
    have := cmpTo_len ys j
    unfold cmpTo
    split
    · simp; omega
    · omega
theorem cmpTo_all {ys : List (Int × Int)} : ∀ {j : Nat}, j ≤ ys.length → (∀ i, 1 ≤ i → i < j → ys[i]?.getD (0, 0) ≠ ys[i - 1]?.getD (0, 0)) → cmpTo ys j = ys.take j
  | 0, _, _ => by simp [cmpTo]
  | j + 1, hj, h => by
    unfold cmpTo
    rw [if_pos, cmpTo_all (by omega) fun i h1 h2 => h i h1 (by omega), take_snoc (d := (0, 0)) (by omega)]
    rcases Nat.eq_zero_or_pos j with h0 | h0
    · exact .inl h0
    · exact .inr (h j h0 (by omega))
/-- How the row stands while it is made compact: so many are laid, and from the last one looked at on nothing has changed. -/
structure CmpAt (ys zs : List (Int × Int)) (j : Nat) : Prop where
  len : zs.length = ys.length
  head : zs.take (cmpTo ys j).length = cmpTo ys j
  lt : (cmpTo ys j).length + 1 ≤ j
  tail : ∀ i, j ≤ i + 1 → zs[i]? = ys[i]?
theorem CmpAt.start {ys : List (Int × Int)} {j : Nat} (h1 : 1 ≤ j) (hj : j < ys.length) (ha : ∀ i, 1 ≤ i → i < j → ys[i]?.getD (0, 0) ≠ ys[i - 1]?.getD (0, 0)) (he : ys[j]?.getD (0, 0) = ys[j - 1]?.getD (0, 0)) : CmpAt ys ys (j + 1) ∧ (cmpTo ys (j + 1)).length = j := by
  have hc : cmpTo ys (j + 1) = ys.take j := by
    rw [show cmpTo ys (j + 1) = if j = 0 ∨ ys[j]?.getD (0, 0) ≠ ys[j - 1]?.getD (0, 0) then cmpTo ys j ++ [ys[j]?.getD (0, 0)] else cmpTo ys j from rfl, if_neg (by rintro (h | h); exact absurd h (by omega); exact h he), cmpTo_all (by omega) ha]
  have hl : (cmpTo ys (j + 1)).length = j := by rw [hc, List.length_take]; omega
  exact ⟨⟨rfl, by rw [hl, hc], by omega, fun _ _ => rfl⟩, hl⟩
theorem CmpAt.skip {ys zs : List (Int × Int)} {j : Nat} (h : CmpAt ys zs j) (hj : 1 ≤ j) (he : ys[j]?.getD (0, 0) = ys[j - 1]?.getD (0, 0)) : CmpAt ys zs (j + 1) ∧ cmpTo ys (j + 1) = cmpTo ys j := by
  have hc : cmpTo ys (j + 1) = cmpTo ys j := by
    rw [show cmpTo ys (j + 1) = if j = 0 ∨ ys[j]?.getD (0, 0) ≠ ys[j - 1]?.getD (0, 0) then cmpTo ys j ++ [ys[j]?.getD (0, 0)] else cmpTo ys j from rfl, if_neg (by rintro (h | h); exact absurd h (by omega); exact h he)]
  exact ⟨⟨h.len, by rw [hc]; exact h.head, by rw [hc]; have := h.lt; omega, fun i hi => h.tail i (by omega)⟩, hc⟩
theorem CmpAt.put {ys zs : List (Int × Int)} {j : Nat} (h : CmpAt ys zs j) (hn : j < ys.length) (he : ys[j]?.getD (0, 0) ≠ ys[j - 1]?.getD (0, 0)) : CmpAt ys (zs.set (cmpTo ys j).length (ys[j]?.getD (0, 0))) (j + 1) ∧ (cmpTo ys (j + 1)).length = (cmpTo ys j).length + 1 := by
  have hc : cmpTo ys (j + 1) = cmpTo ys j ++ [ys[j]?.getD (0, 0)] := by
    rw [show cmpTo ys (j + 1) = if j = 0 ∨ ys[j]?.getD (0, 0) ≠ ys[j - 1]?.getD (0, 0) then cmpTo ys j ++ [ys[j]?.getD (0, 0)] else cmpTo ys j from rfl, if_pos (.inr he)]
  have hl : (cmpTo ys (j + 1)).length = (cmpTo ys j).length + 1 := by rw [hc, List.length_append]; rfl
  have hlt := h.lt
  have hzl := h.len
  refine ⟨⟨by rw [List.length_set, h.len], ?_, by omega, fun i hi => ?_⟩, hl⟩
  · rw [hl, hc, List.take_set, take_snoc (d := (0, 0)) (by omega), h.head, List.set_append_right _ _ (Nat.le_refl _), Nat.sub_self]
    rfl
  · rw [List.getElem?_set_ne (by omega)]
    exact h.tail i (by omega)
end
open Go.RowKit

/-- The first cells read as a list. -/
theorem is_take {B g n c k : Nat} {w : World} {zs : List (Int × Int)} (ho : shadeK.Own B w (.slice (some ⟨g, 0, none⟩) n c) zs) (hz : zs.length = n) (hk : k ≤ n) : shadeK.Is w (.slice (some ⟨g, 0, none⟩) k c) (zs.take k) := by
  obtain ⟨_, _, he, h0, hc, hr⟩ := ho.is
  cases he
  refine ⟨_, c, by rw [List.length_take, Nat.min_eq_left (by omega)], by simp, ⟨by rw [List.length_take]; omega, hc.2⟩, fun j hj => ?_⟩
  rw [List.length_take] at hj
  obtain ⟨b, o, hA, hb, hcell⟩ := hr j (by omega)
  exact ⟨b, o, hA, hb, fun i u hu => hcell i u (by rw [List.getElem_take] at hu; exact hu)⟩
theorem but_setCells {g o : Nat} {vs : List Value} {w : World} : But [g] w (w.setCells g o vs) := by
  induction vs generalizing o w with
  | nil => exact But.refl _ _
  | cons v r ih =>
    have h1 : But [g] w (w.setCell ⟨g, o, none⟩ v) := (But.refl _ _).setCell (by simp) _
    have h2 := ih (o := o + 1) (w := w.setCell ⟨g, o, none⟩ v)
    exact ⟨h2.os.trans h1.os, h2.tape.trans h1.tape, h2.output.trans h1.output, Nat.le_trans h1.size h2.size, fun i hi hd => (h2.block i (Nat.lt_of_lt_of_le hi h1.size) hd).trans (h1.block i hi hd)⟩
theorem is_cleared {g n c o : Nat} {w : World} {zs : List (Int × Int)} {vs : List Value} (h : shadeK.Is w (.slice (some ⟨g, 0, none⟩) n c) zs) (ho : n * 2 ≤ o) (hg : g < w.heap.size) : shadeK.Is (w.setCells g o vs) (.slice (some ⟨g, 0, none⟩) n c) zs := by
  obtain ⟨_, _, he, h0, hc, hr⟩ := h
  cases he
  refine ⟨_, c, rfl, h0, hc, fun j hj => ?_⟩
  obtain ⟨b, o', hA, hb, hcell⟩ := hr j hj
  cases hA
  refine ⟨_, _, rfl, Nat.lt_of_lt_of_le hg (but_setCells (g := g)).size, fun i u hu => ?_⟩
  rw [World.cell?_setCells_out]
  · exact hcell i u hu
  · intro _ _
    left
    have hi : i < 2 := by
      have := (List.getElem?_eq_some_iff.1 hu).1
      rwa [show (shadeK.enc zs[j]).length = 2 from rfl] at this
    show 0 + j * 2 + i < o
    omega
theorem own_at2 {B g n c : Nat} {w : World} {zs : List (Int × Int)} (ho : shadeK.Own B w (.slice (some ⟨g, 0, none⟩) n c) zs) (hz : zs.length = n) {j : Nat} (hj : j < n) :
    (w.cell? ⟨g, j * 2, none⟩ = some (.int .i64 (zs[j]?.getD (0, 0)).1) ∧ w.cell? ⟨g, j * 2 + 1, none⟩ = some (.int .i64 (zs[j]?.getD (0, 0)).2)) ∧ ∀ o, w.frozen? ⟨g, o, none⟩ = false := by
  have hj' : j < zs.length := by omega
  obtain ⟨g', c', he, _, _, h1, h2⟩ := ho.slot hj'
  cases he
  rw [List.getElem?_eq_getElem hj']
  exact ⟨⟨h1 0 _ rfl, h1 1 _ rfl⟩, h2⟩
theorem run_clear_shades (w : World) (g o n c : Nat) (hn : 0 < n) (hc : ∀ j, j < n * 2 → (w.cell? ⟨g, o + j, none⟩).isSome = true) (hf : ∀ j, w.frozen? ⟨g, j, none⟩ = false) :
    ∃ vs : List Value, ∀ ty : TypeId, (Builtin.clear_ #[57] ty #[.slice (some ⟨g, o, none⟩) n c]).run Try.prog w = .ok (.tuple #[]) (w.setCells g o vs) := by
  obtain ⟨m, rfl⟩ : ∃ m, n = m + 1 := ⟨n - 1, by omega⟩
  have hz : ∀ w, (zeroValue 27).run Try.prog w = .ok (.agg #[.int .i64 0, .int .i64 0]) w := Try.zeroValue27
  have hlen : (Builtin.zeroCells (Value.agg #[.int .i64 0, .int .i64 0]).cells (m + 1)).toList.length = (m + 1) * 2 := by simp [Builtin.zeroCells, Value.cells]
  have hst := run_storeCells_cells (P := Try.prog) g o (Builtin.zeroCells (Value.agg #[.int .i64 0, .int .i64 0]).cells (m + 1)).toList 0 w (by rw [hlen]; simpa using hc) (by rw [hlen]; intro j _; exact hf _) (by
    intro v hv
    simp only [Builtin.zeroCells, Value.cells, Array.toList_map, List.mem_map] at hv
    obtain ⟨i, _, rfl⟩ := hv
    have : ∀ q, q < 2 → Value.oneCell' ((#[Value.int .i64 0, Value.int .i64 0] : Array Value)[q]!) = true := by decide
    exact this _ (Nat.mod_lt _ (by decide)))
  simp only [Nat.add_zero] at hst
  exact ⟨(Builtin.zeroCells (Value.agg #[.int .i64 0, .int .i64 0]).cells (m + 1)).toList, fun ty => by simp [Builtin.clear_, run_underlying Try.underlying57, hz, hst]⟩

set_option maxRecDepth 100000 in
set_option maxHeartbeats 4000000 in
theorem compact_any (B g n c : Nat) (ys : List (Int × Int)) (w : World) (hn : ys.length = n) (ho : shadeK.Own B w (.slice (some ⟨g, 0, none⟩) n c) ys) (hl : n ≤ 1000000) :
    Calls Try.prog 98 #[.slice (some ⟨g, 0, none⟩) n c] w fun e w' => ∃ k, e = .returned (.slice (some ⟨g, 0, none⟩) k c) ∧ shadeK.Is w' (.slice (some ⟨g, 0, none⟩) k c) (cmpTo ys n) ∧ But [g] w w' := by
  have hgl : g < w.heap.size := (ho.lt g rfl).2
  obtain ⟨hc1, hc2⟩ : n ≤ c ∧ c ≤ maxLen := by
    obtain ⟨_, _, he, _, hc, _⟩ := ho.is
    cases he
    exact hc
  unfold maxLen at hc2
  have HO := Lib.hid ho
  have HN := Lib.hid hn
  clear ho
  by_cases h2 : n < 2
  · have HF := Lib.hid (show shadeK.Is w (.slice (some ⟨g, 0, none⟩) n c) (cmpTo ys n) from by
      rw [cmpTo_all (by omega) fun i h1 h2 => by omega, ← hn, List.take_length]
      have := HO.out.is
      rwa [← hn] at this)
    have q1 : decide ((n : Int) < 2) = true := by simp; omega
    clear hn
    go_enter Try.func98, Try.ntmps98
    go_wp2_with fail
    go_ret
    exact ⟨n, rfl, HF.out, But.refl _ _⟩
  have q1 : decide ((n : Int) < 2) = false := by simp; omega
  clear hn
  go_enter Try.func98, Try.ntmps98
  go_wp2_with fail
  go_loopw [3] (fun kv wr => ∃ k : Nat, (1 ≤ k ∧ k ≤ n) ∧ kv = .int .i64 (k : Int) ∧ Hid (∀ i, 1 ≤ i → i < k → ys[i]?.getD (0, 0) ≠ ys[i - 1]?.getD (0, 0)) ∧ Ext w wr) (fun kv _ => n - (intOf kv).toNat)
  case atStart => exact ⟨1, ⟨by omega, by omega⟩, rfl, Lib.hid (fun i h1 h2 => by omega), Ext.refl _⟩
  case round =>
    obtain ⟨k, ⟨hk1, hk⟩, rfl, HA, hx⟩ := hrel
    have HX := Lib.hid hx
    by_cases hkn : k < n
    · obtain ⟨⟨a1, a2⟩, -⟩ := own_at2 (HO.out.ext hx) HN.out hkn
      obtain ⟨⟨b1, b2⟩, -⟩ := own_at2 (HO.out.ext hx) HN.out (show k - 1 < n by omega)
      have la := cell_lt a1
      have hki : (k : Int) < (n : Int) := by omega
      have hk0 : (0 : Int) ≤ (k : Int) - 1 := by omega
      have hk2 : (k : Int) - 1 < (n : Int) := by omega
      have hw1 : IntKind.i64.wrap ((k : Int) - 1) = (k : Int) - 1 := by apply IntWalk.i64_in <;> omega
      have HNX := Lib.hid fun (h : ys[k]?.getD (0, 0) ≠ ys[k - 1]?.getD (0, 0)) => (show ∀ i, 1 ≤ i → i < k + 1 → ys[i]?.getD (0, 0) ≠ ys[i - 1]?.getD (0, 0) from fun i h1 h2 => by
        rcases (by omega : i < k ∨ i = k) with h' | rfl
        · exact HA.out i h1 h'
        · exact h)
      have HST := Lib.hid fun (h : ys[k]?.getD (0, 0) = ys[k - 1]?.getD (0, 0)) => CmpAt.start (ys := ys) hk1 (by rw [HN.out]; exact hkn) HA.out h
      generalize ys[k]?.getD (0, 0) = x at *
      generalize ys[k - 1]?.getD (0, 0) = y at *
      obtain ⟨x1, x2⟩ := x
      obtain ⟨y1, y2⟩ := y
      simp only at a1 a2 b1 b2
      clear hx
      by_cases h1 : x1 = y1
      · subst h1
        by_cases h3 : x2 = y2
        · subst h3
          have HC := Lib.hid (HST.out rfl)
          clear HST HNX
          go_wp2_with fail
          refine wp_region_bext (by kernel_rfl) (by kernel_rfl) ?_
          repeat (any_goals (go_big_quiet_step (fail)))
          all_goals refine wpQuiet_nil ?_
          all_goals rintro _ ⟨δ, rfl⟩
          have HX6 := Lib.hid (HX.out.trans (show Ext wr δ.wd from ⟨δ, rfl⟩))
          generalize δ.wd = W6 at *
          clear a1 a2 b1 b2 la
          go_wp2_with fail
          go_loopw [3, 5] (fun kv qv wr => ∃ (q : Nat) (zs : List (Int × Int)), (1 ≤ q ∧ q ≤ n - k) ∧ qv = .int .i64 (q : Int) ∧ CmpAt ys zs (k + q) ∧ kv = .int .i64 ((cmpTo ys (k + q)).length : Nat) ∧ shadeK.Own B wr (.slice (some ⟨g, 0, none⟩) n c) zs ∧ But [g] w wr) (fun _ qv _ => n - k - (intOf qv).toNat)
          case atStart => exact ⟨1, ys, ⟨by omega, by omega⟩, rfl, HC.out.1, by rw [HC.out.2], HO.out.ext HX6.out, (But.refl _ _).ext HX6.out⟩
          case round =>
            obtain ⟨q, zs, ⟨hq1, hq⟩, rfl, hca, rfl, how, hbt⟩ := hrel
            have HCA := Lib.hid hca
            have HOW := Lib.hid how
            have HB := Lib.hid hbt
            have hzl : zs.length = n := hca.len.trans HN.out
            have HZL := Lib.hid hzl
            have hLk := hca.lt
            obtain ⟨L, hL⟩ : ∃ L, L = (cmpTo ys (k + q)).length := ⟨_, rfl⟩
            have HL := Lib.hid hL
            rw [← hL] at hLk ⊢
            have hgw : g < wr.heap.size := (how.lt g rfl).2
            have hfz := fun o => (own_at2 how hzl (show 0 < n by omega)).2 o
            clear hL hca hbt hzl
            by_cases hqn : q < n - k
            · have hkq : k + q < n := by omega
              have HT0 := Lib.hid (HCA.out.tail (k + q) (by omega))
              have HT1 := Lib.hid (HCA.out.tail (k + q - 1) (by omega))
              obtain ⟨⟨a1, a2⟩, -⟩ := own_at2 how HZL.out hkq
              obtain ⟨⟨b1, b2⟩, -⟩ := own_at2 how HZL.out (show k + q - 1 < n by omega)
              obtain ⟨⟨e1, e2⟩, -⟩ := own_at2 how HZL.out (show L < n by omega)
              rw [HT0.out] at a1 a2
              rw [HT1.out] at b1 b2
              rw [show (k + q) * 2 = k * 2 + q * 2 by omega] at a1 a2
              rw [show (k + q - 1) * 2 = k * 2 + (q - 1) * 2 by omega] at b1 b2
              have hqi : (q : Int) < ((n - k : Nat) : Int) := by omega
              have hq0 : (0 : Int) ≤ (q : Int) - 1 := by omega
              have hq2 : (q : Int) - 1 < ((n - k : Nat) : Int) := by omega
              have hLi : (L : Int) < (n : Int) := by omega
              have hw2 : IntKind.i64.wrap ((q : Int) - 1) = (q : Int) - 1 := by apply IntWalk.i64_in <;> omega
              have HSK := Lib.hid fun (h : ys[k + q]?.getD (0, 0) = ys[k + q - 1]?.getD (0, 0)) => HCA.out.skip (by omega) h
              have HPT := Lib.hid fun (h : ys[k + q]?.getD (0, 0) ≠ ys[k + q - 1]?.getD (0, 0)) => HCA.out.put (by rw [HN.out]; exact hkq) h
              rw [← HL.out] at HPT
              generalize ys[k + q]?.getD (0, 0) = x at *
              generalize ys[k + q - 1]?.getD (0, 0) = y at *
              generalize (zs[L]?.getD (0, 0)).1 = z1 at *
              generalize (zs[L]?.getD (0, 0)).2 = z2 at *
              obtain ⟨x1, x2⟩ := x
              obtain ⟨y1, y2⟩ := y
              simp only at a1 a2 b1 b2
              clear how
              by_cases h1 : x1 = y1
              · subst h1
                by_cases h3 : x2 = y2
                · subst h3
                  have HV := Lib.hid (HSK.out rfl)
                  clear HSK HPT
                  go_wp2_with fail
                  refine wp_region_bext (by kernel_rfl) (by kernel_rfl) ?_
                  repeat (any_goals (go_big_quiet_step (fail)))
                  all_goals refine wpQuiet_nil ?_
                  all_goals rintro _ ⟨δ, rfl⟩
                  have HX7 := Lib.hid (show Ext wr δ.wd from ⟨δ, rfl⟩)
                  generalize δ.wd = W7 at *
                  go_wp2_with fail
                  go_roundw
                  case rel => exact ⟨q + 1, zs, ⟨by omega, by omega⟩, by go_num, HV.out.1, by rw [show k + (q + 1) = k + q + 1 by omega, HV.out.2, ← HL.out], HOW.out.ext HX7.out, HB.out.ext HX7.out⟩
                  case measure => simp [intOf]; omega
                · have hb : (x2 != y2) = true := by simpa using h3
                  have hb' : (x2 == y2) = false := by simpa using h3
                  have HV := Lib.hid (HPT.out (fun e => h3 (by cases e; rfl)))
                  clear HSK HPT h3
                  go_wp2_with fail
                  refine wp_region_bext (by kernel_rfl) (by kernel_rfl) ?_
                  repeat (any_goals (go_big_quiet_step (fail)))
                  all_goals refine wpQuiet_nil ?_
                  all_goals rintro _ ⟨δ, rfl⟩
                  have HX7 := Lib.hid (show Ext wr δ.wd from ⟨δ, rfl⟩)
                  replace a1 := HX7.out.cell_some a1
                  replace a2 := HX7.out.cell_some a2
                  have f1 := HX7.out.frozen e1 (hfz _)
                  have f2 := HX7.out.frozen e2 (hfz _)
                  replace e1 := HX7.out.cell_some e1
                  replace e2 := HX7.out.cell_some e2
                  have le := cell_lt e1
                  generalize δ.wd = W7 at *
                  clear b1 b2 hgw hfz
                  go_wp2_with fail
                  go_roundw
                  case rel => exact ⟨q + 1, _, ⟨by omega, by omega⟩, by go_num, HV.out.1, by rw [show k + (q + 1) = k + q + 1 by omega, HV.out.2]; go_num, (HOW.out.ext HX7.out).put2N HZL.out (show L < n by omega) rfl (x1, x2) (.int .i64 x1) (.int .i64 x2) rfl, ((HB.out.ext HX7.out).setCell (by simp) _).setCell (by simp) _⟩
                  case measure => simp [intOf]; omega
              · have hb : (x1 != y1) = true := by simpa using h1
                have hb' : (x1 == y1) = false := by simpa using h1
                have HV := Lib.hid (HPT.out (fun e => h1 (by cases e; rfl)))
                clear HSK HPT h1
                go_wp2_with fail
                refine wp_region_bext (by kernel_rfl) (by kernel_rfl) ?_
                repeat (any_goals (go_big_quiet_step (fail)))
                all_goals refine wpQuiet_nil ?_
                all_goals rintro _ ⟨δ, rfl⟩
                have HX7 := Lib.hid (show Ext wr δ.wd from ⟨δ, rfl⟩)
                replace a1 := HX7.out.cell_some a1
                replace a2 := HX7.out.cell_some a2
                have f1 := HX7.out.frozen e1 (hfz _)
                have f2 := HX7.out.frozen e2 (hfz _)
                replace e1 := HX7.out.cell_some e1
                replace e2 := HX7.out.cell_some e2
                have le := cell_lt e1
                generalize δ.wd = W7 at *
                clear b1 b2 hgw hfz
                go_wp2_with fail
                go_roundw
                case rel => exact ⟨q + 1, _, ⟨by omega, by omega⟩, by go_num, HV.out.1, by rw [show k + (q + 1) = k + q + 1 by omega, HV.out.2]; go_num, (HOW.out.ext HX7.out).put2N HZL.out (show L < n by omega) rfl (x1, x2) (.int .i64 x1) (.int .i64 x2) rfl, ((HB.out.ext HX7.out).setCell (by simp) _).setCell (by simp) _⟩
                case measure => simp [intOf]; omega
            · have hqe : k + q = n := by omega
              obtain ⟨vs, hcl⟩ := run_clear_shades wr g (L * 2) (n - L) (c - L) (by omega) (fun j hj => by
                have h1 := own_at2 how HZL.out (show L + j / 2 < n by omega)
                rcases (by omega : j % 2 = 0 ∨ j % 2 = 1) with h | h
                · rw [show L * 2 + j = (L + j / 2) * 2 by omega, h1.1.1]; rfl
                · rw [show L * 2 + j = (L + j / 2) * 2 + 1 by omega, h1.1.2]; rfl) hfz
              have HF := Lib.hid (show shadeK.Is (wr.setCells g (L * 2) vs) (.slice (some ⟨g, 0, none⟩) L c) (cmpTo ys n) from by
                have h1 := is_take how HZL.out (show L ≤ n by omega)
                rw [HL.out, HCA.out.head, ← HL.out, hqe] at h1
                exact is_cleared h1 (Nat.le_refl _) hgw)
              have HB2 := Lib.hid (show But [g] w (wr.setCells g (L * 2) vs) from HB.out.trans but_setCells)
              have hqi : ¬ (q : Int) < ((n - k : Nat) : Int) := by omega
              have hLi : (L : Int) ≤ (n : Int) := by omega
              have hLc : (L : Int) ≤ (c : Int) := by omega
              clear how hfz hqe
              go_wp2_with fail
              go_ret
              exact ⟨L, rfl, HF.out, HB2.out⟩
        · have hb : (x2 == y2) = false := by simpa using h3
          have HN2 := Lib.hid (HNX.out (fun e => h3 (by cases e; rfl)))
          clear HST HNX h3
          go_wp2_with fail
          refine wp_region_bext (by kernel_rfl) (by kernel_rfl) ?_
          repeat (any_goals (go_big_quiet_step (fail)))
          all_goals refine wpQuiet_nil ?_
          all_goals rintro _ ⟨δ, rfl⟩
          have HX6 := Lib.hid (HX.out.trans (show Ext wr δ.wd from ⟨δ, rfl⟩))
          generalize δ.wd = W6 at *
          go_wp2_with fail
          go_roundw
          case rel => exact ⟨k + 1, ⟨by omega, by omega⟩, by go_num, HN2, HX6.out⟩
          case measure => simp [intOf]; omega
      · have hb : (x1 == y1) = false := by simpa using h1
        have HN2 := Lib.hid (HNX.out (fun e => h1 (by cases e; rfl)))
        clear HST HNX h1
        go_wp2_with fail
        refine wp_region_bext (by kernel_rfl) (by kernel_rfl) ?_
        repeat (any_goals (go_big_quiet_step (fail)))
        all_goals refine wpQuiet_nil ?_
        all_goals rintro _ ⟨δ, rfl⟩
        have HX6 := Lib.hid (HX.out.trans (show Ext wr δ.wd from ⟨δ, rfl⟩))
        generalize δ.wd = W6 at *
        go_wp2_with fail
        go_roundw
        case rel => exact ⟨k + 1, ⟨by omega, by omega⟩, by go_num, HN2, HX6.out⟩
        case measure => simp [intOf]; omega
    · obtain rfl : k = n := by omega
      have HF := Lib.hid (show shadeK.Is wr (.slice (some ⟨g, 0, none⟩) k c) (cmpTo ys k) from by
        have hn := HN.out
        rw [cmpTo_all (by omega) HA.out, ← hn, List.take_length]
        have := (HO.out.ext hx).is
        rwa [← hn] at this)
      clear hx
      go_wp2_with fail
      go_ret
      exact ⟨k, rfl, HF.out, (But.refl _ _).ext HX.out⟩
end Go.Proofs.Ytlljhimaopnbfaa
