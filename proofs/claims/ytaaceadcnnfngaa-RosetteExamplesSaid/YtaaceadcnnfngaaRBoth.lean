/- rosette.Both. Condition: slices read as lists. -/
import Derived.Test.YtaaceadcnnfngaaRMul
import Derived.Test.YtaaceadcnnfngaaRBothP
import Derived.Test.YtaaceadcnnfngaaRAlive
import Derived.Test.YtaaceadcnnfngaaRLawT
namespace Go.Proofs.Ytaaceadcnnfngaa
open Go.RowKit

def bothEr (b c : List Int) : Int := if rubberB b 31 && rubberB c 31 then (if b.length + c.length ≤ 32 then 0 else 4) else 31
def bothR (b c : List Int) : List Int := if bothEr b c = 0 then bothL b c else []
/-- The row after a rows of b, and j cells of the next one. -/
def stL (b c : List Int) (p a j : Nat) : List Int := (List.range p).map fun k => if a ≤ k ∧ k < a + j then minTo b c k (a + 1) else minTo b c k a
theorem stL_len (b c : List Int) (p a j : Nat) : (stL b c p a j).length = p := by simp [stL]
theorem stL_at {b c : List Int} {p a j k : Nat} (h : k < p) : (stL b c p a j)[k]?.getD 0 = if a ≤ k ∧ k < a + j then minTo b c k (a + 1) else minTo b c k a := by simp [stL, h]
theorem stL_zero (b c : List Int) (p : Nat) : stL b c p 0 0 = List.replicate p 10000 := by
  refine List.ext_getElem (by simp [stL]) fun i h1 h2 => ?_
  simp [stL, minTo]
theorem stL_next (b c : List Int) (p a : Nat) : stL b c p a c.length = stL b c p (a + 1) 0 := by
  unfold stL
  refine List.map_congr_left fun k _ => ?_
  rw [if_neg (show ¬ (a + 1 ≤ k ∧ k < a + 1 + 0) by omega)]
  split
  · rfl
  · rename_i h
    rw [minTo, if_neg (by omega)]
theorem stL_end (b c : List Int) : stL b c (b.length + c.length - 1) b.length 0 = bothL b c := by
  unfold stL bothL
  refine List.map_congr_left fun k _ => ?_
  rw [if_neg (by omega)]
theorem stL_set {b c : List Int} {p a j : Nat} (hj : j < c.length) : (stL b c p a j).set (a + j) (min (minTo b c (a + j) a) (b[a]?.getD 0 + c[j]?.getD 0)) = stL b c p a (j + 1) := by
  refine List.ext_getElem (by simp [stL]) fun i h1 h2 => ?_
  rw [List.getElem_set]
  split
  · rename_i h
    subst h
    simp only [stL, List.getElem_map, List.getElem_range]
    rw [if_pos (by omega), minTo, if_pos (by omega), show a + j - a = j by omega]
  · simp only [stL, List.getElem_map, List.getElem_range]
    by_cases h3 : a ≤ i ∧ i < a + j
    · rw [if_pos h3, if_pos (by omega)]
    · rw [if_neg h3, if_neg (by omega)]

set_option maxRecDepth 100000 in
set_option maxHeartbeats 2000000 in
theorem Both_bad (u v : Value) (xs ys : List Int) (w : World) (hu : IsI w u xs) (hv : IsI w v ys) (hg : ¬ bothEr xs ys = 0) :
    Calls Try.prog 52 #[u, v] w (RetOE w (bothR xs ys) (bothEr xs ys)) := by
  have HL := Lib.hid (show bothR xs ys = [] by rw [bothR, if_neg hg])
  have HRU := Lib.hid (checkRubber_any u xs 31 w hu)
  have HRV := Lib.hid (checkRubber_any v ys 31 w hv)
  obtain ⟨A, n, c, rfl, hc0, hr, hn⟩ := hu.open_
  obtain ⟨A', m, c', rfl, hd0, hs, hm⟩ := hv.open_
  have hl1 := hr.len
  have hl2 := hs.len
  clear hc0 hd0 hr hs hu hv
  cases h1 : rubberB xs 31
  · have HE := Lib.hid (show bothEr xs ys = 31 by rw [bothEr, h1]; rfl)
    rw [rubberE, h1] at HRU
    clear h1 hg hl1 hl2
    go_enter Try.func52, Try.ntmps52
    go_wp2_with (go_at_call 29; refine HRU.out.mono ?_; rintro e w' ⟨rfl, rfl⟩)
    go_ret2
    exact ⟨_, by rw [HE.out] <;> rfl, by rw [HL.out]; exact OwnI.nil _ _, Ext.refl _⟩
  · cases h2 : rubberB ys 31
    · have HE := Lib.hid (show bothEr xs ys = 31 by rw [bothEr, h1, h2]; rfl)
      rw [rubberE, h1] at HRU
      rw [rubberE, h2] at HRV
      clear h1 h2 hg hl1 hl2
      go_enter Try.func52, Try.ntmps52
      go_wp2_with fail
      refine HRU.out.mono ?_
      rintro e _ ⟨rfl, rfl⟩
      go_wp2_with fail
      refine HRV.out.mono ?_
      rintro e _ ⟨rfl, rfl⟩
      go_wp2_with fail
      go_ret2
      exact ⟨_, by rw [HE.out] <;> rfl, by rw [HL.out]; exact OwnI.nil _ _, Ext.refl _⟩
    · have h3 : ¬ xs.length + ys.length ≤ 32 := fun h => hg (by rw [bothEr, h1, h2, if_pos (show (true && true) = true from rfl), if_pos h])
      have HE := Lib.hid (show bothEr xs ys = 4 by rw [bothEr, h1, h2, if_pos (show (true && true) = true from rfl), if_neg h3])
      rw [rubberE, h1] at HRU
      rw [rubberE, h2] at HRV
      simp only [rubberB, Bool.and_eq_true, decide_eq_true_eq] at h1 h2
      have hn31 : n ≤ 31 := by rw [← hl1]; exact h1.1.1.2
      have hm31 : m ≤ 31 := by rw [← hl2]; exact h2.1.1.2
      have hd : decide ((32 : Int) < (n : Int) + (m : Int)) = true := by simp; omega
      clear h1 h2 h3 hg hl1 hl2
      go_enter Try.func52, Try.ntmps52
      go_wp2_with fail
      refine HRU.out.mono ?_
      rintro e _ ⟨rfl, rfl⟩
      go_wp2_with fail
      refine HRV.out.mono ?_
      rintro e _ ⟨rfl, rfl⟩
      go_wp2_with fail
      go_ret2
      exact ⟨_, by rw [HE.out] <;> rfl, by rw [HL.out]; exact OwnI.nil _ _, Ext.refl _⟩
theorem bothEr_zero {b c : List Int} (h : bothEr b c = 0) : rubberB b 31 = true ∧ rubberB c 31 = true ∧ b.length + c.length ≤ 32 := by
  unfold bothEr at h
  split at h
  · rename_i h1
    split at h
    · rename_i h2
      rw [Bool.and_eq_true] at h1
      exact ⟨h1.1, h1.2, h2⟩
    · exact absurd h (by decide)
  · exact absurd h (by decide)
set_option maxRecDepth 100000 in
set_option maxHeartbeats 2000000 in
theorem Both_good (u v : Value) (xs ys : List Int) (w : World) (hu : IsI w u xs) (hv : IsI w v ys) (hg : bothEr xs ys = 0) :
    Calls Try.prog 52 #[u, v] w (RetOE w (bothL xs ys) 0) := by
  obtain ⟨h1, h2, h3⟩ := bothEr_zero hg
  have HRU := Lib.hid (checkRubber_any u xs 31 w hu)
  have HRV := Lib.hid (checkRubber_any v ys 31 w hv)
  rw [rubberE, h1] at HRU
  rw [rubberE, h2] at HRV
  simp only [rubberB, Bool.and_eq_true, decide_eq_true_eq] at h1 h2
  obtain ⟨⟨⟨⟨a1, _⟩, a2⟩, a3⟩, _⟩ := h1
  obtain ⟨⟨⟨⟨b1, _⟩, b2⟩, b3⟩, _⟩ := h2
  obtain ⟨A, n, c, rfl, hc0, hr, hn⟩ := hu.open_
  obtain ⟨A', m, c', rfl, hd0, hs, hm⟩ := hv.open_
  have HN := Lib.hid hr.len
  have HM := Lib.hid hs.len
  have HR := Lib.hid hr
  have HS := Lib.hid hs
  have HA3 := Lib.hid (hts_of_all.1 a3)
  have HB3 := Lib.hid (hts_of_all.1 b3)
  rw [hr.len] at a1 a2 h3
  rw [hs.len] at b1 b2 h3
  have hd : decide ((32 : Int) < (n : Int) + (m : Int)) = false := by simp; omega
  obtain ⟨p, hp⟩ : ∃ p, n + m - 1 = p := ⟨_, rfl⟩
  have hpi : (n : Int) + (m : Int) - 1 = (p : Int) := by omega
  have hp1 : 1 ≤ p := by omega
  have hp2 : p ≤ 1000 := by omega
  clear hc0 hd0 hr hs hu hv hg a3 b3
  go_enter Try.func52, Try.ntmps52
  go_wp2_with fail
  refine HRU.out.mono ?_
  rintro e _ ⟨rfl, rfl⟩
  go_wp2_with fail
  refine HRV.out.mono ?_
  rintro e _ ⟨rfl, rfl⟩
  go_wp2_with fail
  refine lay_calls (fun W => Ext w W ∧ IsI W (.slice (some ⟨w.heap.size, 0, none⟩) 1 1) [10000]) ⟨by (repeat' (first | with_reducible exact Ext.refl _ | with_reducible apply Ext.alloc | with_reducible apply Ext.drew | with_reducible apply Ext.drewN | with_reducible refine Ext.setCell ?_ ?_ _ | with_reducible apply Ext.step | with_reducible assumption | with_reducible exact Nat.le_refl _ | (simp; done) | (simp; omega))), lit_isI w #[.int .i64 10000] [10000] 1 _ rfl rfl rfl (by decide)⟩ ?_
  rintro W0 ⟨x0, i0⟩
  have HX0 := Lib.hid x0
  clear x0
  refine (repeat_any _ 10000 p W0 i0 hp1 hp2).mono ?_
  rintro e w1 ⟨v1, rfl, o1, x1⟩
  have HX1 := Lib.hid (HX0.out.trans x1)
  have hz := stL_zero xs ys p
  rw [← hz] at o1
  have hO := o1.mono HX0.out.bel.size
  have hl1 := stL_len xs ys p 0 0
  obtain ⟨g, cp, rfl, hgB, _⟩ := hO.slot (k := 0) (by rw [hl1]; exact hp1)
  rw [hl1] at hO ⊢
  have HO := Lib.hid hO
  clear x1 o1 hz hO hl1 i0
  go_wp2_with fail
  go_loopw [35] (fun i wr => ∃ a : Nat, a ≤ n ∧ i = .int .i64 a ∧ OwnI w.heap.size wr (.slice (some ⟨g, 0, none⟩) p cp) (stL xs ys p a 0) ∧ Ext w wr) (fun i _ => n - (intOf i).toNat)
  case atStart => exact ⟨0, by omega, rfl, HO.out, HX1.out⟩
  case round =>
    obtain ⟨a, ha, rfl, ho, hx⟩ := hrel
    have HOA := Lib.hid ho
    have HXA := Lib.hid hx
    clear ho hx
    by_cases hlt : a < n
    · obtain ⟨ba, oa, rfl, _, hca⟩ := HR.out.at_ a hlt
      have hcb := HXA.out.cell_some hca
      obtain ⟨hba1, hba2⟩ := HA3.out a
      obtain ⟨xa, hxa⟩ : ∃ xa, xs[a]?.getD 0 = xa := ⟨_, rfl⟩
      rw [hxa] at hca hcb hba1 hba2
      have HXV := Lib.hid hxa
      clear hca hxa
      go_wp2_with fail
      go_loopw [42] (fun i wq => ∃ j : Nat, j ≤ m ∧ i = .int .i64 j ∧ OwnI w.heap.size wq (.slice (some ⟨g, 0, none⟩) p cp) (stL xs ys p a j) ∧ Ext w wq) (fun i _ => m - (intOf i).toNat)
      case atStart => exact ⟨0, by omega, rfl, HOA.out, HXA.out⟩
      case round =>
        obtain ⟨j, hj, rfl, ho, hx⟩ := hrel
        have HOJ := Lib.hid ho
        have HXJ := Lib.hid hx
        clear ho hx
        by_cases hlj : j < m
        · obtain ⟨bb, ob, rfl, _, hcc⟩ := HS.out.at_ j hlj
          have hcd := HXJ.out.cell_some hcc
          obtain ⟨hbb1, hbb2⟩ := HB3.out j
          obtain ⟨yj, hyj⟩ : ∃ yj, ys[j]?.getD 0 = yj := ⟨_, rfl⟩
          rw [hyj] at hcc hcd hbb1 hbb2
          obtain ⟨s, hs⟩ : ∃ s, a + j = s := ⟨_, rfl⟩
          have hsp : s < p := by omega
          obtain ⟨g', c2, he, _, hce, hfr, hset⟩ := HOJ.out.slot (k := s) (by rw [stL_len]; exact hsp)
          simp only [Value.slice.injEq, Option.some.injEq, Addr.mk.injEq] at he
          obtain ⟨⟨rfl, -⟩, -, rfl⟩ := he
          rw [stL_at hsp, if_neg (by omega)] at hce
          have hset' := hset (min (minTo xs ys s a) (xa + yj))
          have hst := stL_set (b := xs) (c := ys) (p := p) (a := a) (j := j) (by rw [HM.out]; exact hlj)
          rw [hs, HXV.out, hyj] at hst
          rw [hst] at hset'
          have HSET := Lib.hid hset'
          obtain ⟨q, hq⟩ : ∃ q, minTo xs ys s a = q := ⟨_, rfl⟩
          rw [hq] at hce HSET
          have hsi : (a : Int) + (j : Int) = (s : Int) := by omega
          clear hcc hyj hs hst hset hset' hq
          go_wp2_with fail
          go_roundw
          case rel => exact ⟨j + 1, by omega, by go_num, HSET.out, HXJ.out.below ((Below.refl w.heap.size _).setCell hgB _) (Nat.le_refl _)⟩
          case measure => simp [intOf]; omega
        · obtain rfl : j = m := by omega
          go_wp2_with fail
          go_roundw
          case rel =>
            refine ⟨a + 1, by omega, by go_num, ?_, HXJ.out⟩
            rw [← stL_next, HM.out]
            exact HOJ.out
          case measure => simp [intOf]; omega
    · obtain rfl : a = n := by omega
      go_wp2_with fail
      go_ret2
      refine ⟨_, rfl, ?_, HXA.out⟩
      rw [← stL_end, HN.out, HM.out, hp]
      exact HOA.out
theorem Both_any (u v : Value) (xs ys : List Int) (w : World) (hu : IsI w u xs) (hv : IsI w v ys) :
    Calls Try.prog 52 #[u, v] w (RetOE w (bothR xs ys) (bothEr xs ys)) := by
  by_cases h : bothEr xs ys = 0
  · have := Both_good u v xs ys w hu hv h
    rwa [bothR, if_pos h, h]
  · exact Both_bad u v xs ys w hu hv h
theorem rubber_of {f b : List Int} (h : Fine f b) : rubberB b 31 = true := by
  have h1 := h.le31
  simp only [rubberB, Bool.and_eq_true, decide_eq_true_eq]
  exact ⟨⟨⟨⟨h.odd, by omega⟩, h1⟩, hts_of_all.2 h.hy⟩, h.mid⟩
theorem Fine.mixL {f b c : List Int} (h : Fine f b) (k : Fine f c) : Fine (liftL f b) c := ⟨h.lift.lo, h.lift.hi, k.odd, by rw [liftL_len]; exact k.le, k.le31, h.lift.hx, k.hy, k.mid⟩
theorem Fine.mixU {f b c : List Int} (h : Fine f b) (k : Fine f c) : Fine (underL f b) c := ⟨h.under.lo, h.under.hi, k.odd, by rw [underL_len]; exact k.le, k.le31, h.under.hx, k.hy, k.mid⟩
end Go.Proofs.Ytaaceadcnnfngaa
