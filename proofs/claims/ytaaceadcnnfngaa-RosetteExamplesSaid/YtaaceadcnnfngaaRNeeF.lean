/- barleycornref03.Needed. Condition: slices read as lists. -/
import Derived.Test.YtaaceadcnnfngaaRTouF
import Derived.Test.YtaaceadcnnfngaaRLawT
namespace Go.Proofs.Ytaaceadcnnfngaa
section
/- RConF: barleycornref03.Contacts. Condition: slices read as lists. -/
open Go.RowKit

def conEr (xs ys : List Int) (p : Int) : Int := if bothE xs ys = 0 then (if 0 ≤ p ∧ p < xs.length then 0 else 2) else bothE xs ys
def conL (xs ys : List Int) (p : Int) : List Int := if conEr xs ys p = 0 then touchesL xs ys p.toNat else []
set_option maxRecDepth 100000 in
set_option maxHeartbeats 1000000 in
theorem refContacts_any (u v : Value) (xs ys : List Int) (p : Int) (w : World) (hu : IsI w u xs) (hv : IsI w v ys) :
    Calls Try.prog 54 #[u, v, .int .i64 p] w (RetOE w (conL xs ys p) (conEr xs ys p)) := by
  have HAS := Lib.hid (asked_any u v xs ys w hu hv)
  by_cases hb : bothE xs ys = 0
  · have HT := Lib.hid fun (k : Nat) (hk : k < xs.length) => refTouches_any u v xs ys k w hu hv (fine_iff.1 hb) hk
    have h96 := (fine_iff.1 hb).hi
    obtain ⟨A, n, c, rfl, hc0, hr, hn⟩ := hu.open_
    obtain ⟨A', m, c', rfl, hd0, hs, hm⟩ := hv.open_
    have HN := Lib.hid hr.len
    have hW := refWithin_any p 0 ((n : Int) - 1)
    rw [hr.len] at h96
    rw [hb] at HAS
    by_cases hp : 0 ≤ p ∧ p < n
    · obtain ⟨k, rfl⟩ : ∃ k : Nat, p = k := ⟨p.toNat, by omega⟩
      rw [show inB 0 ((n : Int) - 1) (k : Int) = true from inB_iff.2 (by omega)] at hW
      have HE := Lib.hid (show conEr xs ys k = 0 by rw [conEr, if_pos hb, if_pos (by rw [HN.out]; exact hp)])
      have HL := Lib.hid (show conL xs ys k = touchesL xs ys k by rw [conL, if_pos HE.out]; rfl)
      have HW := Lib.hid hW
      have HTT := Lib.hid (HT.out k (by rw [HN.out]; omega))
      clear hW hr hs hc0 hd0 hu hv hb HT
      go_enter Try.func54, Try.ntmps54
      go_wp2_with fail
      refine HAS.out.mono ?_
      rintro e _ ⟨rfl, rfl⟩
      go_wp2_with fail
      refine (HW.out _).mono ?_
      rintro e _ ⟨rfl, rfl⟩
      go_wp2_with fail
      refine HTT.out.mono ?_
      rintro e w1 ⟨v1, rfl, o1, x1⟩
      have HO1 := Lib.hid o1
      have HX1 := Lib.hid x1
      clear o1 x1
      go_wp2_with fail
      go_ret2
      exact ⟨_, by rw [HE.out] <;> rfl, by rw [HL.out]; exact HO1.out, HX1.out⟩
    · rw [show inB 0 ((n : Int) - 1) p = false from inB_false.2 (by omega)] at hW
      have HE := Lib.hid (show conEr xs ys p = 2 by rw [conEr, if_pos hb, if_neg (by rw [HN.out]; exact hp)])
      have HL := Lib.hid (show conL xs ys p = [] by rw [conL, HE.out]; rfl)
      have HW := Lib.hid hW
      clear hW hr hs hc0 hd0 hu hv hb HT hp
      go_enter Try.func54, Try.ntmps54
      go_wp2_with fail
      refine HAS.out.mono ?_
      rintro e _ ⟨rfl, rfl⟩
      go_wp2_with fail
      refine (HW.out _).mono ?_
      rintro e _ ⟨rfl, rfl⟩
      go_wp2_with fail
      go_ret2
      exact ⟨_, by rw [HE.out] <;> rfl, by rw [HL.out]; exact OwnI.nil _ _, Ext.refl _⟩
  · have HE := Lib.hid (show conEr xs ys p = bothE xs ys by rw [conEr, if_neg hb])
    have HL := Lib.hid (show conL xs ys p = [] by rw [conL, if_neg (by rw [HE.out]; exact hb)])
    obtain ⟨A, n, c, rfl, hc0, hr, hn⟩ := hu.open_
    obtain ⟨A', m, c', rfl, hd0, hs, hm⟩ := hv.open_
    have hbb : (bothE xs ys != 0) = true := by simpa using hb
    generalize bothE xs ys = er at *
    clear hr hs hc0 hd0 hu hv hb
    go_enter Try.func54, Try.ntmps54
    go_wp2_with fail
    refine HAS.out.mono ?_
    rintro e _ ⟨rfl, rfl⟩
    go_wp2_with fail
    go_ret2
    exact ⟨_, by rw [HE.out] <;> rfl, by rw [HL.out]; exact OwnI.nil _ _, Ext.refl _⟩
end
open Go.RowKit

/-- A step less at q is felt. -/
def needB (xs ys : List Int) (q : Nat) : Bool := !decide (xs[q]?.getD 0 = 0) && !(liftL (xs.set q (xs[q]?.getD 0 - 1)) ys == liftL xs ys)
def needTo (xs ys : List Int) (k : Nat) : List Int := ((List.range k).filter (needB xs ys)).map fun q : Nat => (q : Int)
def needL (xs ys : List Int) : List Int := if bothE xs ys = 0 then needTo xs ys xs.length else []
theorem needTo_succ (xs ys : List Int) (k : Nat) : needTo xs ys (k + 1) = needTo xs ys k ++ (if needB xs ys k then [(k : Int)] else []) := by
  simp only [needTo, List.range_succ, List.filter_append, List.map_append]
  cases h : needB xs ys k <;> simp [h]
theorem needTo_len (xs ys : List Int) (k : Nat) : (needTo xs ys k).length ≤ k := by
  rw [needTo, List.length_map]
  exact Nat.le_trans (List.length_filter_le _ _) (by simp)
theorem Fine.less {xs ys : List Int} (h : Fine xs ys) {q : Nat} (h0 : xs[q]?.getD 0 ≠ 0) : Fine (xs.set q (xs[q]?.getD 0 - 1)) ys :=
  ⟨by rw [List.length_set]; exact h.lo, by rw [List.length_set]; exact h.hi, h.odd, by rw [List.length_set]; exact h.le, h.le31, fun i => by
    have h1 := h.hx i
    have h2 := h.hx q
    rw [List.getElem?_set]
    split
    · split
      · simp; omega
      · simp
    · exact h1, h.hy, h.mid⟩

set_option maxRecDepth 100000 in
set_option maxHeartbeats 2000000 in
theorem refNeeded_any (u v : Value) (xs ys : List Int) (w : World) (hu : IsI w u xs) (hv : IsI w v ys) :
    Calls Try.prog 56 #[u, v] w (RetOE w (needL xs ys) (bothE xs ys)) := by
  have HAS := Lib.hid (asked_any u v xs ys w hu hv)
  by_cases hb : bothE xs ys = 0
  · have HF := Lib.hid (fine_iff.1 hb)
    have HLF := Lib.hid (refLifted_any u v xs ys w hu hv HF.out)
    have HE := Lib.hid hb
    have HL := Lib.hid (show needL xs ys = needTo xs ys xs.length by rw [needL, if_pos hb])
    have HU := Lib.hid hu
    have HV := Lib.hid hv
    have h96 := HF.out.hi
    rw [hb] at HAS
    obtain ⟨A, n, c, rfl, hc0, hr, hn⟩ := hu.open_
    obtain ⟨A', m, c', rfl, hd0, hs, hm⟩ := hv.open_
    have HN := Lib.hid hr.len
    have HR := Lib.hid hr
    rw [hr.len] at h96
    clear hr hs hc0 hd0 hu hv hb
    go_enter Try.func56, Try.ntmps56
    go_wp2_with fail
    refine HAS.out.mono ?_
    rintro e _ ⟨rfl, rfl⟩
    go_wp2_with fail
    refine HLF.out.mono ?_
    rintro e w1 ⟨v1, rfl, o1, x1⟩
    have HO1 := Lib.hid o1.isI
    have HX1 := Lib.hid x1
    clear o1 x1
    go_wp2_with fail
    go_loopw [8, 9, 10] (fun x i _ wr => ∃ q : Nat, q ≤ n ∧ i = .int .i64 q ∧ OwnI w1.heap.size wr x (needTo xs ys q) ∧ Ext w1 wr) (fun _ i _ _ => n - (intOf i).toNat)
    case atStart => exact ⟨0, by omega, rfl, OwnI.nil _ _, Ext.refl _⟩
    case round =>
      obtain ⟨q, hq, rfl, hown, hx⟩ := hrel
      have HX := Lib.hid (HX1.out.trans hx)
      have HXI := Lib.hid hx
      have HOW := Lib.hid hown
      clear hx hown
      by_cases hlt : q < n
      · obtain ⟨b, o, rfl, hb, hc⟩ := HR.out.at_ q hlt
        have hc' := HX.out.cell_some hc
        have HNS := Lib.hid (needTo_succ xs ys q)
        obtain ⟨hx1, hx2⟩ := HF.out.hx q
        by_cases hz : xs[q]?.getD 0 = 0
        · have HNB := Lib.hid (show needB xs ys q = false by rw [needB, decide_eq_true hz]; rfl)
          rw [hz] at hc'
          clear hz hc
          go_wp2_with fail
          go_roundw
          case rel => exact ⟨q + 1, by omega, by go_num, by rw [HNS.out, HNB.out, if_neg (by decide), List.append_nil]; exact HOW.out, HXI.out⟩
          case measure => simp [intOf]; omega
        · have HFL := Lib.hid (HF.out.less hz)
          have HNB := Lib.hid (show needB xs ys q = !(liftL (xs.set q (xs[q]?.getD 0 - 1)) ys == liftL xs ys) by rw [needB, decide_eq_false hz]; rfl)
          have HSL := Lib.hid (show ∀ (x : Value) (W : World), OwnI wr.heap.size W x ([] ++ xs) → ∃ g c7, x = .slice (some ⟨g, 0, none⟩) n c7 ∧ wr.heap.size ≤ g ∧ W.cell? ⟨g, q, none⟩ = some (.int .i64 (xs[q]?.getD 0)) ∧ W.frozen? ⟨g, q, none⟩ = false ∧ OwnI wr.heap.size (W.setCell ⟨g, q, none⟩ (.int .i64 (xs[q]?.getD 0 - 1))) x (xs.set q (xs[q]?.getD 0 - 1)) from fun x W h => by
            rw [List.nil_append] at h
            obtain ⟨g, c7, he, hg, h1, h2, h3⟩ := h.slot (k := q) (by rw [HN.out]; exact hlt)
            rw [HN.out] at he
            exact ⟨g, c7, he, hg, h1, h2, h3 _⟩)
          obtain ⟨xq, hxq⟩ : ∃ xq, xs[q]?.getD 0 = xq := ⟨_, rfl⟩
          rw [hxq] at hz hx1 hx2 hc' HFL HNB HSL
          have hz2 : (xq == 0) = false := by simpa using hz
          have HM := Lib.hid (OwnI.made wr.heap.size wr 0 (Nat.le_refl _) #[] (by decide) rfl)
          have HU0 := Lib.hid (HU.out.ext (HX.out.alloc (.cells #[] 3)))
          have HB0 := Lib.hid (show wr.heap.size ≤ (wr.alloc (.cells #[] 3)).heap.size by simp)
          have HZ0 := Lib.hid (show ([] : List Int).length + xs.length ≤ 10000000000 by rw [List.length_nil, HN.out]; omega)
          clear hc hxq
          go_wp2_with (at_builtin; refine app_all rfl _ _ rfl rfl rfl HU0.out HM.out HB0.out HZ0.out ?_; intro v7 w7 o7 b7; obtain ⟨g, c7, rfl, hg7, hce, hfr, hset⟩ := HSL.out _ _ o7; have HSET := Lib.hid hset; have HB7 := Lib.hid b7; clear o7 hset b7)
          have HX7 := Lib.hid (show Ext wr (w7.setCell ⟨g, q, none⟩ (.int .i64 (xq - 1))) from (((Ext.refl wr).alloc _).below HB7.out (Nat.le_refl _)).below ((Below.refl wr.heap.size _).setCell hg7 _) (Nat.le_refl _))
          refine (refLifted_any _ _ _ ys _ HSET.out.isI (HV.out.ext (HX.out.trans HX7.out)) HFL.out).mono ?_
          rintro e w2 ⟨v2, rfl, o2, x2⟩
          have HX2 := Lib.hid (HX7.out.trans x2)
          have HO2 := Lib.hid o2.isI
          clear o2 x2 hce hfr
          go_wp2_with fail
          refine (same_any v2 v1 _ _ w2 HO2.out (HO1.out.ext (HXI.out.trans HX2.out))).mono ?_
          rintro e w3 ⟨rfl, x3⟩
          have HX3 := Lib.hid (HX2.out.trans x3)
          clear x3
          cases hs : (liftL (xs.set q (xq - 1)) ys == liftL xs ys)
          · rw [hs] at HNB
            clear hs
            have HC := Lib.hid (cell_new0 w3 (.int .i64 (q : Int)) 3)
            have HO3 := Lib.hid ((HOW.out.ext HX3.out).ext ((Ext.refl w3).alloc (.cells #[.int .i64 (q : Int)] 3)))
            have HB3 := Lib.hid (show w1.heap.size ≤ (w3.alloc (.cells #[.int .i64 (q : Int)] 3)).heap.size from ((HXI.out.trans HX3.out).alloc _).bel.size)
            have HZ3 := Lib.hid (show (needTo xs ys q).length ≤ 1000000000 by have := needTo_len xs ys q; omega)
            go_wp2_with (at_builtin; refine app_one rfl _ _ rfl _ _ _ rfl rfl HC.out HO3.out HB3.out HZ3.out ?_; intro v4 w4 o4 b4)
            go_roundw
            case rel => exact ⟨q + 1, by omega, by go_num, by rw [HNS.out, HNB.out, if_pos (by decide)]; exact o4, ((HXI.out.trans HX3.out).alloc _).below b4 (Nat.le_refl _)⟩
            case measure => simp [intOf]; omega
          · rw [hs] at HNB
            clear hs
            go_wp2_with fail
            go_roundw
            case rel => exact ⟨q + 1, by omega, by go_num, by rw [HNS.out, HNB.out, if_neg (by decide), List.append_nil]; exact HOW.out.ext HX3.out, HXI.out.trans HX3.out⟩
            case measure => simp [intOf]; omega
      · obtain rfl : q = n := by omega
        go_wp2_with fail
        go_ret2
        refine ⟨_, by rw [HE.out] <;> rfl, ?_, HX.out⟩
        rw [HL.out, HN.out]
        exact HOW.out.mono HX1.out.bel.size
  · have HL := Lib.hid (show needL xs ys = [] by rw [needL, if_neg hb])
    obtain ⟨A, n, c, rfl, hc0, hr, hn⟩ := hu.open_
    obtain ⟨A', m, c', rfl, hd0, hs, hm⟩ := hv.open_
    have hbb : (bothE xs ys != 0) = true := by simpa using hb
    generalize bothE xs ys = er at *
    clear hr hs hc0 hd0 hu hv hb
    go_enter Try.func56, Try.ntmps56
    go_wp2_with fail
    refine HAS.out.mono ?_
    rintro e _ ⟨rfl, rfl⟩
    go_wp2_with fail
    go_ret2
    exact ⟨_, rfl, by rw [HL.out]; exact OwnI.nil _ _, Ext.refl _⟩
end Go.Proofs.Ytaaceadcnnfngaa
