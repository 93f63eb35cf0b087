/- What light.Read reads: plain. Condition: the shades are in lowest terms. -/
import Derived.Test.YtkjgcmdabelohaaLOneP
import Derived.Test.YtkjgcmdabelohaaLXK
import Derived.Lib.SliceRun
import Derived.Maps.AppendAt
import Derived.Test.YtkjgcmdabelohaaESlot
import Derived.Test.YtkjgcmdabelohaaAcc
import Derived.Deep.Upon
import Derived.Test.YtkjgcmdabelohaaLSort
namespace Go.Proofs.Ytkjgcmdabelohaa
section
/- LClo: slices.Clone and slices.ContainsFunc over shades, as light.Read calls them; what is a shade in lowest terms. Condition: the slice reads as a list. -/
open Go.RowKit

section
variable {α : Type} {K : EK α}
theorem EK.Is.flatL {w : World} {ad : Addr} {m c : Nat} {xs : List α} (h : K.Is w (.slice (some ad) m c) xs) : ∀ j u, (xs.flatMap K.enc)[j]? = some u → w.cell? (ad.add j) = some u := by
  intro j u hj
  obtain ⟨A, c', he, _, _, hr⟩ := h
  simp only [Value.slice.injEq] at he
  obtain ⟨rfl, rfl, rfl⟩ := he
  have hp := K.pos
  have hlt : j < xs.length * K.k := by
    rw [← flat_len K xs]
    exact (List.getElem?_eq_some_iff.1 hj).1
  have hq : j / K.k < xs.length := Nat.div_lt_of_lt_mul (by rw [Nat.mul_comm]; exact hlt)
  have hi : j % K.k < K.k := Nat.mod_lt _ hp
  have hj' : j / K.k * K.k + j % K.k = j := by rw [Nat.mul_comm]; exact Nat.div_add_mod j K.k
  obtain ⟨b, o, hA, _, hc⟩ := hr (j / K.k) hq
  simp only [Option.some.injEq] at hA
  subst hA
  rw [← hj', flat_at K xs _ hq _ hi] at hj
  have := hc _ _ hj
  rw [Nat.add_assoc, hj'] at this
  simp only [Addr.add]
  split
  · rename_i h0
    subst h0
    exact this
  · exact this

theorem EK.appAllL {w : World} {ops : Array Oper} {rest : List Oper} {o : Oper} {a : Act} {Q : Exit → Act → World → Prop} (hgd : o.guard = none) (s x : Operand)
    (ho : o.op = .call { callee := .builtin .append, args := #[s, x], argTypes := #[K.st, K.st] })
    {B : Nat} {v : Value} {xs ys : List α} {A : Option Addr} {m c : Nat} (hs : a.eval s = v) (hx : a.eval x = .slice A m c)
    (hu : K.Is w (.slice A m c) ys) (hown : K.Own B w v xs) (hB : B ≤ w.heap.size) (hlen : xs.length + ys.length ≤ 1000000000)
    (h : ∀ v' w', K.Own B w' v' (xs ++ ys) → Below B w w' → w.grownBy w' v.ownBlock → wpList Try.prog ops Q rest (a.put o.dst v') w') : wpList Try.prog ops Q (o :: rest) a w := by
  obtain ⟨i0, hi, hz0, hz1, hz2⟩ := info_parts K.info
  have hsm := K.small
  have hm : m = ys.length := by
    obtain ⟨_, _, he, _⟩ := hu
    simp only [Value.slice.injEq] at he
    exact he.2.1
  match A with
  | none =>
    obtain ⟨A', c', he, h0, _, hr⟩ := hu
    simp only [Value.slice.injEq] at he
    obtain ⟨rfl, -, rfl⟩ := he
    have hy : ys = [] := by
      rcases ys with _ | ⟨y, ys⟩
      · rfl
      · obtain ⟨_, _, he, _⟩ := hr 0 (by simp)
        cases he
    subst hy
    obtain rfl := h0 rfl
    subst hm
    refine wpList_append_own_none hgd s x K.st ho B K.ty i0 K.k K.und hi v _ _ hs hown hx (h v w (by simpa using hown) (Below.refl B w) ⟨rfl, rfl, rfl, Nat.le_refl _, fun _ _ _ => rfl⟩)
  | some ad =>
    have hf := hu.flatL
    refine wpList_append_own w hgd s x K.st ho B K.ty i0 K.z K.k K.bytes K.und hi hz0 hz1 hz2 K.hzs K.pos v _ _ hs hown ad m c (ys.flatMap K.enc) hx (by rw [flat_len, hm]) hf (fun u hu => ?_) (by simp only [maxLen]; omega) ?_ hB (fun v' w' h1 h2 _ => h v' w' (by simpa [EK.Own, hm] using h1) ?_ h2)
    · obtain ⟨y, _, hy⟩ := List.mem_flatMap.1 hu
      exact K.one y u hy
    · exact Nat.le_trans (Nat.mul_le_mul (show xs.length + m ≤ 1000000000 by omega) hsm) (by decide)
    · exact (Below.refl B w).grown h2 hB fun k hk => (World.ownsRow.lt hown k hk).1

end

/-- A shade in lowest terms. -/
def fracB (n d : Int) : Bool := shapedB n d && decide (Int.gcd n d = 1)
theorem fracB_iff {n d : Int} : fracB n d = true ↔ FracIs n d := by
  unfold fracB
  rw [Bool.and_eq_true, shapedB_iff, decide_eq_true_eq]
  exact ⟨fun ⟨⟨⟨h1, h2⟩, h3, h4⟩, h5⟩ => ⟨h3, h4, h1, h2, h5⟩, fun h => ⟨⟨⟨h.d1, h.d2⟩, h.n0, h.nd⟩, h.g⟩⟩
def fracS (s : Int × Int) : Bool := fracB s.1 s.2

set_option maxHeartbeats 1000000 in
theorem clone_any (v : Value) (xs : List (Int × Int)) (w : World) (hI : shadeK.Is w v xs) (hl : xs.length ≤ 1000000) :
    Calls Try.prog 78 #[v] w fun e w' => ∃ u, e = .returned u ∧ shadeK.Own w.heap.size w' u xs ∧ Ext w w' := by
  have HI := Lib.hid hI
  obtain ⟨A, n, c, rfl, hn, h0, hr, hm⟩ := hI.open_
  have he : ∀ w : World, (binOp .eql 106 (.slice A n c) (.slice none 0 0)).run Try.prog w = .ok (.bool A.isNone) w := fun w => Lib.run_eql_slice_nil w _ _ A n c 0 0 Try.underlying106
  cases A with
  | none =>
    have hx0 : xs = [] := by
      cases xs with
      | nil => rfl
      | cons x xs =>
        obtain ⟨_, _, hA, _⟩ := hr 0 (by simp)
        cases hA
    subst hx0
    simp only [Option.isNone_none] at he
    clear hI hr h0
    go_enter Try.func78, Try.ntmps78
    go_wp2_with fail
    go_ret
    exact ⟨_, rfl, EK.Own.nil _ _, by (repeat' (first | with_reducible exact Ext.refl _ | with_reducible apply Ext.alloc | with_reducible apply Ext.drew | with_reducible apply Ext.drewN | with_reducible refine Ext.setCell ?_ ?_ _ | with_reducible apply Ext.step | with_reducible assumption | with_reducible exact Nat.le_refl _ | (simp; done) | (simp; omega)))⟩
  | some ad =>
    simp only [Option.isNone_some] at he
    have HM := Lib.hid (EK.Own.lit (K := shadeK) (B := w.heap.size) w #[] [] rfl (Nat.le_refl _) (by decide))
    have HU := Lib.hid (HI.out.ext ((Ext.refl w).alloc (.cells #[] 49)))
    have HBB := Lib.hid (show w.heap.size ≤ (w.alloc (.cells #[] 49)).heap.size by simp)
    have HZ := Lib.hid (show ([] : List (Int × Int)).length + xs.length ≤ 1000000000 by rw [List.length_nil]; omega)
    clear hI hr h0 hn
    go_enter Try.func78, Try.ntmps78
    go_wp2_with (at_builtin; refine EK.appAllL (K := shadeK) rfl (.tmp 5) (.tmp 6) rfl rfl rfl HU.out HM.out HBB.out HZ.out ?_; intro v1 w1 o1 b1 _; have HO1 := Lib.hid o1; have HB1 := Lib.hid b1; clear o1 b1)
    go_ret
    exact ⟨_, rfl, by simpa using HO1.out, ((Ext.refl w).alloc _).below HB1.out (Nat.le_refl _)⟩

set_option maxHeartbeats 1000000 in
theorem read1_any (n d : Int) (w : World) :
    Calls Try.prog 77 #[shadeV n d] w fun e w' => e = .returned (.bool (!fracB n d)) ∧ Ext w w' := by
  have HS := Lib.hid fun W : World => shaped_any n d W
  cases h1 : shapedB n d
  · have HV := Lib.hid (show (!fracB n d) = true by unfold fracB; rw [h1]; rfl)
    rw [h1] at HS
    clear h1
    go_enter Try.func77, Try.ntmps77
    go_wp2_with fail
    refine (HS.out _).mono ?_
    rintro e w1 ⟨rfl, x1⟩
    have HX1 := Lib.hid (show Ext w w1 from Ext.trans (by (repeat' (first | with_reducible exact Ext.refl _ | with_reducible apply Ext.alloc | with_reducible apply Ext.drew | with_reducible apply Ext.drewN | with_reducible refine Ext.setCell ?_ ?_ _ | with_reducible apply Ext.step | with_reducible assumption | with_reducible exact Nat.le_refl _ | (simp; done) | (simp; omega)))) x1)
    clear x1
    go_wp2_with fail
    go_ret
    exact ⟨ret_b HV.out.symm, HX1.out⟩
  · obtain ⟨⟨d1, d2⟩, n1, n2⟩ := shapedB_iff.1 h1
    have HD := Lib.hid fun W : World => divisor_any n d W (by omega) (by omega) (by omega) (by omega)
    have HV := Lib.hid (show (!fracB n d) = !decide (Int.gcd n d = 1) by unfold fracB; rw [h1]; rfl)
    rw [h1] at HS
    generalize Int.gcd n d = gg at *
    have hgb : ((gg : Int) != 1) = !decide (gg = 1) := by
      by_cases h : gg = 1
      · subst h; rfl
      · rw [decide_eq_false h]; simp; omega
    clear h1
    go_enter Try.func77, Try.ntmps77
    go_wp2_with fail
    refine (HS.out _).mono ?_
    rintro e w1 ⟨rfl, x1⟩
    have HX1 := Lib.hid (show Ext w w1 from Ext.trans (by (repeat' (first | with_reducible exact Ext.refl _ | with_reducible apply Ext.alloc | with_reducible apply Ext.drew | with_reducible apply Ext.drewN | with_reducible refine Ext.setCell ?_ ?_ _ | with_reducible apply Ext.step | with_reducible assumption | with_reducible exact Nat.le_refl _ | (simp; done) | (simp; omega)))) x1)
    have c0 : w1.cell? ⟨w.heap.size, 0, none⟩ = some (.int .i64 n) := x1.cell_some (by go_cell)
    have c1 : w1.cell? ⟨w.heap.size, 1, none⟩ = some (.int .i64 d) := x1.cell_some (by go_cell)
    have l0 := cell_lt c0
    clear x1
    go_wp2_with fail
    refine (HD.out _).mono ?_
    rintro e w2 ⟨rfl, x2⟩
    have HX2 := Lib.hid (HX1.out.trans x2)
    clear x2 c0 c1 l0
    by_cases hg1 : gg = 1
    · subst hg1
      go_wp2_with fail
      go_ret
      exact ⟨ret_b (by rw [HV.out]; rfl), HX2.out⟩
    · have hgb2 : ((gg : Int) != 1) = true := by simp; omega
      have HV2 := Lib.hid (show (!fracB n d) = true by rw [HV.out, decide_eq_false hg1]; rfl)
      clear hgb
      go_wp2_with fail
      go_ret
      exact ⟨ret_b HV2.out.symm, HX2.out⟩

def IxR (xs : List (Int × Int)) (w : World) (e : Ending) (w' : World) : Prop := ∃ i : Int, e = .returned (.int .i64 i) ∧ decide (0 ≤ i) = !xs.all fracS ∧ Ext w w'

set_option maxHeartbeats 1000000 in
theorem indexRead_any (v : Value) (xs : List (Int × Int)) (w : World) (hI : shadeK.Is w v xs) :
    Calls Try.prog 101 #[v, .func (.func 77) #[] #[]] w (IxR xs w) := by
  have HI := Lib.hid hI
  obtain ⟨A, n, c, rfl, hn, _, hr, hm⟩ := hI.open_
  have HN := Lib.hid hn
  have HR := Lib.hid hr
  clear hI hr hn
  go_enter Try.func101, Try.ntmps101
  go_wp2_with fail
  go_loopw [8, 5] (fun i _ wr => ∃ j : Nat, j ≤ n ∧ i = .int .i64 j ∧ Hid ((xs.take j).all fracS = true) ∧ Ext w wr) (fun i _ _ => n - (intOf i).toNat)
  case atStart => exact ⟨0, by omega, rfl, Lib.hid rfl, Ext.refl _⟩
  case round =>
    obtain ⟨j, hj, rfl, HA, hx⟩ := hrel
    have HX := Lib.hid hx
    by_cases hlt : j < n
    · have hjl : j < xs.length := by rw [HN.out]; exact hlt
      obtain ⟨b, o, rfl, hb, hc⟩ := HR.out j hjl
      have h0 := hx.cell_some (hc 0 _ rfl)
      have h1 := hx.cell_some (hc 1 _ rfl)
      simp only [shadeK, Nat.add_zero] at h0 h1
      have HTK := Lib.hid (show (xs.take (j + 1)).all fracS = fracB xs[j].1 xs[j].2 by
        rw [List.take_succ_eq_append_getElem hjl, List.all_append, HA.out, Bool.true_and]
        simp [fracS])
      have HNO := Lib.hid fun (h : fracB xs[j].1 xs[j].2 = false) => (show xs.all fracS = false from List.all_eq_false.2 ⟨xs[j], List.getElem_mem hjl, by rw [show fracS xs[j] = fracB xs[j].1 xs[j].2 from rfl, h]; exact Bool.false_ne_true⟩)
      generalize xs[j].1 = x1 at *
      generalize xs[j].2 = x2 at *
      have l0 := cell_lt h0
      have HRD := Lib.hid (read1_any x1 x2 wr)
      clear hc hx
      cases hf : fracB x1 x2
      · have HF := Lib.hid (HNO.out hf)
        rw [hf] at HRD
        clear hf HNO HTK
        go_wp2_with (go_at_call 77; refine HRD.out.mono ?_; rintro e w5 ⟨rfl, x5⟩; have HX5 := Lib.hid (HX.out.trans x5); clear x5)
        go_ret
        exact ⟨j, rfl, by rw [HF.out]; simp, HX5.out⟩
      · have HF := Lib.hid (show (xs.take (j + 1)).all fracS = true by rw [HTK.out, hf])
        rw [hf] at HRD
        clear hf HNO HTK
        go_wp2_with (go_at_call 77; refine HRD.out.mono ?_; rintro e w5 ⟨rfl, x5⟩; have HX5 := Lib.hid (HX.out.trans x5); clear x5)
        go_roundw
        case rel => exact ⟨j + 1, by omega, by go_num, HF, HX5.out⟩
        case measure => simp [intOf]; omega
    · obtain rfl : j = n := by omega
      have HF := Lib.hid (show xs.all fracS = true by
        have := HA.out
        rwa [List.take_of_length_le (by rw [HN.out]; exact Nat.le_refl _)] at this)
      clear hx
      go_wp2_with fail
      go_ret
      exact ⟨-1, rfl, by rw [HF.out]; rfl, HX.out⟩

set_option maxHeartbeats 1000000 in
theorem containsRead_any (v : Value) (xs : List (Int × Int)) (w : World) (hI : shadeK.Is w v xs) :
    Calls Try.prog 76 #[v, .func (.func 77) #[] #[]] w fun e w' => e = .returned (.bool (!xs.all fracS)) ∧ Ext w w' := by
  have H := Lib.hid (indexRead_any v xs w hI)
  obtain ⟨A, n, c, rfl, _⟩ := hI.open_
  clear hI
  go_enter Try.func76, Try.ntmps76
  go_wp2_with (go_at_call 101; refine H.out.mono ?_; rintro e w' ⟨i, rfl, hi0, hx⟩; have HX := Lib.hid hx; have HI0 := Lib.hid hi0; clear hi0 hx)
  go_ret
  exact ⟨ret_b HI0.out, HX.out⟩
end
section
/- LComp: slices.Compact over shades. Condition: the slice is the call's own. -/
section
/-- What is kept of the first j. -/
def cmpTo (ys : List (Int × Int)) : Nat → List (Int × Int)
  | 0 => []
  | j + 1 => if j = 0 ∨ ys[j]?.getD (0, 0) ≠ ys[j - 1]?.getD (0, 0) then cmpTo ys j ++ [ys[j]?.getD (0, 0)] else cmpTo ys j
theorem cmpTo_len (ys : List (Int × Int)) : ∀ j, (cmpTo ys j).length ≤ j
  | 0 => Nat.le_refl _
  | j + 1 => by
    have := cmpTo_len ys j
    unfold cmpTo
    split
    · simp; omega
    · omega
theorem cmpTo_all {ys : List (Int × Int)} : ∀ {j : Nat}, j ≤ ys.length → (∀ i, 1 ≤ i → i < j → ys[i]?.getD (0, 0) ≠ ys[i - 1]?.getD (0, 0)) → cmpTo ys j = ys.take j
  | 0, _, _ => by simp [cmpTo]
  | j + 1, hj, h => by
    unfold cmpTo
    rw [if_pos, cmpTo_all (by omega) fun i h1 h2 => h i h1 (by omega), take_snoc (d := (0, 0)) (by omega)]
    rcases Nat.eq_zero_or_pos j with h0 | h0
    · exact .inl h0
    · exact .inr (h j h0 (by omega))
/-- How the row stands while it is made compact: so many are laid, and from the last one looked at on nothing has changed. -/
structure CmpAt (ys zs : List (Int × Int)) (j : Nat) : Prop where
  len : zs.length = ys.length
  head : zs.take (cmpTo ys j).length = cmpTo ys j
  lt : (cmpTo ys j).length + 1 ≤ j
  tail : ∀ i, j ≤ i + 1 → zs[i]? = ys[i]?
theorem CmpAt.start {ys : List (Int × Int)} {j : Nat} (h1 : 1 ≤ j) (hj : j < ys.length) (ha : ∀ i, 1 ≤ i → i < j → ys[i]?.getD (0, 0) ≠ ys[i - 1]?.getD (0, 0)) (he : ys[j]?.getD (0, 0) = ys[j - 1]?.getD (0, 0)) : CmpAt ys ys (j + 1) ∧ (cmpTo ys (j + 1)).length = j := by
  have hc : cmpTo ys (j + 1) = ys.take j := by
    rw [show cmpTo ys (j + 1) = if j = 0 ∨ ys[j]?.getD (0, 0) ≠ ys[j - 1]?.getD (0, 0) then cmpTo ys j ++ [ys[j]?.getD (0, 0)] else cmpTo ys j from rfl, if_neg (by rintro (h | h); exact absurd h (by omega); exact h he), cmpTo_all (by omega) ha]
  have hl : (cmpTo ys (j + 1)).length = j := by rw [hc, List.length_take]; omega
  exact ⟨⟨rfl, by rw [hl, hc], by omega, fun _ _ => rfl⟩, hl⟩
theorem CmpAt.skip {ys zs : List (Int × Int)} {j : Nat} (h : CmpAt ys zs j) (hj : 1 ≤ j) (he : ys[j]?.getD (0, 0) = ys[j - 1]?.getD (0, 0)) : CmpAt ys zs (j + 1) ∧ cmpTo ys (j + 1) = cmpTo ys j := by
  have hc : cmpTo ys (j + 1) = cmpTo ys j := by
    rw [show cmpTo ys (j + 1) = if j = 0 ∨ ys[j]?.getD (0, 0) ≠ ys[j - 1]?.getD (0, 0) then cmpTo ys j ++ [ys[j]?.getD (0, 0)] else cmpTo ys j from rfl, if_neg (by rintro (h | h); exact absurd h (by omega); exact h he)]
  exact ⟨⟨h.len, by rw [hc]; exact h.head, by rw [hc]; have := h.lt; omega, fun i hi => h.tail i (by omega)⟩, hc⟩
theorem CmpAt.put {ys zs : List (Int × Int)} {j : Nat} (h : CmpAt ys zs j) (hn : j < ys.length) (he : ys[j]?.getD (0, 0) ≠ ys[j - 1]?.getD (0, 0)) : CmpAt ys (zs.set (cmpTo ys j).length (ys[j]?.getD (0, 0))) (j + 1) ∧ (cmpTo ys (j + 1)).length = (cmpTo ys j).length + 1 := by
  have hc : cmpTo ys (j + 1) = cmpTo ys j ++ [ys[j]?.getD (0, 0)] := by
    rw [show cmpTo ys (j + 1) = if j = 0 ∨ ys[j]?.getD (0, 0) ≠ ys[j - 1]?.getD (0, 0) then cmpTo ys j ++ [ys[j]?.getD (0, 0)] else cmpTo ys j from rfl, if_pos (.inr he)]
  have hl : (cmpTo ys (j + 1)).length = (cmpTo ys j).length + 1 := by rw [hc, List.length_append]; rfl
  have hlt := h.lt
  have hzl := h.len
  refine ⟨⟨by rw [List.length_set, h.len], ?_, by omega, fun i hi => ?_⟩, hl⟩
  · rw [hl, hc, List.take_set, take_snoc (d := (0, 0)) (by omega), h.head, List.set_append_right _ _ (Nat.le_refl _), Nat.sub_self]
    rfl
  · rw [List.getElem?_set_ne (by omega)]
    exact h.tail i (by omega)
end
open Go.RowKit

/-- The first cells read as a list. -/
theorem is_take {B g n c k : Nat} {w : World} {zs : List (Int × Int)} (ho : shadeK.Own B w (.slice (some ⟨g, 0, none⟩) n c) zs) (hz : zs.length = n) (hk : k ≤ n) : shadeK.Is w (.slice (some ⟨g, 0, none⟩) k c) (zs.take k) := by
  obtain ⟨_, _, he, h0, hc, hr⟩ := ho.is
  cases he
  refine ⟨_, c, by rw [List.length_take, Nat.min_eq_left (by omega)], by simp, ⟨by rw [List.length_take]; omega, hc.2⟩, fun j hj => ?_⟩
  rw [List.length_take] at hj
  obtain ⟨b, o, hA, hb, hcell⟩ := hr j (by omega)
  exact ⟨b, o, hA, hb, fun i u hu => hcell i u (by rw [List.getElem_take] at hu; exact hu)⟩
theorem but_setCells {g o : Nat} {vs : List Value} {w : World} : But [g] w (w.setCells g o vs) := by
  induction vs generalizing o w with
  | nil => exact But.refl _ _
  | cons v r ih =>
    have h1 : But [g] w (w.setCell ⟨g, o, none⟩ v) := (But.refl _ _).setCell (by simp) _
    have h2 := ih (o := o + 1) (w := w.setCell ⟨g, o, none⟩ v)
    exact ⟨h2.os.trans h1.os, h2.tape.trans h1.tape, h2.output.trans h1.output, Nat.le_trans h1.size h2.size, fun i hi hd => (h2.block i (Nat.lt_of_lt_of_le hi h1.size) hd).trans (h1.block i hi hd)⟩
theorem is_cleared {g n c o : Nat} {w : World} {zs : List (Int × Int)} {vs : List Value} (h : shadeK.Is w (.slice (some ⟨g, 0, none⟩) n c) zs) (ho : n * 2 ≤ o) (hg : g < w.heap.size) : shadeK.Is (w.setCells g o vs) (.slice (some ⟨g, 0, none⟩) n c) zs := by
  obtain ⟨_, _, he, h0, hc, hr⟩ := h
  cases he
  refine ⟨_, c, rfl, h0, hc, fun j hj => ?_⟩
  obtain ⟨b, o', hA, hb, hcell⟩ := hr j hj
  cases hA
  refine ⟨_, _, rfl, Nat.lt_of_lt_of_le hg (but_setCells (g := g)).size, fun i u hu => ?_⟩
  rw [World.cell?_setCells_out]
  · exact hcell i u hu
  · intro _ _
    left
    have hi : i < 2 := by
      have := (List.getElem?_eq_some_iff.1 hu).1
      rwa [show (shadeK.enc zs[j]).length = 2 from rfl] at this
    show 0 + j * 2 + i < o
    omega
theorem own_at2 {B g n c : Nat} {w : World} {zs : List (Int × Int)} (ho : shadeK.Own B w (.slice (some ⟨g, 0, none⟩) n c) zs) (hz : zs.length = n) {j : Nat} (hj : j < n) :
    (w.cell? ⟨g, j * 2, none⟩ = some (.int .i64 (zs[j]?.getD (0, 0)).1) ∧ w.cell? ⟨g, j * 2 + 1, none⟩ = some (.int .i64 (zs[j]?.getD (0, 0)).2)) ∧ ∀ o, w.frozen? ⟨g, o, none⟩ = false := by
  have hj' : j < zs.length := by omega
  obtain ⟨g', c', he, _, _, h1, h2⟩ := ho.slot hj'
  cases he
  rw [List.getElem?_eq_getElem hj']
  exact ⟨⟨h1 0 _ rfl, h1 1 _ rfl⟩, h2⟩
theorem run_clear_shades (w : World) (g o n c : Nat) (hn : 0 < n) (hc : ∀ j, j < n * 2 → (w.cell? ⟨g, o + j, none⟩).isSome = true) (hf : ∀ j, w.frozen? ⟨g, j, none⟩ = false) :
    ∃ vs : List Value, ∀ ty : TypeId, (Builtin.clear_ #[106] ty #[.slice (some ⟨g, o, none⟩) n c]).run Try.prog w = .ok (.tuple #[]) (w.setCells g o vs) := by
  obtain ⟨m, rfl⟩ : ∃ m, n = m + 1 := ⟨n - 1, by omega⟩
  have hz : ∀ w, (zeroValue 49).run Try.prog w = .ok (.agg #[.int .i64 0, .int .i64 0]) w := Try.zeroValue49
  have hlen : (Builtin.zeroCells (Value.agg #[.int .i64 0, .int .i64 0]).cells (m + 1)).toList.length = (m + 1) * 2 := by simp [Builtin.zeroCells, Value.cells]
  have hst := run_storeCells_cells (P := Try.prog) g o (Builtin.zeroCells (Value.agg #[.int .i64 0, .int .i64 0]).cells (m + 1)).toList 0 w (by rw [hlen]; simpa using hc) (by rw [hlen]; intro j _; exact hf _) (by
    intro v hv
    simp only [Builtin.zeroCells, Value.cells, Array.toList_map, List.mem_map] at hv
    obtain ⟨i, _, rfl⟩ := hv
    have : ∀ q, q < 2 → Value.oneCell' ((#[Value.int .i64 0, Value.int .i64 0] : Array Value)[q]!) = true := by decide
    exact this _ (Nat.mod_lt _ (by decide)))
  simp only [Nat.add_zero] at hst
  exact ⟨(Builtin.zeroCells (Value.agg #[.int .i64 0, .int .i64 0]).cells (m + 1)).toList, fun ty => by simp [Builtin.clear_, run_underlying Try.underlying106, hz, hst]⟩

set_option maxRecDepth 100000 in
set_option maxHeartbeats 4000000 in
theorem compact_any (B g n c : Nat) (ys : List (Int × Int)) (w : World) (hn : ys.length = n) (ho : shadeK.Own B w (.slice (some ⟨g, 0, none⟩) n c) ys) (hl : n ≤ 1000000) :
    Calls Try.prog 80 #[.slice (some ⟨g, 0, none⟩) n c] w fun e w' => ∃ k, e = .returned (.slice (some ⟨g, 0, none⟩) k c) ∧ shadeK.Is w' (.slice (some ⟨g, 0, none⟩) k c) (cmpTo ys n) ∧ But [g] w w' := by
  have hgl : g < w.heap.size := (ho.lt g rfl).2
  obtain ⟨hc1, hc2⟩ : n ≤ c ∧ c ≤ maxLen := by
    obtain ⟨_, _, he, _, hc, _⟩ := ho.is
    cases he
    exact hc
  unfold maxLen at hc2
  have HO := Lib.hid ho
  have HN := Lib.hid hn
  clear ho
  by_cases h2 : n < 2
  · have HF := Lib.hid (show shadeK.Is w (.slice (some ⟨g, 0, none⟩) n c) (cmpTo ys n) from by
      rw [cmpTo_all (by omega) fun i h1 h2 => by omega, ← hn, List.take_length]
      have := HO.out.is
      rwa [← hn] at this)
    have q1 : decide ((n : Int) < 2) = true := by simp; omega
    clear hn
    go_enter Try.func80, Try.ntmps80
    go_wp2_with fail
    go_ret
    exact ⟨n, rfl, HF.out, But.refl _ _⟩
  have q1 : decide ((n : Int) < 2) = false := by simp; omega
  clear hn
  go_enter Try.func80, Try.ntmps80
  go_wp2_with fail
  go_loopw [3] (fun kv wr => ∃ k : Nat, (1 ≤ k ∧ k ≤ n) ∧ kv = .int .i64 (k : Int) ∧ Hid (∀ i, 1 ≤ i → i < k → ys[i]?.getD (0, 0) ≠ ys[i - 1]?.getD (0, 0)) ∧ Ext w wr) (fun kv _ => n - (intOf kv).toNat)
  case atStart => exact ⟨1, ⟨by omega, by omega⟩, rfl, Lib.hid (fun i h1 h2 => by omega), Ext.refl _⟩
  case round =>
    obtain ⟨k, ⟨hk1, hk⟩, rfl, HA, hx⟩ := hrel
    have HX := Lib.hid hx
    by_cases hkn : k < n
    · obtain ⟨⟨a1, a2⟩, -⟩ := own_at2 (HO.out.ext hx) HN.out hkn
      obtain ⟨⟨b1, b2⟩, -⟩ := own_at2 (HO.out.ext hx) HN.out (show k - 1 < n by omega)
      have la := cell_lt a1
      have hki : (k : Int) < (n : Int) := by omega
      have hk0 : (0 : Int) ≤ (k : Int) - 1 := by omega
      have hk2 : (k : Int) - 1 < (n : Int) := by omega
      have hw1 : IntKind.i64.wrap ((k : Int) - 1) = (k : Int) - 1 := by apply IntWalk.i64_in <;> omega
      have HNX := Lib.hid fun (h : ys[k]?.getD (0, 0) ≠ ys[k - 1]?.getD (0, 0)) => (show ∀ i, 1 ≤ i → i < k + 1 → ys[i]?.getD (0, 0) ≠ ys[i - 1]?.getD (0, 0) from fun i h1 h2 => by
        rcases (by omega : i < k ∨ i = k) with h' | rfl
        · exact HA.out i h1 h'
        · exact h)
      have HST := Lib.hid fun (h : ys[k]?.getD (0, 0) = ys[k - 1]?.getD (0, 0)) => CmpAt.start (ys := ys) hk1 (by rw [HN.out]; exact hkn) HA.out h
      generalize ys[k]?.getD (0, 0) = x at *
      generalize ys[k - 1]?.getD (0, 0) = y at *
      obtain ⟨x1, x2⟩ := x
      obtain ⟨y1, y2⟩ := y
      simp only at a1 a2 b1 b2
      clear hx
      by_cases h1 : x1 = y1
      · subst h1
        by_cases h3 : x2 = y2
        · subst h3
          have HC := Lib.hid (HST.out rfl)
          clear HST HNX
          go_wp2_with fail
          refine wp_region_bext (by kernel_rfl) (by kernel_rfl) ?_
          repeat (any_goals (go_big_quiet_step (fail)))
          all_goals refine wpQuiet_nil ?_
          all_goals rintro _ ⟨δ, rfl⟩
          have HX6 := Lib.hid (HX.out.trans (show Ext wr δ.wd from ⟨δ, rfl⟩))
          generalize δ.wd = W6 at *
          clear a1 a2 b1 b2 la
          go_wp2_with fail
          go_loopw [3, 5] (fun kv qv wr => ∃ (q : Nat) (zs : List (Int × Int)), (1 ≤ q ∧ q ≤ n - k) ∧ qv = .int .i64 (q : Int) ∧ CmpAt ys zs (k + q) ∧ kv = .int .i64 ((cmpTo ys (k + q)).length : Nat) ∧ shadeK.Own B wr (.slice (some ⟨g, 0, none⟩) n c) zs ∧ But [g] w wr) (fun _ qv _ => n - k - (intOf qv).toNat)
          case atStart => exact ⟨1, ys, ⟨by omega, by omega⟩, rfl, HC.out.1, by rw [HC.out.2], HO.out.ext HX6.out, (But.refl _ _).ext HX6.out⟩
          case round =>
            obtain ⟨q, zs, ⟨hq1, hq⟩, rfl, hca, rfl, how, hbt⟩ := hrel
            have HCA := Lib.hid hca
            have HOW := Lib.hid how
            have HB := Lib.hid hbt
            have hzl : zs.length = n := hca.len.trans HN.out
            have HZL := Lib.hid hzl
            have hLk := hca.lt
            obtain ⟨L, hL⟩ : ∃ L, L = (cmpTo ys (k + q)).length := ⟨_, rfl⟩
            have HL := Lib.hid hL
            rw [← hL] at hLk ⊢
            have hgw : g < wr.heap.size := (how.lt g rfl).2
            have hfz := fun o => (own_at2 how hzl (show 0 < n by omega)).2 o
            clear hL hca hbt hzl
            by_cases hqn : q < n - k
            · have hkq : k + q < n := by omega
              have HT0 := Lib.hid (HCA.out.tail (k + q) (by omega))
              have HT1 := Lib.hid (HCA.out.tail (k + q - 1) (by omega))
              obtain ⟨⟨a1, a2⟩, -⟩ := own_at2 how HZL.out hkq
              obtain ⟨⟨b1, b2⟩, -⟩ := own_at2 how HZL.out (show k + q - 1 < n by omega)
              obtain ⟨⟨e1, e2⟩, -⟩ := own_at2 how HZL.out (show L < n by omega)
              rw [HT0.out] at a1 a2
              rw [HT1.out] at b1 b2
              rw [show (k + q) * 2 = k * 2 + q * 2 by omega] at a1 a2
              rw [show (k + q - 1) * 2 = k * 2 + (q - 1) * 2 by omega] at b1 b2
              have hqi : (q : Int) < ((n - k : Nat) : Int) := by omega
              have hq0 : (0 : Int) ≤ (q : Int) - 1 := by omega
              have hq2 : (q : Int) - 1 < ((n - k : Nat) : Int) := by omega
              have hLi : (L : Int) < (n : Int) := by omega
              have hw2 : IntKind.i64.wrap ((q : Int) - 1) = (q : Int) - 1 := by apply IntWalk.i64_in <;> omega
              have HSK := Lib.hid fun (h : ys[k + q]?.getD (0, 0) = ys[k + q - 1]?.getD (0, 0)) => HCA.out.skip (by omega) h
              have HPT := Lib.hid fun (h : ys[k + q]?.getD (0, 0) ≠ ys[k + q - 1]?.getD (0, 0)) => HCA.out.put (by rw [HN.out]; exact hkq) h
              rw [← HL.out] at HPT
              generalize ys[k + q]?.getD (0, 0) = x at *
              generalize ys[k + q - 1]?.getD (0, 0) = y at *
              generalize (zs[L]?.getD (0, 0)).1 = z1 at *
              generalize (zs[L]?.getD (0, 0)).2 = z2 at *
              obtain ⟨x1, x2⟩ := x
              obtain ⟨y1, y2⟩ := y
              simp only at a1 a2 b1 b2
              clear how
              by_cases h1 : x1 = y1
              · subst h1
                by_cases h3 : x2 = y2
                · subst h3
                  have HV := Lib.hid (HSK.out rfl)
                  clear HSK HPT
                  go_wp2_with fail
                  refine wp_region_bext (by kernel_rfl) (by kernel_rfl) ?_
                  repeat (any_goals (go_big_quiet_step (fail)))
                  all_goals refine wpQuiet_nil ?_
                  all_goals rintro _ ⟨δ, rfl⟩
                  have HX7 := Lib.hid (show Ext wr δ.wd from ⟨δ, rfl⟩)
                  generalize δ.wd = W7 at *
                  go_wp2_with fail
                  go_roundw
                  case rel => exact ⟨q + 1, zs, ⟨by omega, by omega⟩, by go_num, HV.out.1, by rw [show k + (q + 1) = k + q + 1 by omega, HV.out.2, ← HL.out], HOW.out.ext HX7.out, HB.out.ext HX7.out⟩
                  case measure => simp [intOf]; omega
                · have hb : (x2 != y2) = true := by simpa using h3
                  have hb' : (x2 == y2) = false := by simpa using h3
                  have HV := Lib.hid (HPT.out (fun e => h3 (by cases e; rfl)))
                  clear HSK HPT h3
                  go_wp2_with fail
                  refine wp_region_bext (by kernel_rfl) (by kernel_rfl) ?_
                  repeat (any_goals (go_big_quiet_step (fail)))
                  all_goals refine wpQuiet_nil ?_
                  all_goals rintro _ ⟨δ, rfl⟩
                  have HX7 := Lib.hid (show Ext wr δ.wd from ⟨δ, rfl⟩)
                  replace a1 := HX7.out.cell_some a1
                  replace a2 := HX7.out.cell_some a2
                  have f1 := HX7.out.frozen e1 (hfz _)
                  have f2 := HX7.out.frozen e2 (hfz _)
                  replace e1 := HX7.out.cell_some e1
                  replace e2 := HX7.out.cell_some e2
                  have le := cell_lt e1
                  generalize δ.wd = W7 at *
                  clear b1 b2 hgw hfz
                  go_wp2_with fail
                  go_roundw
                  case rel => exact ⟨q + 1, _, ⟨by omega, by omega⟩, by go_num, HV.out.1, by rw [show k + (q + 1) = k + q + 1 by omega, HV.out.2]; go_num, (HOW.out.ext HX7.out).put2N HZL.out (show L < n by omega) rfl (x1, x2) (.int .i64 x1) (.int .i64 x2) rfl, ((HB.out.ext HX7.out).setCell (by simp) _).setCell (by simp) _⟩
                  case measure => simp [intOf]; omega
              · have hb : (x1 != y1) = true := by simpa using h1
                have hb' : (x1 == y1) = false := by simpa using h1
                have HV := Lib.hid (HPT.out (fun e => h1 (by cases e; rfl)))
                clear HSK HPT h1
                go_wp2_with fail
                refine wp_region_bext (by kernel_rfl) (by kernel_rfl) ?_
                repeat (any_goals (go_big_quiet_step (fail)))
                all_goals refine wpQuiet_nil ?_
                all_goals rintro _ ⟨δ, rfl⟩
                have HX7 := Lib.hid (show Ext wr δ.wd from ⟨δ, rfl⟩)
                replace a1 := HX7.out.cell_some a1
                replace a2 := HX7.out.cell_some a2
                have f1 := HX7.out.frozen e1 (hfz _)
                have f2 := HX7.out.frozen e2 (hfz _)
                replace e1 := HX7.out.cell_some e1
                replace e2 := HX7.out.cell_some e2
                have le := cell_lt e1
                generalize δ.wd = W7 at *
                clear b1 b2 hgw hfz
                go_wp2_with fail
                go_roundw
                case rel => exact ⟨q + 1, _, ⟨by omega, by omega⟩, by go_num, HV.out.1, by rw [show k + (q + 1) = k + q + 1 by omega, HV.out.2]; go_num, (HOW.out.ext HX7.out).put2N HZL.out (show L < n by omega) rfl (x1, x2) (.int .i64 x1) (.int .i64 x2) rfl, ((HB.out.ext HX7.out).setCell (by simp) _).setCell (by simp) _⟩
                case measure => simp [intOf]; omega
            · have hqe : k + q = n := by omega
              obtain ⟨vs, hcl⟩ := run_clear_shades wr g (L * 2) (n - L) (c - L) (by omega) (fun j hj => by
                have h1 := own_at2 how HZL.out (show L + j / 2 < n by omega)
                rcases (by omega : j % 2 = 0 ∨ j % 2 = 1) with h | h
                · rw [show L * 2 + j = (L + j / 2) * 2 by omega, h1.1.1]; rfl
                · rw [show L * 2 + j = (L + j / 2) * 2 + 1 by omega, h1.1.2]; rfl) hfz
              have HF := Lib.hid (show shadeK.Is (wr.setCells g (L * 2) vs) (.slice (some ⟨g, 0, none⟩) L c) (cmpTo ys n) from by
                have h1 := is_take how HZL.out (show L ≤ n by omega)
                rw [HL.out, HCA.out.head, ← HL.out, hqe] at h1
                exact is_cleared h1 (Nat.le_refl _) hgw)
              have HB2 := Lib.hid (show But [g] w (wr.setCells g (L * 2) vs) from HB.out.trans but_setCells)
              have hqi : ¬ (q : Int) < ((n - k : Nat) : Int) := by omega
              have hLi : (L : Int) ≤ (n : Int) := by omega
              have hLc : (L : Int) ≤ (c : Int) := by omega
              clear how hfz hqe
              go_wp2_with fail
              go_ret
              exact ⟨L, rfl, HF.out, HB2.out⟩
        · have hb : (x2 == y2) = false := by simpa using h3
          have HN2 := Lib.hid (HNX.out (fun e => h3 (by cases e; rfl)))
          clear HST HNX h3
          go_wp2_with fail
          refine wp_region_bext (by kernel_rfl) (by kernel_rfl) ?_
          repeat (any_goals (go_big_quiet_step (fail)))
          all_goals refine wpQuiet_nil ?_
          all_goals rintro _ ⟨δ, rfl⟩
          have HX6 := Lib.hid (HX.out.trans (show Ext wr δ.wd from ⟨δ, rfl⟩))
          generalize δ.wd = W6 at *
          go_wp2_with fail
          go_roundw
          case rel => exact ⟨k + 1, ⟨by omega, by omega⟩, by go_num, HN2, HX6.out⟩
          case measure => simp [intOf]; omega
      · have hb : (x1 == y1) = false := by simpa using h1
        have HN2 := Lib.hid (HNX.out (fun e => h1 (by cases e; rfl)))
        clear HST HNX h1
        go_wp2_with fail
        refine wp_region_bext (by kernel_rfl) (by kernel_rfl) ?_
        repeat (any_goals (go_big_quiet_step (fail)))
        all_goals refine wpQuiet_nil ?_
        all_goals rintro _ ⟨δ, rfl⟩
        have HX6 := Lib.hid (HX.out.trans (show Ext wr δ.wd from ⟨δ, rfl⟩))
        generalize δ.wd = W6 at *
        go_wp2_with fail
        go_roundw
        case rel => exact ⟨k + 1, ⟨by omega, by omega⟩, by go_num, HN2, HX6.out⟩
        case measure => simp [intOf]; omega
    · obtain rfl : k = n := by omega
      have HF := Lib.hid (show shadeK.Is wr (.slice (some ⟨g, 0, none⟩) k c) (cmpTo ys k) from by
        have hn := HN.out
        rw [cmpTo_all (by omega) HA.out, ← hn, List.take_length]
        have := (HO.out.ext hx).is
        rwa [← hn] at this)
      clear hx
      go_wp2_with fail
      go_ret
      exact ⟨k, rfl, HF.out, (But.refl _ _).ext HX.out⟩
end
section
/- LReadD: What light.Read reads: the definitions. No condition. -/
section
def ltS (a b : Int × Int) : Prop := a.1 * b.2 < b.1 * a.2
def leS (a b : Int × Int) : Prop := a.1 * b.2 ≤ b.1 * a.2
/-- The least and the greatest of the first j shades (and of the first one). -/
def lowTo (xs : List (Int × Int)) : Nat → Int × Int
  | 0 => xs[0]?.getD (0, 1)
  | j + 1 => if compareOf (xs[j]?.getD (0, 1)).1 (xs[j]?.getD (0, 1)).2 (lowTo xs j).1 (lowTo xs j).2 < 0 then xs[j]?.getD (0, 1) else lowTo xs j
def highTo (xs : List (Int × Int)) : Nat → Int × Int
  | 0 => xs[0]?.getD (0, 1)
  | j + 1 => if 0 < compareOf (xs[j]?.getD (0, 1)).1 (xs[j]?.getD (0, 1)).2 (highTo xs j).1 (highTo xs j).2 then xs[j]?.getD (0, 1) else highTo xs j
def lowS (xs : List (Int × Int)) : Int × Int := lowTo xs xs.length
def highS (xs : List (Int × Int)) : Int × Int := highTo xs xs.length
def oneOf (xs : List (Int × Int)) (x : Int × Int) : Bool := x == lowS xs || x == highS xs
def twoB (xs : List (Int × Int)) : Bool := !(lowS xs == highS xs) && xs.all (oneOf xs)
def readE (xs : List (Int × Int)) : Int := if 576 < xs.length then 4 else if xs.all fracS then (if xs.length ≠ 0 ∧ twoB xs = true then 0 else 6) else 2
def readL (xs : List (Int × Int)) : List Bool := if readE xs = 0 then xs.map (· == highS xs) else []
end
end
section
theorem leS_trans {a b c : Int × Int} (ha : FracIs a.1 a.2) (hb : FracIs b.1 b.2) (hc : FracIs c.1 c.2) (h1 : leS a b) (h2 : leS b c) : leS a c :=
  le_trans3 (by have := ha.d1; omega) (by have := hb.d1; omega) (by have := hc.d1; omega) h1 h2
theorem leS_eq {a b : Int × Int} (ha : FracIs a.1 a.2) (hb : FracIs b.1 b.2) (h1 : leS a b) (h2 : leS b a) : a = b := by
  have := frac_eq ha hb (Int.le_antisymm h1 h2)
  exact Prod.ext this.1 this.2
theorem leS_total (a b : Int × Int) : ltS a b ∨ leS b a := by
  unfold ltS leS
  omega
theorem at_mem {xs : List (Int × Int)} {j : Nat} (h : j < xs.length) : xs[j]?.getD (0, 1) ∈ xs := by
  rw [List.getElem?_eq_getElem h]
  exact List.getElem_mem h
theorem low_spec {xs : List (Int × Int)} (hx : ∀ x ∈ xs, FracIs x.1 x.2) (h0 : 0 < xs.length) : ∀ {j : Nat}, j ≤ xs.length → lowTo xs j ∈ xs ∧ ∀ i, i < j → leS (lowTo xs j) (xs[i]?.getD (0, 1))
  | 0, _ => ⟨at_mem h0, fun i h => by omega⟩
  | j + 1, hj => by
    obtain ⟨h1, h2⟩ := low_spec hx h0 (j := j) (by omega)
    have hm := at_mem (xs := xs) (j := j) (by omega)
    have hc := compare_frac (hx _ hm) (hx _ h1)
    unfold lowTo
    split
    · rename_i hlt
      have hl : ltS (xs[j]?.getD (0, 1)) (lowTo xs j) := by
        rw [hc] at hlt
        unfold ltS
        split at hlt
        · assumption
        · split at hlt <;> omega
      refine ⟨hm, fun i hi => ?_⟩
      rcases (by omega : i < j ∨ i = j) with h | rfl
      · exact leS_trans (hx _ hm) (hx _ h1) (hx _ (at_mem (by omega))) (Int.le_of_lt hl) (h2 i h)
      · exact Int.le_refl _
    · rename_i hlt
      have hl : leS (lowTo xs j) (xs[j]?.getD (0, 1)) := by
        rw [hc] at hlt
        unfold leS
        split at hlt
        · omega
        · omega
      refine ⟨h1, fun i hi => ?_⟩
      rcases (by omega : i < j ∨ i = j) with h | rfl
      · exact h2 i h
      · exact hl
theorem high_spec {xs : List (Int × Int)} (hx : ∀ x ∈ xs, FracIs x.1 x.2) (h0 : 0 < xs.length) : ∀ {j : Nat}, j ≤ xs.length → highTo xs j ∈ xs ∧ ∀ i, i < j → leS (xs[i]?.getD (0, 1)) (highTo xs j)
  | 0, _ => ⟨at_mem h0, fun i h => by omega⟩
  | j + 1, hj => by
    obtain ⟨h1, h2⟩ := high_spec hx h0 (j := j) (by omega)
    have hm := at_mem (xs := xs) (j := j) (by omega)
    have hc := compare_frac (hx _ hm) (hx _ h1)
    unfold highTo
    split
    · rename_i hlt
      have hl : ltS (highTo xs j) (xs[j]?.getD (0, 1)) := by
        rw [hc] at hlt
        unfold ltS
        split at hlt
        · omega
        · split at hlt
          · assumption
          · omega
      refine ⟨hm, fun i hi => ?_⟩
      rcases (by omega : i < j ∨ i = j) with h | rfl
      · exact leS_trans (hx _ (at_mem (by omega))) (hx _ h1) (hx _ hm) (h2 i h) (Int.le_of_lt hl)
      · exact Int.le_refl _
    · rename_i hlt
      have hl : leS (xs[j]?.getD (0, 1)) (highTo xs j) := by
        rw [hc] at hlt
        unfold leS
        split at hlt
        · omega
        · split at hlt <;> omega
      refine ⟨h1, fun i hi => ?_⟩
      rcases (by omega : i < j ∨ i = j) with h | rfl
      · exact h2 i h
      · exact hl
theorem low_le {xs : List (Int × Int)} (hx : ∀ x ∈ xs, FracIs x.1 x.2) (h0 : 0 < xs.length) : lowS xs ∈ xs ∧ ∀ x ∈ xs, leS (lowS xs) x := by
  obtain ⟨h1, h2⟩ := low_spec hx h0 (Nat.le_refl _)
  refine ⟨h1, fun x hm => ?_⟩
  obtain ⟨i, hi, rfl⟩ := List.getElem_of_mem hm
  have := h2 i hi
  rwa [List.getElem?_eq_getElem hi] at this
theorem high_le {xs : List (Int × Int)} (hx : ∀ x ∈ xs, FracIs x.1 x.2) (h0 : 0 < xs.length) : highS xs ∈ xs ∧ ∀ x ∈ xs, leS x (highS xs) := by
  obtain ⟨h1, h2⟩ := high_spec hx h0 (Nat.le_refl _)
  refine ⟨h1, fun x hm => ?_⟩
  obtain ⟨i, hi, rfl⟩ := List.getElem_of_mem hm
  have := h2 i hi
  rwa [List.getElem?_eq_getElem hi] at this

theorem cmpTo_mem {ys : List (Int × Int)} {x : Int × Int} : ∀ {j : Nat}, j ≤ ys.length → (x ∈ cmpTo ys j ↔ x ∈ ys.take j)
  | 0, _ => by simp [cmpTo]
  | j + 1, hj => by
    have ih := cmpTo_mem (x := x) (j := j) (ys := ys) (by omega)
    rw [take_snoc (d := (0, 0)) (by omega), List.mem_append, ← ih, List.mem_singleton, show cmpTo ys (j + 1) = if j = 0 ∨ ys[j]?.getD (0, 0) ≠ ys[j - 1]?.getD (0, 0) then cmpTo ys j ++ [ys[j]?.getD (0, 0)] else cmpTo ys j from rfl]
    split
    · rw [List.mem_append, List.mem_singleton]
    · rename_i h
      have h1 : j ≠ 0 := fun e => h (.inl e)
      have h2 : ys[j]?.getD (0, 0) = ys[j - 1]?.getD (0, 0) := Decidable.byContradiction fun e => h (.inr e)
      refine ⟨.inl, fun hh => hh.elim id fun e => ?_⟩
      rw [ih, e, h2, List.mem_iff_getElem?]
      refine ⟨j - 1, ?_⟩
      rw [List.getElem?_take_of_lt (by omega), List.getElem?_eq_getElem (by omega)]
      rfl
theorem cmpTo_strict {ys : List (Int × Int)} (hs : SortedS ys) (hx : ∀ x ∈ ys, FracIs x.1 x.2) : ∀ {j : Nat}, j ≤ ys.length → (cmpTo ys j).Pairwise ltS
  | 0, _ => List.Pairwise.nil
  | j + 1, hj => by
    have ih := cmpTo_strict hs hx (j := j) (by omega)
    unfold cmpTo
    split
    · rename_i h
      rw [List.pairwise_append]
      refine ⟨ih, List.pairwise_singleton _ _, fun c hc y hy => ?_⟩
      rw [List.mem_singleton.1 hy]
      rw [cmpTo_mem (by omega)] at hc
      obtain ⟨i, hi⟩ := List.mem_iff_getElem?.1 hc
      have hij : i < j := by
        have := (List.getElem?_eq_some_iff.1 hi).1
        rw [List.length_take] at this
        omega
      rw [List.getElem?_take_of_lt hij] at hi
      obtain ⟨hil, rfl⟩ := List.getElem?_eq_some_iff.1 hi
      have hne : ys[j]?.getD (0, 0) ≠ ys[j - 1]?.getD (0, 0) := h.resolve_left (by omega)
      rw [List.getElem?_eq_getElem (show j < ys.length by omega), List.getElem?_eq_getElem (show j - 1 < ys.length by omega)] at hne
      rw [List.getElem?_eq_getElem (show j < ys.length by omega)]
      simp only [Option.getD_some] at hne ⊢
      unfold SortedS at hs
      rw [List.pairwise_iff_getElem] at hs
      have hle : ∀ a b (ha : a < ys.length) (hb : b < ys.length), a ≤ b → leS ys[a] ys[b] := fun a b ha hb hab => by
        rcases Nat.lt_or_ge a b with h | h
        · exact hs a b ha hb h
        · obtain rfl : a = b := by omega
          exact Int.le_refl _
      rcases leS_total ys[i] ys[j] with h1 | h1
      · exact h1
      · exfalso
        apply hne
        refine leS_eq (hx _ (List.getElem_mem _)) (hx _ (List.getElem_mem _)) ?_ (hle (j - 1) j (by omega) (by omega) (by omega))
        exact leS_trans (hx _ (List.getElem_mem _)) (hx _ (List.getElem_mem _)) (hx _ (List.getElem_mem _)) h1 (hle i (j - 1) (by omega) (by omega) (by omega))
    · exact ih
/-- What is compact has two elements just if there are two shades; the second one is the greater one. -/
theorem read_two {xs ys : List (Int × Int)} (hp : ys.Perm xs) (hs : SortedS ys) (hx : ∀ x ∈ xs, FracIs x.1 x.2) (h0 : 0 < xs.length) :
    ((cmpTo ys ys.length).length = 2 ↔ twoB xs = true) ∧ ((cmpTo ys ys.length).length = 2 → (cmpTo ys ys.length)[1]? = some (highS xs)) := by
  have hy : ∀ x ∈ ys, FracIs x.1 x.2 := fun x h => hx x (hp.mem_iff.1 h)
  have hst := cmpTo_strict hs hy (Nat.le_refl _)
  have hm : ∀ x, x ∈ cmpTo ys ys.length ↔ x ∈ xs := fun x => by rw [cmpTo_mem (Nat.le_refl _), List.take_length, hp.mem_iff]
  obtain ⟨l1, l2⟩ := low_le hx h0
  obtain ⟨g1, g2⟩ := high_le hx h0
  generalize cmpTo ys ys.length = C at *
  have hab : C.length = 2 → ∃ a b, C = [a, b] ∧ lowS xs = a ∧ highS xs = b ∧ ltS a b := fun h => by
    obtain ⟨a, b, rfl⟩ := len_two h
    have hlt : ltS a b := by
      rw [List.pairwise_cons] at hst
      exact hst.1 b (by simp)
    have hma : a ∈ xs := (hm a).1 (by simp)
    have hmb : b ∈ xs := (hm b).1 (by simp)
    refine ⟨a, b, rfl, ?_, ?_, hlt⟩
    · have := (hm _).2 l1
      simp only [List.mem_cons, List.not_mem_nil, or_false] at this
      rcases this with h | h
      · exact h
      · have := l2 a hma
        rw [h] at this
        unfold leS ltS at *
        omega
    · have := (hm _).2 g1
      simp only [List.mem_cons, List.not_mem_nil, or_false] at this
      rcases this with h | h
      · have := g2 b hmb
        rw [h] at this
        unfold leS ltS at *
        omega
      · exact h
  constructor
  · constructor
    · intro h
      obtain ⟨a, b, rfl, h1, h2, h3⟩ := hab h
      unfold twoB
      rw [Bool.and_eq_true, Bool.not_eq_true', beq_eq_false_iff_ne, List.all_eq_true]
      refine ⟨?_, fun x hxm => ?_⟩
      · rw [h1, h2]
        rintro rfl
        unfold ltS at h3
        omega
      · have := (hm x).2 hxm
        unfold oneOf
        rw [h1, h2]
        simpa using this
    · intro h
      unfold twoB at h
      rw [Bool.and_eq_true, Bool.not_eq_true', beq_eq_false_iff_ne, List.all_eq_true] at h
      obtain ⟨h1, h2⟩ := h
      have hnd : C.Nodup := by
        rw [List.nodup_iff_pairwise_ne]
        refine hst.imp fun {a b} hab e => ?_
        subst e
        unfold ltS at hab
        omega
      have h3 : C.length ≤ 2 := List.Nodup.length_le_of_subset (l₂ := [lowS xs, highS xs]) hnd fun x hxm => by
        have := h2 x ((hm x).1 hxm)
        unfold oneOf at this
        simpa using this
      have h4 : 2 ≤ C.length := List.Nodup.length_le_of_subset (l₁ := [lowS xs, highS xs]) (by simpa using h1) fun x hxm => by
        simp only [List.mem_cons, List.not_mem_nil, or_false] at hxm
        rcases hxm with rfl | rfl
        · exact (hm _).2 l1
        · exact (hm _).2 g1
      omega
  · intro h
    obtain ⟨a, b, rfl, h1, h2, h3⟩ := hab h
    rw [h2]
    rfl
end
end Go.Proofs.Ytkjgcmdabelohaa
