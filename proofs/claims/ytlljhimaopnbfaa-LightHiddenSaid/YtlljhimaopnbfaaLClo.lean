/- slices.Clone and slices.ContainsFunc over shades, as light.Read calls them; what is a shade in lowest terms. Condition: the slice reads as a list. -/
import Derived.Test.YtlljhimaopnbfaaLOneP
import Derived.Test.YtlljhimaopnbfaaLX
import Derived.Lib.SliceRun
import Derived.Maps.AppendAt
namespace Go.Proofs.Ytlljhimaopnbfaa
open Go.RowKit

section
variable {α : Type} {K : EK α}
theorem EK.Is.flatL {w : World} {ad : Addr} {m c : Nat} {xs : List α} (h : K.Is w (.slice (some ad) m c) xs) : ∀ j u, (xs.flatMap K.enc)[j]? = some u → w.cell? (ad.add j) = some u := by
  intro j u hj
  obtain ⟨A, c', he, _, _, hr⟩ := h
  simp only [Value.slice.injEq] at he
  obtain ⟨rfl, rfl, rfl⟩ := he
  have hp := K.pos
  have hlt : j < xs.length * K.k := by
    rw [← flat_len K xs]
    exact (List.getElem?_eq_some_iff.1 hj).1
  have hq : j / K.k < xs.length := Nat.div_lt_of_lt_mul (by rw [Nat.mul_comm]; exact hlt)
  have hi : j % K.k < K.k := Nat.mod_lt _ hp
  have hj' : j / K.k * K.k + j % K.k = j := by rw [Nat.mul_comm]; exact Nat.div_add_mod j K.k
  obtain ⟨b, o, hA, _, hc⟩ := hr (j / K.k) hq
  simp only [Option.some.injEq] at hA
  subst hA
  rw [← hj', flat_at K xs _ hq _ hi] at hj
  have := hc _ _ hj
  rw [Nat.add_assoc, hj'] at this
  simp only [Addr.add]
  split
  · rename_i h0
    subst h0
    exact this
  · exact this

theorem EK.appAllL {w : World} {ops : Array Oper} {rest : List Oper} {o : Oper} {a : Act} {Q : Exit → Act → World → Prop} (hgd : o.guard = none) (s x : Operand)
    (ho : o.op = .call { callee := .builtin .append, args := #[s, x], argTypes := #[K.st, K.st] })
    {B : Nat} {v : Value} {xs ys : List α} {A : Option Addr} {m c : Nat} (hs : a.eval s = v) (hx : a.eval x = .slice A m c)
    (hu : K.Is w (.slice A m c) ys) (hown : K.Own B w v xs) (hB : B ≤ w.heap.size) (hlen : xs.length + ys.length ≤ 1000000000)
    (h : ∀ v' w', K.Own B w' v' (xs ++ ys) → Below B w w' → w.grownBy w' v.ownBlock → wpList Try.prog ops Q rest (a.put o.dst v') w') : wpList Try.prog ops Q (o :: rest) a w := by
  obtain ⟨i0, hi, hz0, hz1, hz2⟩ := info_parts K.info
  have hsm := K.small
  have hm : m = ys.length := by
    obtain ⟨_, _, he, _⟩ := hu
    simp only [Value.slice.injEq] at he
    exact he.2.1
  match A with
  | none =>
    obtain ⟨A', c', he, h0, _, hr⟩ := hu
    simp only [Value.slice.injEq] at he
    obtain ⟨rfl, -, rfl⟩ := he
    have hy : ys = [] := by
      rcases ys with _ | ⟨y, ys⟩
      · rfl
      · obtain ⟨_, _, he, _⟩ := hr 0 (by simp)
        cases he
    subst hy
    obtain rfl := h0 rfl
    subst hm
    refine wpList_append_own_none hgd s x K.st ho B K.ty i0 K.k K.und hi v _ _ hs hown hx (h v w (by simpa using hown) (Below.refl B w) ⟨rfl, rfl, rfl, Nat.le_refl _, fun _ _ _ => rfl⟩)
  | some ad =>
    have hf := hu.flatL
    refine wpList_append_own w hgd s x K.st ho B K.ty i0 K.z K.k K.bytes K.und hi hz0 hz1 hz2 K.hzs K.pos v _ _ hs hown ad m c (ys.flatMap K.enc) hx (by rw [flat_len, hm]) hf (fun u hu => ?_) (by simp only [maxLen]; omega) ?_ hB (fun v' w' h1 h2 _ => h v' w' (by simpa [EK.Own, hm] using h1) ?_ h2)
    · obtain ⟨y, _, hy⟩ := List.mem_flatMap.1 hu
      exact K.one y u hy
    · exact Nat.le_trans (Nat.mul_le_mul (show xs.length + m ≤ 1000000000 by omega) hsm) (by decide)
    · exact (Below.refl B w).grown h2 hB fun k hk => (World.ownsRow.lt hown k hk).1

end

/-- A shade in lowest terms. -/
def fracB (n d : Int) : Bool := shapedB n d && decide (Int.gcd n d = 1)
theorem fracB_iff {n d : Int} : fracB n d = true ↔ FracIs n d := by
  unfold fracB
  rw [Bool.and_eq_true, shapedB_iff, decide_eq_true_eq]
  exact ⟨fun ⟨⟨⟨h1, h2⟩, h3, h4⟩, h5⟩ => ⟨h3, h4, h1, h2, h5⟩, fun h => ⟨⟨⟨h.d1, h.d2⟩, h.n0, h.nd⟩, h.g⟩⟩
def fracS (s : Int × Int) : Bool := fracB s.1 s.2

set_option maxHeartbeats 1000000 in
theorem clone_any (v : Value) (xs : List (Int × Int)) (w : World) (hI : shadeK.Is w v xs) (hl : xs.length ≤ 1000000) :
    Calls Try.prog 96 #[v] w fun e w' => ∃ u, e = .returned u ∧ shadeK.Own w.heap.size w' u xs ∧ Ext w w' := by
  have HI := Lib.hid hI
  obtain ⟨A, n, c, rfl, hn, h0, hr, hm⟩ := hI.open_
  have he : ∀ w : World, (binOp .eql 57 (.slice A n c) (.slice none 0 0)).run Try.prog w = .ok (.bool A.isNone) w := fun w => Lib.run_eql_slice_nil w _ _ A n c 0 0 Try.underlying57
  cases A with
  | none =>
    have hx0 : xs = [] := by
      cases xs with
      | nil => rfl
      | cons x xs =>
        obtain ⟨_, _, hA, _⟩ := hr 0 (by simp)
        cases hA
    subst hx0
    simp only [Option.isNone_none] at he
    clear hI hr h0
    go_enter Try.func96, Try.ntmps96
    go_wp2_with fail
    go_ret
    exact ⟨_, rfl, EK.Own.nil _ _, by (repeat' (first | with_reducible exact Ext.refl _ | with_reducible apply Ext.alloc | with_reducible apply Ext.drew | with_reducible apply Ext.drewN | with_reducible refine Ext.setCell ?_ ?_ _ | with_reducible apply Ext.step | with_reducible assumption | with_reducible exact Nat.le_refl _ | (simp; done) | (simp; omega)))⟩
  | some ad =>
    simp only [Option.isNone_some] at he
    have HM := Lib.hid (EK.Own.lit (K := shadeK) (B := w.heap.size) w #[] [] rfl (Nat.le_refl _) (by decide))
    have HU := Lib.hid (HI.out.ext ((Ext.refl w).alloc (.cells #[] 27)))
    have HBB := Lib.hid (show w.heap.size ≤ (w.alloc (.cells #[] 27)).heap.size by simp)
    have HZ := Lib.hid (show ([] : List (Int × Int)).length + xs.length ≤ 1000000000 by rw [List.length_nil]; omega)
    clear hI hr h0 hn
    go_enter Try.func96, Try.ntmps96
    go_wp2_with (at_builtin; refine EK.appAllL (K := shadeK) rfl (.tmp 5) (.tmp 6) rfl rfl rfl HU.out HM.out HBB.out HZ.out ?_; intro v1 w1 o1 b1 _; have HO1 := Lib.hid o1; have HB1 := Lib.hid b1; clear o1 b1)
    go_ret
    exact ⟨_, rfl, by simpa using HO1.out, ((Ext.refl w).alloc _).below HB1.out (Nat.le_refl _)⟩

set_option maxHeartbeats 1000000 in
theorem read1_any (n d : Int) (w : World) :
    Calls Try.prog 94 #[shadeV n d] w fun e w' => e = .returned (.bool (!fracB n d)) ∧ Ext w w' := by
  have HS := Lib.hid fun W : World => shaped_any n d W
  cases h1 : shapedB n d
  · have HV := Lib.hid (show (!fracB n d) = true by unfold fracB; rw [h1]; rfl)
    rw [h1] at HS
    clear h1
    go_enter Try.func94, Try.ntmps94
    go_wp2_with fail
    refine (HS.out _).mono ?_
    rintro e w1 ⟨rfl, x1⟩
    have HX1 := Lib.hid (show Ext w w1 from Ext.trans (by (repeat' (first | with_reducible exact Ext.refl _ | with_reducible apply Ext.alloc | with_reducible apply Ext.drew | with_reducible apply Ext.drewN | with_reducible refine Ext.setCell ?_ ?_ _ | with_reducible apply Ext.step | with_reducible assumption | with_reducible exact Nat.le_refl _ | (simp; done) | (simp; omega)))) x1)
    clear x1
    go_wp2_with fail
    go_ret
    exact ⟨ret_b HV.out.symm, HX1.out⟩
  · obtain ⟨⟨d1, d2⟩, n1, n2⟩ := shapedB_iff.1 h1
    have HD := Lib.hid fun W : World => divisor_any n d W (by omega) (by omega) (by omega) (by omega)
    have HV := Lib.hid (show (!fracB n d) = !decide (Int.gcd n d = 1) by unfold fracB; rw [h1]; rfl)
    rw [h1] at HS
    generalize Int.gcd n d = gg at *
    have hgb : ((gg : Int) != 1) = !decide (gg = 1) := by
      by_cases h : gg = 1
      · subst h; rfl
      · rw [decide_eq_false h]; simp; omega
    clear h1
    go_enter Try.func94, Try.ntmps94
    go_wp2_with fail
    refine (HS.out _).mono ?_
    rintro e w1 ⟨rfl, x1⟩
    have HX1 := Lib.hid (show Ext w w1 from Ext.trans (by (repeat' (first | with_reducible exact Ext.refl _ | with_reducible apply Ext.alloc | with_reducible apply Ext.drew | with_reducible apply Ext.drewN | with_reducible refine Ext.setCell ?_ ?_ _ | with_reducible apply Ext.step | with_reducible assumption | with_reducible exact Nat.le_refl _ | (simp; done) | (simp; omega)))) x1)
    have c0 : w1.cell? ⟨w.heap.size, 0, none⟩ = some (.int .i64 n) := x1.cell_some (by go_cell)
    have c1 : w1.cell? ⟨w.heap.size, 1, none⟩ = some (.int .i64 d) := x1.cell_some (by go_cell)
    have l0 := cell_lt c0
    clear x1
    go_wp2_with fail
    refine (HD.out _).mono ?_
    rintro e w2 ⟨rfl, x2⟩
    have HX2 := Lib.hid (HX1.out.trans x2)
    clear x2 c0 c1 l0
    by_cases hg1 : gg = 1
    · subst hg1
      go_wp2_with fail
      go_ret
      exact ⟨ret_b (by rw [HV.out]; rfl), HX2.out⟩
    · have hgb2 : ((gg : Int) != 1) = true := by simp; omega
      have HV2 := Lib.hid (show (!fracB n d) = true by rw [HV.out, decide_eq_false hg1]; rfl)
      clear hgb
      go_wp2_with fail
      go_ret
      exact ⟨ret_b HV2.out.symm, HX2.out⟩

def IxR (xs : List (Int × Int)) (w : World) (e : Ending) (w' : World) : Prop := ∃ i : Int, e = .returned (.int .i64 i) ∧ decide (0 ≤ i) = !xs.all fracS ∧ Ext w w'

set_option maxHeartbeats 1000000 in
theorem indexRead_any (v : Value) (xs : List (Int × Int)) (w : World) (hI : shadeK.Is w v xs) :
    Calls Try.prog 120 #[v, .func (.func 94) #[] #[]] w (IxR xs w) := by
  have HI := Lib.hid hI
  obtain ⟨A, n, c, rfl, hn, _, hr, hm⟩ := hI.open_
  have HN := Lib.hid hn
  have HR := Lib.hid hr
  clear hI hr hn
  go_enter Try.func120, Try.ntmps120
  go_wp2_with fail
  go_loopw [8, 5] (fun i _ wr => ∃ j : Nat, j ≤ n ∧ i = .int .i64 j ∧ Hid ((xs.take j).all fracS = true) ∧ Ext w wr) (fun i _ _ => n - (intOf i).toNat)
  case atStart => exact ⟨0, by omega, rfl, Lib.hid rfl, Ext.refl _⟩
  case round =>
    obtain ⟨j, hj, rfl, HA, hx⟩ := hrel
    have HX := Lib.hid hx
    by_cases hlt : j < n
    · have hjl : j < xs.length := by rw [HN.out]; exact hlt
      obtain ⟨b, o, rfl, hb, hc⟩ := HR.out j hjl
      have h0 := hx.cell_some (hc 0 _ rfl)
      have h1 := hx.cell_some (hc 1 _ rfl)
      simp only [shadeK, Nat.add_zero] at h0 h1
      have HTK := Lib.hid (show (xs.take (j + 1)).all fracS = fracB xs[j].1 xs[j].2 by
        rw [List.take_succ_eq_append_getElem hjl, List.all_append, HA.out, Bool.true_and]
        simp [fracS])
      have HNO := Lib.hid fun (h : fracB xs[j].1 xs[j].2 = false) => (show xs.all fracS = false from List.all_eq_false.2 ⟨xs[j], List.getElem_mem hjl, by rw [show fracS xs[j] = fracB xs[j].1 xs[j].2 from rfl, h]; exact Bool.false_ne_true⟩)
      generalize xs[j].1 = x1 at *
      generalize xs[j].2 = x2 at *
      have l0 := cell_lt h0
      have HRD := Lib.hid (read1_any x1 x2 wr)
      clear hc hx
      cases hf : fracB x1 x2
      · have HF := Lib.hid (HNO.out hf)
        rw [hf] at HRD
        clear hf HNO HTK
        go_wp2_with (go_at_call 94; refine HRD.out.mono ?_; rintro e w5 ⟨rfl, x5⟩; have HX5 := Lib.hid (HX.out.trans x5); clear x5)
        go_ret
        exact ⟨j, rfl, by rw [HF.out]; simp, HX5.out⟩
      · have HF := Lib.hid (show (xs.take (j + 1)).all fracS = true by rw [HTK.out, hf])
        rw [hf] at HRD
        clear hf HNO HTK
        go_wp2_with (go_at_call 94; refine HRD.out.mono ?_; rintro e w5 ⟨rfl, x5⟩; have HX5 := Lib.hid (HX.out.trans x5); clear x5)
        go_roundw
        case rel => exact ⟨j + 1, by omega, by go_num, HF, HX5.out⟩
        case measure => simp [intOf]; omega
    · obtain rfl : j = n := by omega
      have HF := Lib.hid (show xs.all fracS = true by
        have := HA.out
        rwa [List.take_of_length_le (by rw [HN.out]; exact Nat.le_refl _)] at this)
      clear hx
      go_wp2_with fail
      go_ret
      exact ⟨-1, rfl, by rw [HF.out]; rfl, HX.out⟩

set_option maxHeartbeats 1000000 in
theorem containsRead_any (v : Value) (xs : List (Int × Int)) (w : World) (hI : shadeK.Is w v xs) :
    Calls Try.prog 93 #[v, .func (.func 94) #[] #[]] w fun e w' => e = .returned (.bool (!xs.all fracS)) ∧ Ext w w' := by
  have H := Lib.hid (indexRead_any v xs w hI)
  obtain ⟨A, n, c, rfl, _⟩ := hI.open_
  clear hI
  go_enter Try.func93, Try.ntmps93
  go_wp2_with (go_at_call 120; refine H.out.mono ?_; rintro e w' ⟨i, rfl, hi0, hx⟩; have HX := Lib.hid hx; have HI0 := Lib.hid hi0; clear hi0 hx)
  go_ret
  exact ⟨ret_b HI0.out, HX.out⟩
end Go.Proofs.Ytlljhimaopnbfaa
