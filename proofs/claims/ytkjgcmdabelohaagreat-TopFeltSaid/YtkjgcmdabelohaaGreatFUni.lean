/- read.union: a list of spans in the one form whose spans are in order and do not touch. Condition: the ends are in bounds; there is a span. -/
import Derived.Test.YtkjgcmdabelohaaGreatFSort
import Derived.Test.YtkjgcmdabelohaaGreatPBase
namespace Go.Proofs.YtkjgcmdabelohaaGreat
open Go.RowKit

theorem unionF_succ {ys : List (Int × Int)} {j : Nat} (h : j < ys.length) : unionF (ys.take (j + 1)) = stepU (unionF (ys.take j)) ys[j] := by
  unfold unionF
  rw [List.take_succ_eq_append_getElem h, List.foldl_append]
  rfl
theorem stepU_nil (s : Int × Int) : stepU [] s = [] ++ [s] := rfl
theorem stepU_len (out : List (Int × Int)) (s : Int × Int) : (stepU out s).length ≤ out.length + 1 := by
  unfold stepU
  split
  · simp
  · rename_i u h
    have e := getLast?_split h
    have hl : out.length = out.dropLast.length + 1 := by
      have := congrArg List.length e
      simpa using this
    split
    · rw [List.length_append, List.length_singleton]; omega
    · rw [List.length_append, List.length_singleton]; omega
theorem unionF_len (ys : List (Int × Int)) : ∀ j, (unionF (ys.take j)).length ≤ j
  | 0 => by simp [unionF]
  | j + 1 => by
    have ih := unionF_len ys j
    by_cases h : j < ys.length
    · rw [unionF_succ h]
      have := stepU_len (unionF (ys.take j)) ys[j]
      omega
    · rw [List.take_of_length_le (by omega)]
      rw [List.take_of_length_le (by omega)] at ih
      omega
/-- With a last span: it grows, or another one follows. -/
theorem stepU_last {out : List (Int × Int)} {s : Int × Int} {m : Nat} (hm : out.length = m + 1) : stepU out s =
    if s.1 ≤ (out[m]?.getD (0, 0)).2 + 1 then out.set m ((out[m]?.getD (0, 0)).1, max (out[m]?.getD (0, 0)).2 s.2) else out ++ [s] := by
  have hl : out.getLast? = some (out[m]?.getD (0, 0)) := by
    rw [List.getLast?_eq_getElem?, hm, Nat.add_sub_cancel, List.getElem?_eq_getElem (by omega), Option.getD_some]
  unfold stepU
  rw [hl]
  simp only
  have e := getLast?_split hl
  have hd : out.dropLast.length = m := by rw [List.length_dropLast]; omega
  split
  · generalize out[m]?.getD (0, 0) = u at *
    generalize out.dropLast = ini at *
    subst e
    rw [List.set_append_right _ _ (by omega), hd, Nat.sub_self]
    rfl
  · rfl
/-- Both ends in bounds. -/
def BdT (s : Int × Int) : Prop := (-1000000000000000 ≤ s.1 ∧ s.1 ≤ 1000000000000000) ∧ (-1000000000000000 ≤ s.2 ∧ s.2 ≤ 1000000000000000)
theorem stepU_bd {out : List (Int × Int)} {s : Int × Int} (ho : ∀ u ∈ out, BdT u) (hs : BdT s) : ∀ u ∈ stepU out s, BdT u := by
  unfold stepU
  split
  · intro u hu
    rw [List.mem_singleton] at hu
    subst hu
    exact hs
  · rename_i v h
    have e := getLast?_split h
    have hv : BdT v := ho v (by rw [e]; simp)
    split
    · intro u hu
      rcases List.mem_append.1 hu with h1 | h1
      · exact ho u ((List.dropLast_sublist _).subset h1)
      · rw [List.mem_singleton] at h1
        subst h1
        unfold BdT at *
        simp only
        omega
    · intro u hu
      rcases List.mem_append.1 hu with h1 | h1
      · exact ho u h1
      · rw [List.mem_singleton] at h1
        subst h1
        exact hs
theorem unionF_bd {ys : List (Int × Int)} (h : ∀ s ∈ ys, BdT s) : ∀ j, ∀ u ∈ unionF (ys.take j), BdT u
  | 0 => by simp [unionF]
  | j + 1 => by
    by_cases hj : j < ys.length
    · rw [unionF_succ hj]
      exact stepU_bd (unionF_bd h j) (h _ (List.getElem_mem hj))
    · have := unionF_bd h j
      rw [List.take_of_length_le (by omega)] at this ⊢
      exact this

set_option maxRecDepth 100000 in
set_option maxHeartbeats 8000000 in
theorem union_any (v : Value) (xs : List (Int × Int)) (w : World) (hI : spanK.Is w v xs) (h0 : xs ≠ []) (hb : ∀ s ∈ xs, BdT s) (hl : xs.length ≤ 1000000) :
    Calls Tryz.prog 82 #[v] w fun e w' => ∃ u zs, e = .returned u ∧ spanK.Own w.heap.size w' u zs ∧ (Canon zs ∧ ∀ x, InS zs x ↔ InS xs x) ∧ (zs.length ≤ 1000000 ∧ ∀ s ∈ zs, BdT s) ∧ Ext w w' := by
  have HC := Lib.hid (cloneS_any v xs w hI hl)
  have HB0 := Lib.hid hb
  have HN0 := Lib.hid h0
  have HL0 := Lib.hid hl
  clear hI h0 hb
  go_enter Tryz.func82, Tryz.ntmps82
  go_wp2_with fail
  refine HC.out.mono ?_
  rintro e w1 ⟨u1, rfl, o1, x1⟩
  obtain ⟨g, c, rfl, hg, -, -, -⟩ := o1.slot (j := 0) (List.length_pos_iff.2 HN0.out)
  have HX1 := Lib.hid x1
  have HG := Lib.hid hg
  have HD := Lib.hid (delete_any w.heap.size g xs.length c xs w1 rfl o1 hl)
  clear o1 x1 hg hl
  go_wp2_with fail
  refine HD.out.mono ?_
  rintro e w2 ⟨k, rfl, hk, o2, b2⟩
  have HX2 := Lib.hid (b2.below HX1.out (by intro d hd; rw [List.mem_singleton] at hd; rw [hd]; exact HG.out))
  have HK6 : k ≤ 1000000 := by rw [hk]; exact Nat.le_trans (List.length_filter_le _ _) HL0.out
  have HS := Lib.hid (sortS_any w.heap.size g c (xs.filter okS) w2 (fun x hx => (HB0.out x (List.mem_filter.1 hx).1).1) (by rw [← hk]; exact o2) (by rw [← hk]; exact HK6))
  rw [← hk] at HS
  have HKK := Lib.hid hk
  clear hk o2 b2
  go_wp2_with fail
  refine HS.out.mono ?_
  rintro e w3 ⟨rfl, ys, ⟨hp, hup⟩, o3, b3⟩
  have HX3 := Lib.hid (b3.below HX2.out (by intro d hd; rw [List.mem_singleton] at hd; rw [hd]; exact HG.out))
  have hyl : ys.length = k := by rw [hp.length_eq]; exact HKK.out.symm
  have HYL := Lib.hid hyl
  have HBY := Lib.hid (show ∀ s ∈ ys, BdT s from fun s hs => HB0.out s (List.mem_filter.1 (hp.mem_iff.1 hs)).1)
  have HU := Lib.hid (show Canon (unionF ys) ∧ ∀ x, InS (unionF ys) x ↔ InS xs x from by
    obtain ⟨r1, r2⟩ := union_ok (l := ys) (fun s hs => by have := (List.mem_filter.1 (hp.mem_iff.1 hs)).2; simpa [okS] using this) hup
    exact ⟨r1, fun x => (r2 x).trans ((inS_perm hp).trans inS_filter)⟩)
  have HO3 := Lib.hid o3
  have HW3 := Lib.hid HX3.out.bel.size
  clear hp hup o3 b3 hyl
  go_wp2_with fail
  go_loopw [3, 5, 6, 14] (fun sv _ _ jv wr => ∃ j : Nat, j ≤ k ∧ jv = .int .i64 (j : Int) ∧ spanK.Own w3.heap.size wr sv (unionF (ys.take j)) ∧ Ext w3 wr) (fun _ _ _ jv _ => k - (intOf jv).toNat)
  case atStart => exact ⟨0, by omega, rfl, EK.Own.nil _ _, Ext.refl _⟩
  case round =>
    obtain ⟨j, hj, rfl, ho, hx⟩ := hrel
    obtain ⟨Ao, ko, co, rfl, hko, -⟩ := ho.is.open_
    have HX := Lib.hid hx
    have HO := Lib.hid ho
    have HKO := Lib.hid hko
    by_cases h1 : j < k
    · obtain ⟨⟨a1, a2⟩, -⟩ := spn_at HO3.out HYL.out h1
      have hjy : j < ys.length := by rw [HYL.out]; exact h1
      have HUS := Lib.hid (unionF_succ hjy)
      have HBS := Lib.hid (HBY.out _ (List.getElem_mem hjy))
      rw [List.getElem?_eq_getElem hjy] at a1 a2
      simp only [Option.getD_some] at a1 a2
      have HLL := Lib.hid (show (unionF (ys.take j)).length ≤ 1000000000 from Nat.le_trans (unionF_len ys j) (by omega))
      have HSE := Lib.hid (show ys[j] = (ys[j].1, ys[j].2) from rfl)
      generalize ys[j] = s at *
      obtain ⟨s1, s2⟩ := s
      simp only at a1 a2
      replace a1 := hx.cell_some a1
      replace a2 := hx.cell_some a2
      have la := cell_lt a1
      have hji : (j : Int) < (k : Int) := by omega
      have HBL := Lib.hid (unionF_bd HBY.out j)
      by_cases hk0 : ko = 0
      · subst hk0
        have HV := Lib.hid (show unionF (ys.take (j + 1)) = unionF (ys.take j) ++ [(s1, s2)] by rw [HUS.out, List.length_eq_zero_iff.1 HKO.out]; rfl)
        clear hx ho hko
        go_wp2_with fail
        refine wp_region_bext (by kernel_rfl) (by kernel_rfl) ?_
        repeat (any_goals (go_big_quiet_step (fail)))
        all_goals refine wpQuiet_nil ?_
        all_goals rintro _ ⟨δ, rfl⟩
        have HX6 := Lib.hid (show Ext wr δ.wd from Ext.trans (by (repeat' (first | with_reducible exact Ext.refl _ | with_reducible apply Ext.alloc | with_reducible apply Ext.drew | with_reducible apply Ext.drewN | with_reducible refine Ext.setCell ?_ ?_ _ | with_reducible apply Ext.step | with_reducible assumption | with_reducible exact Nat.le_refl _ | (simp; done) | (simp; omega)))) ⟨δ, rfl⟩)
        have HXX6 := Lib.hid (HX.out.trans HX6.out)
        have c0 : δ.wd.cell? ⟨wr.heap.size, 0, none⟩ = some (.int .i64 s1) := Ext.cell_some ⟨δ, rfl⟩ (by go_cell)
        have c1 : δ.wd.cell? ⟨wr.heap.size, 1, none⟩ = some (.int .i64 s2) := Ext.cell_some ⟨δ, rfl⟩ (by go_cell)
        have lc := cell_lt c0
        clear a1 a2 la
        generalize δ.wd = W6 at *
        go_wp2_with (at_builtin; refine EK.app (K := spanK) (B := w3.heap.size) (xs := unionF (ys.take j)) rfl (.tmp 48) (.tmp 50) rfl W6.heap.size 1 (s1, s2) rfl rfl (fun i u hu => cell_new hu) ((HO.out.ext HX6.out).ext ((Ext.refl _).alloc _)) (by have := HXX6.out.bel.size; simp; omega) HLL.out ?_; intro v' W7 o7 b7 _; obtain ⟨Av, kv, cv, rfl⟩ := o7.shape; have HO7 := Lib.hid o7; have HX7 := Lib.hid ((HXX6.out.alloc _).below b7 (Nat.le_refl _)); clear o7 b7)
        go_roundw
        case rel => exact ⟨j + 1, by omega, by go_num, by rw [HV.out]; exact HO7.out, HX7.out⟩
        case measure => simp [intOf]; omega
      · obtain ⟨m, rfl⟩ : ∃ m, ko = m + 1 := ⟨ko - 1, by omega⟩
        obtain ⟨go, co', e, hgo, hgl, hcl, hfr⟩ := ho.slot (j := m) (by omega)
        injection e with e1 e2 e3
        subst e1 e3
        clear e2
        have HGO := Lib.hid hgo
        have q1 := hcl 0 _ rfl
        have q2 := hcl 1 _ rfl
        simp only [spanK, Nat.add_zero] at q1 q2
        have hml : m < (unionF (ys.take j)).length := by omega
        have HBU := Lib.hid (HBL.out _ (List.getElem_mem hml))
        have HUS2 := Lib.hid (show unionF (ys.take (j + 1)) = _ by rw [HUS.out, stepU_last HKO.out])
        rw [List.getElem?_eq_getElem hml, Option.getD_some] at HUS2
        have HPUT := Lib.hid fun (W : World) (h : spanK.Own w3.heap.size W (.slice (some ⟨go, 0, none⟩) (m + 1) co) (unionF (ys.take j))) (u : Int) => (own_snd h HKO.out (j := m) (by omega) u)
        rw [List.getElem?_eq_getElem hml, Option.getD_some] at HPUT
        generalize (unionF (ys.take j))[m] = t at *
        obtain ⟨t1, t2⟩ := t
        simp only at q1 q2 HUS2 HPUT
        have hbt : -1000000000000000 ≤ t2 ∧ t2 ≤ 1000000000000000 := HBU.out.2
        have hmj : m ≤ 1000000 := by have := unionF_len ys j; omega
        have hw1 : IntKind.i64.wrap (t2 + 1) = t2 + 1 := by apply IntWalk.i64_in <;> omega
        have hm1 : IntKind.i64.wrap ((m : Int) + 1 - 1) = (m : Int) := by rw [show (m : Int) + 1 - 1 = m by omega]; apply IntWalk.i64_in <;> omega
        have hm3 : IntKind.i64.wrap (m : Int) = (m : Int) := by apply IntWalk.i64_in <;> omega
        have hm5 : (m : Int) < (m : Int) + 1 := by omega
        have hm0 : ((m : Int) + 1 - 1) = (m : Int) := by omega
        have hm2 : (0 : Int) < (m : Int) + 1 := by omega
        have hgw : go < wr.heap.size := hgl
        by_cases h3 : s1 ≤ t2 + 1
        · have HV := Lib.hid (show unionF (ys.take (j + 1)) = (unionF (ys.take j)).set m (t1, max t2 s2) by rw [HUS2.out, if_pos h3])
          have HFR := Lib.hid hfr
          clear hx ho hko hcl hfr hbt hml
          go_wp2_with fail
          refine wp_region_bext (by kernel_rfl) (by kernel_rfl) ?_
          repeat (any_goals (go_big_quiet_step (fail)))
          all_goals refine wpQuiet_nil ?_
          all_goals rintro _ ⟨δ, rfl⟩
          have HX6 := Lib.hid (show Ext wr δ.wd from Ext.trans (by (repeat' (first | with_reducible exact Ext.refl _ | with_reducible apply Ext.alloc | with_reducible apply Ext.drew | with_reducible apply Ext.drewN | with_reducible refine Ext.setCell ?_ ?_ _ | with_reducible apply Ext.step | with_reducible assumption | with_reducible exact Nat.le_refl _ | (simp; done) | (simp; omega)))) ⟨δ, rfl⟩)
          have HXX6 := Lib.hid (HX.out.trans HX6.out)
          have c0 : δ.wd.cell? ⟨wr.heap.size, 0, none⟩ = some (.int .i64 s1) := Ext.cell_some ⟨δ, rfl⟩ (by go_cell)
          have c1 : δ.wd.cell? ⟨wr.heap.size, 1, none⟩ = some (.int .i64 s2) := Ext.cell_some ⟨δ, rfl⟩ (by go_cell)
          have lc := cell_lt c0
          have f2 := HX6.out.frozen q2 (HFR.out _)
          replace q2 := HX6.out.cell_some q2
          have HO6 := Lib.hid (HO.out.ext HX6.out)
          clear a1 a2 la q1 hgw
          generalize δ.wd = W6 at *
          have y1 := But.cells (D := []) c1 (by simp)
          have y2 := But.cells (D := []) q2 (by simp)
          have HQ := Lib.hid (And.intro q2 f2)
          clear c0 c1 lc q2 f2
          go_upto_region 9 with fail
          refine (wpIn_wide (n := 3)).1 ?_
          refine wpIn_region_steps [] 14 [(0, true), (1, true), (2, true), (3, true), (4, true), (5, true), (6, true), (7, true), (8, true), (9, true), (10, true), (11, true), (12, true), (13, true)] (by kernel_rfl) (by kernel_rfl) ?_
          iterate 14 (refine wpSD_q (by rfl) (fun _ _ _ => trivial) (fun K hK => ?_); go_simp; refine hK _ ?_; clear hK K)
          refine wpSD_nil ?_
          intro W7 x7
          have HX7 := Lib.hid (HXX6.out.trans x7)
          have HO7 := Lib.hid (HO6.out.ext x7)
          have q2 := x7.cell_some HQ.out.1
          have f2 := x7.frozen HQ.out.1 HQ.out.2
          have lq := cell_lt q2
          clear x7 y1 y2
          simp only [List.drop_succ_cons, List.drop_zero]
          gi_wp2
          go_wp2_with fail
          go_roundw
          case rel => exact ⟨j + 1, by omega, by go_num, by rw [HV.out]; exact HPUT.out _ HO7.out (max t2 s2), HX7.out.setCell (p := ⟨go, m * 2 + 1, none⟩) HGO.out _⟩
          case measure => simp [intOf]; omega
        · have HV := Lib.hid (show unionF (ys.take (j + 1)) = unionF (ys.take j) ++ [(s1, s2)] by rw [HUS2.out, if_neg h3])
          clear hx ho hko hcl hfr hbt hml
          go_wp2_with fail
          refine wp_region_bext (by kernel_rfl) (by kernel_rfl) ?_
          repeat (any_goals (go_big_quiet_step (fail)))
          all_goals refine wpQuiet_nil ?_
          all_goals rintro _ ⟨δ, rfl⟩
          have HX6 := Lib.hid (show Ext wr δ.wd from Ext.trans (by (repeat' (first | with_reducible exact Ext.refl _ | with_reducible apply Ext.alloc | with_reducible apply Ext.drew | with_reducible apply Ext.drewN | with_reducible refine Ext.setCell ?_ ?_ _ | with_reducible apply Ext.step | with_reducible assumption | with_reducible exact Nat.le_refl _ | (simp; done) | (simp; omega)))) ⟨δ, rfl⟩)
          have HXX6 := Lib.hid (HX.out.trans HX6.out)
          have c0 : δ.wd.cell? ⟨wr.heap.size, 0, none⟩ = some (.int .i64 s1) := Ext.cell_some ⟨δ, rfl⟩ (by go_cell)
          have c1 : δ.wd.cell? ⟨wr.heap.size, 1, none⟩ = some (.int .i64 s2) := Ext.cell_some ⟨δ, rfl⟩ (by go_cell)
          have lc := cell_lt c0
          clear a1 a2 la q1 q2
          generalize δ.wd = W6 at *
          go_wp2_with (at_builtin; refine EK.app (K := spanK) (B := w3.heap.size) (xs := unionF (ys.take j)) rfl (.tmp 48) (.tmp 50) rfl W6.heap.size 1 (s1, s2) rfl rfl (fun i u hu => cell_new hu) ((HO.out.ext HX6.out).ext ((Ext.refl _).alloc _)) (by have := HXX6.out.bel.size; simp; omega) HLL.out ?_; intro v' W7 o7 b7 _; obtain ⟨Av, kv, cv, rfl⟩ := o7.shape; have HO7 := Lib.hid o7; have HX7 := Lib.hid ((HXX6.out.alloc _).below b7 (Nat.le_refl _)); clear o7 b7)
          go_roundw
          case rel => exact ⟨j + 1, by omega, by go_num, by rw [HV.out]; exact HO7.out, HX7.out⟩
          case measure => simp [intOf]; omega
    · obtain rfl : j = k := by omega
      have HF := Lib.hid (show unionF (ys.take j) = unionF ys by rw [List.take_of_length_le (by rw [HYL.out]; exact Nat.le_refl _)])
      clear hx ho
      go_wp2_with fail
      go_ret
      exact ⟨_, unionF ys, rfl, by rw [← HF.out]; exact HO.out.mono HW3.out, HU.out, ⟨by rw [← HF.out]; exact Nat.le_trans (unionF_len ys j) HK6, by rw [← HF.out]; exact unionF_bd HBY.out j⟩, HX3.out.trans HX.out⟩
end Go.Proofs.YtkjgcmdabelohaaGreat
