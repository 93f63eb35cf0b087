/- turn and reversed of the statements. Condition: slices read as lists. -/
import Derived.Test.YtaaceadcnnfngaaRLawC
import Derived.Test.YtaaceadcnnfngaaQApp
namespace Go.Proofs.Ytaaceadcnnfngaa
open Go.RowKit Go.Shelf

attribute [local go_sem] Oper.semAt_some

theorem drop_take_mv' {zs : List Int} {k : Nat} (hk : k ≤ zs.length) : zs.drop (zs.length - k) ++ zs.take (zs.length - k) = mvL zs k := by
  rcases Nat.lt_or_ge k zs.length with h | h
  · exact drop_take_mv h
  · obtain rfl : k = zs.length := by omega
    rw [mvL_len_eq]
    simp

set_option maxRecDepth 100000 in
set_option maxHeartbeats 2000000 in
theorem turn_any (v : Value) (zs : List Int) (k : Nat) (w : World) (hv : IsI w v zs) (hk : k ≤ zs.length) (hz1 : 1 ≤ zs.length) (hz : zs.length ≤ 1000) :
    Calls Try.prog 50 #[v, .int .i64 k] w (RetO w (mvL zs k)) := by
  rw [← drop_take_mv' hk]
  obtain ⟨A, n, c, rfl, hc0, hr, hn⟩ := hv.open_
  obtain ⟨hca, hcb⟩ := hv.caps
  have HV := Lib.hid hv
  rw [hr.len] at hk hz hz1
  have HL1 := Lib.hid hr.len
  obtain ⟨b, o, rfl, hbl, _⟩ := hr.at_ 0 (by omega)
  clear hr hv
  have hk2 : (n : Int) - (k : Int) ≤ n := by omega
  have hk4 : (n : Int) - (k : Int) ≤ c := by omega
  have hk5 : 0 ≤ (n : Int) - (k : Int) := by omega
  refine (callsIn_wide (n := 1)).1 ?_
  refine callsIn_of_wp Try.func50 rfl trivial ?_ rfl
  simp only [Try.ntmps50, List.size_toArray, List.length_cons, List.length_nil, Nat.reduceAdd, Nat.reduceSub, Array.replicate_succ, Array.replicate_zero, List.push_toArray, List.append_toArray, List.nil_append, List.cons_append]
  gi_wp2
  have HCB := Lib.hid (show ∀ W : World, Ext w W → OwnI w.heap.size (W.alloc (.cells #[] 3)) (.slice (some ⟨W.heap.size, 0, none⟩) 0 0) [] from fun W X => OwnI.made w.heap.size W 0 X.bel.size #[] (by decide) rfl)
  by_cases hck : c = n - k
  · obtain rfl : k = 0 := by omega
    obtain rfl : c = n := by omega
    clear hck
    have hw1 : IntKind.i64.wrap (c : Int) = c := IntWalk.i64_in _ (by omega)
    refine wpIn_region_qmt (B := w.heap.size) 14 [1, 2, 3, 4, 5, 6, 8, 9, 10, 11, 12, 13] [0, 7] (Nat.le_refl _) (by kernel_rfl) (by kernel_rfl) ?_
    repeat (refine wpQ_step (by rfl) (fun _ _ _ => trivial) (fun K hK => ?_); go_simp; refine hK _ ?_; clear hK K)
    refine wpQ_nil ?_
    refine wpM_step (by rfl) (wanted_none rfl) (fun _ => rfl) (fun δ K hK => ?_)
    go_simp
    have X1 : Ext w δ.wd := ⟨δ, rfl⟩
    refine ⟨(Below.refl _ _).alloc (Nat.le_refl _) _ |>.mono δ.bel.size, hK _ _ ?_⟩
    clear hK K
    have HU := Lib.hid (show IsI (δ.wd.alloc (.cells #[] 3)) (.slice (some ⟨b, o, none⟩) 0 0) (zs.drop (zs.length - 0)) by
      have := isI_drop (c := c) (by rw [HL1.out]; exact HV.out.ext (X1.alloc (.cells #[] 3))) zs.length o (by omega) (Nat.le_refl _)
      simpa [HL1.out] using this)
    refine wpM_app (v := .slice (some ⟨δ.wd.heap.size, 0, none⟩) 0 0) (u := .slice (some ⟨b, o, none⟩) 0 0) (by rfl) rfl (.tmp 5) (.tmp 11) rfl rfl rfl HU.out (HCB.out δ.wd X1) (Nat.le_refl _) (X1.alloc _).bel.size (by simp) ?_
    intro v1 w1 o1 b1
    refine wpM_nil ?_
    intro w2 X2
    have X3 : Ext w w2 := ((X1.alloc _).below b1 (Nat.le_refl _)).trans X2
    have HT := Lib.hid (show IsI w2 (.slice (some ⟨b, o, none⟩) c c) (zs.take (zs.length - 0)) by
      rw [HL1.out]
      exact isI_take (HV.out.ext X3) c (Nat.le_refl _))
    simp only [List.drop_succ_cons, List.drop_zero]
    refine app_all_in (v := v1) (u := .slice (some ⟨b, o, none⟩) c c) rfl (.tmp 12) (.tmp 18) rfl rfl rfl HT.out (o1.ext X2) X3.bel.size (by have := HL1.out; simp; omega) rfl ?_
    intro v3 w3 o3 b3
    gi_wp2
    go_ret
    exact ⟨_, rfl, by simpa using o3, X3.below b3 (Nat.le_refl _)⟩
  · have hw1 : IntKind.i64.wrap ((n : Int) - k) = (n : Int) - k := IntWalk.i64_in _ (by omega)
    refine wpIn_region_qmt (B := w.heap.size) 14 [1, 2, 3, 4, 5, 6, 8, 9, 10, 11, 12, 13] [0, 7] (Nat.le_refl _) (by kernel_rfl) (by kernel_rfl) ?_
    repeat (refine wpQ_step (by rfl) (fun _ _ _ => trivial) (fun K hK => ?_); go_simp; refine hK _ ?_; clear hK K)
    refine wpQ_nil ?_
    refine wpM_step (by rfl) (wanted_none rfl) (fun _ => rfl) (fun δ K hK => ?_)
    go_simp
    have X1 : Ext w δ.wd := ⟨δ, rfl⟩
    refine ⟨(Below.refl _ _).alloc (Nat.le_refl _) _ |>.mono δ.bel.size, hK _ _ ?_⟩
    clear hK K
    have hh := HL1.out
    subst hh
    have HU := Lib.hid (isI_drop (HV.out.ext (X1.alloc (.cells #[] 3))) (zs.length - k) (o + (zs.length - k)) (fun _ => rfl) (by omega))
    refine wpM_app (v := .slice (some ⟨δ.wd.heap.size, 0, none⟩) 0 0) (u := .slice (some ⟨b, o + (zs.length - k), none⟩) (zs.length - (zs.length - k)) (c - (zs.length - k))) (by rfl) rfl (.tmp 5) (.tmp 11) rfl rfl rfl HU.out (HCB.out δ.wd X1) (Nat.le_refl _) (X1.alloc _).bel.size (by simp; omega) ?_
    intro v1 w1 o1 b1
    refine wpM_nil ?_
    intro w2 X2
    have X3 : Ext w w2 := ((X1.alloc _).below b1 (Nat.le_refl _)).trans X2
    have HT := Lib.hid (isI_take (HV.out.ext X3) (zs.length - k) (by omega))
    simp only [List.drop_succ_cons, List.drop_zero]
    refine app_all_in (v := v1) (u := .slice (some ⟨b, o, none⟩) (zs.length - k) c) rfl (.tmp 12) (.tmp 18) rfl rfl rfl HT.out (o1.ext X2) X3.bel.size (by simp; omega) rfl ?_
    intro v3 w3 o3 b3
    gi_wp2
    go_ret
    exact ⟨_, rfl, by simpa using o3, X3.below b3 (Nat.le_refl _)⟩

set_option maxRecDepth 100000 in
set_option maxHeartbeats 1000000 in
theorem reversed_any (v : Value) (zs : List Int) (w : World) (hv : IsI w v zs) (hz : zs.length ≤ 1000) :
    Calls Try.prog 51 #[v] w (RetO w zs.reverse) := by
  obtain ⟨A, n, c, rfl, hc0, hr, hn⟩ := hv.open_
  have HL := Lib.hid hr.len
  rw [HL.out] at hz
  have HR := Lib.hid hr
  clear hr hv
  go_enter Try.func51, Try.ntmps51
  go_wp2
  go_loopw [7, 3, 4] (fun i sv _ wr => ∃ k : Nat, k ≤ n ∧ i = .int .i64 k ∧ OwnI w.heap.size wr sv (zs.reverse.take k) ∧ Ext w wr) (fun i _ _ _ => n - (intOf i).toNat)
  case atStart => exact ⟨0, by omega, rfl, OwnI.nil _ _, Ext.refl _⟩
  case round =>
    obtain ⟨k, hk, rfl, hown, hx⟩ := hrel
    by_cases hlt : k < n
    · have hdk : decide ((k : Int) < n) = true := by simp; omega
      obtain ⟨b, o, rfl, hb, hc⟩ := HR.out.at_ (n - 1 - k) (by omega)
      have hc' := hx.cell_some hc
      have hi : (n : Int) - 1 - k = ((n - 1 - k : Nat) : Int) := by omega
      have HSN := Lib.hid (show zs.reverse.take (k + 1) = zs.reverse.take k ++ [zs[n - 1 - k]?.getD 0] by
        rw [take_snoc (d := 0) (by rw [List.length_reverse, HL.out]; exact hlt), List.getElem?_reverse (by rw [HL.out]; exact hlt), HL.out])
      have hin : n - 1 - k < n := by omega
      generalize n - 1 - k = j at *
      have HC := Lib.hid (cell_new0 wr (.int .i64 (zs[j]?.getD 0)) 3)
      have HO := Lib.hid (hown.ext ((Ext.refl wr).alloc (.cells #[.int .i64 (zs[j]?.getD 0)] 3)))
      have HB := Lib.hid (show w.heap.size ≤ (wr.alloc (.cells #[.int .i64 (zs[j]?.getD 0)] 3)).heap.size from (hx.alloc _).bel.size)
      have HZ := Lib.hid (show (zs.reverse.take k).length ≤ 1000000000 by rw [List.length_take]; omega)
      have HX := Lib.hid hx
      clear hc hown hx
      go_wp2_with (at_builtin; refine app_one rfl _ _ rfl _ _ _ rfl rfl HC.out HO.out HB.out HZ.out ?_; intro v' w1 hown1 hb1)
      go_roundw
      case rel => exact ⟨k + 1, by omega, by go_num, by rw [HSN.out]; exact hown1, (HX.out.alloc _).below hb1 (Nat.le_refl _)⟩
      case measure => simp [intOf]; omega
    · obtain rfl : k = n := by omega
      go_wp2
      go_ret
      refine ⟨_, rfl, ?_, hx⟩
      rwa [List.take_of_length_le (by rw [List.length_reverse, HL.out]; exact Nat.le_refl _)] at hown
end Go.Proofs.Ytaaceadcnnfngaa
