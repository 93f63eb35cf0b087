/- rosette.turned and mirrored. Condition: slices read as lists. -/
import Derived.Test.YtkjgcmdabelohaaRCat
namespace Go.Proofs.Ytkjgcmdabelohaa
open Go.RowKit

theorem isI_drop {w : World} {b o c : Nat} {zs : List Int} (h : IsI w (.slice (some ⟨b, o, none⟩) zs.length c) zs) (k o' : Nat) (ho : k < zs.length → o' = o + k) (hk : k ≤ zs.length) : IsI w (.slice (some ⟨b, o', none⟩) (zs.length - k) (c - k)) (zs.drop k) := by
  obtain ⟨_, _, he, h0, hc, hr⟩ := h
  cases he
  refine ⟨_, _, by rw [List.length_drop], by simp, by rw [List.length_drop]; omega, ⟨rfl, by rw [List.length_drop]; have := hr.max; omega, fun j hj => ?_⟩⟩
  rw [List.length_drop] at hj
  obtain ⟨b', o1, he, hb, hc⟩ := hr.at_ (k + j) (by omega)
  cases he
  refine ⟨b, o', rfl, hb, ?_⟩
  rw [ho (by omega), List.getElem?_drop, show o + k + j = o + (k + j) by omega]
  exact hc
theorem isI_take {w : World} {A : Option Addr} {c n : Nat} {zs : List Int} (h : IsI w (.slice A n c) zs) (k : Nat) (hk : k ≤ n) : IsI w (.slice A k c) (zs.take k) := by
  obtain ⟨_, _, he, h0, hc, hr⟩ := h
  cases he
  have hl : (zs.take k).length = k := by simp; omega
  refine ⟨_, _, by rw [hl], h0, by rw [hl]; omega, ⟨rfl, by rw [hl]; have := hr.max; omega, fun j hj => ?_⟩⟩
  rw [hl] at hj
  obtain ⟨b', o1, he, hb, hc⟩ := hr.at_ j (by omega)
  refine ⟨b', o1, he, hb, ?_⟩
  rw [List.getElem?_take, if_pos hj]
  exact hc

set_option maxRecDepth 100000 in
set_option maxHeartbeats 1000000 in
theorem turned0_any (v : Value) (zs : List Int) (k : Nat) (w : World) (hv : IsI w v zs) (hk : k < zs.length) (hz : zs.length ≤ 1000) :
    Calls Try.prog 85 #[v, .int .i64 k] w (RetO w (zs.drop (zs.length - k) ++ zs.take (zs.length - k))) := by
  obtain ⟨A, n, c, rfl, hc0, hr, hn⟩ := hv.open_
  obtain ⟨hca, hcb⟩ := hv.caps
  have HV := Lib.hid hv
  rw [hr.len] at hk hz
  have HL1 := Lib.hid hr.len
  obtain ⟨b, o, rfl, _, _⟩ := hr.at_ 0 (by omega)
  clear hr hv
  by_cases hck : c = n - k
  · obtain rfl : k = 0 := by omega
    obtain rfl : c = n := by omega
    clear hck
    go_enter Try.func85, Try.ntmps85
    go_wp2_with fail
    refine wp_region_still_tail 12 (by kernel_rfl) (by kernel_rfl) ?_
    simp only [List.take_succ_cons, List.take_zero, List.drop_succ_cons, List.drop_zero]
    repeat (refine wpStill_step (fun K hK => ?_); go_simp; (try go_bits); refine hK _ ?_; clear hK K)
    refine wpStill_nil ?_
    change wpList _ _ _ _ _ w.drew
    go_wp2_with fail
    have hh := HL1.out
    subst hh
    refine lay_calls (fun W => Ext w W ∧ W.cell? ⟨w.heap.size, 0, none⟩ = some (.slice (some ⟨b, o, none⟩) 0 0) ∧ W.cell? ⟨w.heap.size, 1, none⟩ = some (.slice (some ⟨b, o, none⟩) zs.length zs.length)) ⟨by (repeat' (first | with_reducible exact Ext.refl _ | with_reducible apply Ext.alloc | with_reducible apply Ext.drew | with_reducible apply Ext.drewN | with_reducible refine Ext.setCell ?_ ?_ _ | with_reducible apply Ext.step | with_reducible assumption | with_reducible exact Nat.le_refl _ | (simp; done) | (simp; omega))), by go_cell, by go_cell⟩ ?_
    rintro W ⟨hX, h0, h1⟩
    have hu : IsI W (.slice (some ⟨b, o, none⟩) 0 0) (zs.drop zs.length) := by
      have := isI_drop (HV.out.ext hX) zs.length o (by omega) (Nat.le_refl _)
      simpa using this
    have hv : IsI W (.slice (some ⟨b, o, none⟩) zs.length zs.length) (zs.take zs.length) := isI_take (HV.out.ext hX) zs.length (Nat.le_refl _)
    refine (concat_any w.heap.size 2 _ _ _ _ W h0 h1 hu hv (by simp; omega) (by simp) (by simp; omega)).mono ?_
    rintro e w1 ⟨v1, rfl, hown, hx⟩
    have HO := Lib.hid hown
    clear hu hv hown h0 h1
    go_wp2_with fail
    go_ret
    exact ⟨_, rfl, (HO.out.mono hX.bel.size), hX.trans hx⟩
  · have hk1 : k ≤ n := by omega
    have hk2 : (n : Int) - (k : Int) ≤ n := by omega
    have hk4 : (n : Int) - (k : Int) ≤ c := by omega
    go_enter Try.func85, Try.ntmps85
    go_wp2_with fail
    refine wp_region_still_tail 12 (by kernel_rfl) (by kernel_rfl) ?_
    simp only [List.take_succ_cons, List.take_zero, List.drop_succ_cons, List.drop_zero]
    repeat (refine wpStill_step (fun K hK => ?_); go_simp; (try go_bits); refine hK _ ?_; clear hK K)
    refine wpStill_nil ?_
    change wpList _ _ _ _ _ w.drew
    go_wp2_with fail
    have hh := HL1.out
    subst hh
    refine lay_calls (fun W => Ext w W ∧ W.cell? ⟨w.heap.size, 0, none⟩ = some (.slice (some ⟨b, o + (zs.length - k), none⟩) (zs.length - (zs.length - k)) (c - (zs.length - k))) ∧ W.cell? ⟨w.heap.size, 1, none⟩ = some (.slice (some ⟨b, o, none⟩) (zs.length - k) c)) ⟨by (repeat' (first | with_reducible exact Ext.refl _ | with_reducible apply Ext.alloc | with_reducible apply Ext.drew | with_reducible apply Ext.drewN | with_reducible refine Ext.setCell ?_ ?_ _ | with_reducible apply Ext.step | with_reducible assumption | with_reducible exact Nat.le_refl _ | (simp; done) | (simp; omega))), by go_cell, by go_cell⟩ ?_
    rintro W ⟨hX, h0, h1⟩
    have hu := isI_drop (HV.out.ext hX) (zs.length - k) (o + (zs.length - k)) (fun _ => rfl) (by omega)
    have hv := isI_take (HV.out.ext hX) (zs.length - k) (by omega)
    refine (concat_any w.heap.size 2 _ _ _ _ W h0 h1 hu hv (by simp; omega) (by simp; omega) (by simp; omega)).mono ?_
    rintro e w1 ⟨v1, rfl, hown, hx⟩
    have HO := Lib.hid hown
    clear hu hv hown h0 h1
    go_wp2_with fail
    go_ret
    exact ⟨_, rfl, (HO.out.mono hX.bel.size), hX.trans hx⟩

theorem drop_take_mv {zs : List Int} {k : Nat} (hk : k < zs.length) : zs.drop (zs.length - k) ++ zs.take (zs.length - k) = mvL zs k := by
  refine List.ext_getElem (by simp [mvL, mvTo] <;> omega) fun i h1 h2 => ?_
  simp [mvL, mvTo] at h2
  simp only [mvL, mvTo, List.getElem_map, List.getElem_range]
  rcases Nat.lt_or_ge i k with h | h
  · rw [List.getElem_append_left (by simp; omega)]
    have e : (((i : Int) - (k : Int)) % (zs.length : Int)).toNat = zs.length - k + i := by
      rw [← Int.add_emod_right, Int.emod_eq_of_lt (by omega) (by omega)]
      omega
    rw [e, List.getElem?_eq_getElem (by omega)]
    simp
  · rw [List.getElem_append_right (by simp; omega)]
    have e : (((i : Int) - (k : Int)) % (zs.length : Int)).toNat = i - k := by
      rw [Int.emod_eq_of_lt (by omega) (by omega)]
      omega
    rw [e, List.getElem?_eq_getElem (by omega)]
    simp
    congr 1
    omega

theorem turned_any (v : Value) (zs : List Int) (k : Nat) (w : World) (hv : IsI w v zs) (hk : k < zs.length) (hz : zs.length ≤ 1000) :
    Calls Try.prog 85 #[v, .int .i64 k] w (RetO w (mvL zs k)) := by
  have := turned0_any v zs k w hv hk hz
  rwa [drop_take_mv hk] at this

theorem reverse_img {zs : List Int} (hn : 1 ≤ zs.length) : (mvL zs ((zs.length - 1 : Nat) : Int)).reverse = imgL zs := by
  refine List.ext_getElem (by simp [mvL, mvTo, imgL, imgTo]) fun i h1 h2 => ?_
  simp [imgL, imgTo] at h2
  rw [List.getElem_reverse]
  simp only [mvL, mvTo, imgL, imgTo, List.getElem_map, List.getElem_range, List.length_map, List.length_range]
  have e : (((zs.length - 1 - i : Nat) : Int) - ((zs.length - 1 : Nat) : Int)) = -(i : Int) := by omega
  rw [e]

end Go.Proofs.Ytkjgcmdabelohaa
