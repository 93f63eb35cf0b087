/- The reference's Rules and table. Condition: the work's cuts read as a list. -/
import Derived.Test.YtgeapenglcohfaaGRFirst
import Derived.Test.YtgeapenglcohfaaGRules
import Derived.Deep.OwnRows
namespace Go.Proofs.Ytgeapenglcohfaa
open Go.RowKit

theorem prsTo_row {M : Nat → Nat → Bool} {n : Nat} (h : ∀ i j, M i j = true → i < n ∧ j < n) (hn : n ≤ 16) (i : Nat) : ∀ d, n + d ≤ 16 → prsTo M (i * 16 + (n + d)) = prsTo M (i * 16 + n)
  | 0, _ => rfl
  | d + 1, hd => by
    rw [← Nat.add_assoc n d 1, prsTo_succ M i (n + d) (by omega), prsTo_row h hn i d (by omega)]
    cases hM : M i (n + d) with
    | false => exact List.append_nil _
    | true => have := (h _ _ hM).2; omega
theorem prsTo_next {M : Nat → Nat → Bool} {n : Nat} (h : ∀ i j, M i j = true → i < n ∧ j < n) (hn : n ≤ 16) (i : Nat) : prsTo M (i * 16 + n) = prsTo M ((i + 1) * 16) := by
  have := prsTo_row h hn i (16 - n) (by omega)
  rw [← this]
  congr 1
  omega
theorem prsTo_end {M : Nat → Nat → Bool} {n : Nat} (h : ∀ i j, M i j = true → i < n ∧ j < n) (hn : n ≤ 16) : ∀ d, n + d ≤ 16 → prsTo M ((n + d) * 16) = prsTo M (n * 16)
  | 0, _ => rfl
  | d + 1, hd => by
    rw [← prsTo_end h hn d (by omega), ← Nat.add_assoc n d 1]
    have hm : ∀ m, m ≤ 16 → prsTo M ((n + d) * 16 + m) = prsTo M ((n + d) * 16) := by
      intro m
      induction m with
      | zero => intro _; rfl
      | succ m ih =>
        intro hm
        rw [prsTo_succ M (n + d) m (by omega), ih (by omega)]
        cases hM : M (n + d) m with
        | false => exact List.append_nil _
        | true => have := (h _ _ hM).1; omega
    have := hm 16 (Nat.le_refl _)
    rwa [show (n + d) * 16 + 16 = (n + d + 1) * 16 by omega] at this
theorem prsTo_full {M : Nat → Nat → Bool} {n : Nat} (h : ∀ i j, M i j = true → i < n ∧ j < n) (hn : n ≤ 16) : prsTo M (n * 16) = prsL M := by
  have := prsTo_end h hn (16 - n) (by omega)
  rw [← this]
  unfold prsL
  congr 1
  omega
theorem prsTo_len (M : Nat → Nat → Bool) (t : Nat) : (prsTo M t).length ≤ t := by
  unfold prsTo
  exact Nat.le_trans (List.length_filter_le _ _) (by simp)
theorem ruleM_in {k : WkT} {i j : Nat} (h : ruleM k i j = true) : i < k.cuts.length ∧ j < k.cuts.length := by
  unfold ruleM at h
  simp only [Bool.and_eq_true, decide_eq_true_eq] at h
  exact h.1

theorem boolInfo : (Try.prog.info? 4).map (fun i => (i.zero, i.size, i.bytes)) = some (some (.bool false), 1, 1) := by kernel_rfl
theorem madeCells_one (z : Value) (n : Nat) : madeCells #[z] n = (List.replicate n z).toArray := by
  apply Array.ext
  · simp [madeCells]
  · intro i h1 h2
    simp [madeCells, Nat.mod_one]
/-- A row of n truth values. -/
def SeenN (g n : Nat) (S : Nat → Bool) (W : World) : Prop := ∀ q : Nat, q < n → W.cell? ⟨g, q, none⟩ = some (.bool (S q)) ∧ W.frozen? ⟨g, q, none⟩ = false
theorem SeenN.ext {g n : Nat} {S : Nat → Bool} {W W' : World} (h : SeenN g n S W) (x : Ext W W') : SeenN g n S W' := fun q hq => ⟨x.cell_some (h q hq).1, x.frozen (h q hq).1 (h q hq).2⟩
theorem SeenN.put {g n : Nat} {S S' : Nat → Bool} {W : World} (h : SeenN g n S W) {q : Nat} (hq : q < n) (hS : ∀ z : Nat, z < n → S' z = if z = q then true else S z) : SeenN g n S' (W.setCell ⟨g, q, none⟩ (.bool true)) := by
  intro z hz
  obtain ⟨h1, h2⟩ := h z hz
  refine ⟨?_, by simp [h2]⟩
  rw [hS z hz]
  by_cases e : z = q
  · subst e
    rw [if_pos rfl]
    exact cell_set_same h1
  · rw [if_neg e]
    exact (cell_set_other (.inr e)).trans h1
theorem SeenN.made (w : World) (n : Nat) : SeenN w.heap.size n (fun _ => false) (w.alloc (.cells (madeCells #[.bool false] n) 4)) := by
  rw [madeCells_one]
  intro q hq
  have hb := BoxAt.new w (List.replicate n (Value.bool false)).toArray 4
  exact ⟨hb.cell (by simp [hq]), frozen_of_row _ _ _ _ _ hb⟩

set_option maxRecDepth 100000 in
set_option maxHeartbeats 4000000 in
theorem refRules_any (k : WkT) (v : Value) (w : World) (hI : CutsIs w v k.cuts) :
    Calls Try.prog 48 #[k.val v] w (RetEW pairK w (rulesL k) (workE k)) := by
  have HW := Lib.hid fun (W : World) (x : Ext w W) => refWork_any k v W (hI.ext x)
  have HFI := Lib.hid fun (W : World) (x : Ext w W) (hb : workB k = true) (i j : Nat) (hi : i < k.cuts.length) (hj : j < k.cuts.length) => refFirst_any k v i j W (hI.ext x) hb hi hj
  obtain ⟨A, c, rfl, -, ⟨hcl, hcm⟩, -⟩ := cutsIs_at hI
  unfold maxLen at hcm
  cases hb : workB k
  · have HR := Lib.hid (workE_no hb)
    have HL := Lib.hid (show rulesL k = [] from if_neg (by rw [hb]; exact Bool.false_ne_true))
    rw [hb] at HW
    clear hb hI hcl hcm
    go_enter Try.func48, Try.ntmps48
    go_wp2_with fail
    refine (HW.out _ (by (repeat' (first | with_reducible exact Ext.refl _ | with_reducible apply Ext.alloc | with_reducible apply Ext.drew | with_reducible apply Ext.drewN | with_reducible refine Ext.setCell ?_ ?_ _ | with_reducible apply Ext.step | with_reducible assumption | with_reducible exact Nat.le_refl _ | (simp; done) | (simp; omega))))).mono ?_
    rintro e W1 ⟨rfl, x1⟩
    have HX1 := Lib.hid (show Ext w W1 from Ext.trans (by (repeat' (first | with_reducible exact Ext.refl _ | with_reducible apply Ext.alloc | with_reducible apply Ext.drew | with_reducible apply Ext.drewN | with_reducible refine Ext.setCell ?_ ?_ _ | with_reducible apply Ext.step | with_reducible assumption | with_reducible exact Nat.le_refl _ | (simp; done) | (simp; omega)))) x1)
    clear x1
    go_wp2_with fail
    go_ret2
    exact retEW_mk (EK.Own.nil _ _) HL.out HR.out HX1.out
  replace HFI := Lib.hid fun W x => HFI.out W x hb
  have HR := Lib.hid (workE_ok hb)
  have HL := Lib.hid (show rulesL k = pairsI (prsL (ruleM k)) from if_pos hb)
  have HMI := Lib.hid (fun i j (h : ruleM k i j = true) => ruleM_in h)
  rw [hb] at HW
  obtain ⟨_, _, h16, _⟩ := workB_iff.1 hb
  obtain ⟨n, hn⟩ : ∃ n, n = k.cuts.length := ⟨_, rfl⟩
  obtain ⟨M, hM⟩ : ∃ M, M = ruleM k := ⟨_, rfl⟩
  rw [← hn] at HW h16 hcl HFI HMI ⊢
  rw [← hM] at HL HFI HMI
  clear hb hn hI hM hcl hcm
  go_enter Try.func48, Try.ntmps48
  go_wp2_with fail
  refine (HW.out _ (by (repeat' (first | with_reducible exact Ext.refl _ | with_reducible apply Ext.alloc | with_reducible apply Ext.drew | with_reducible apply Ext.drewN | with_reducible refine Ext.setCell ?_ ?_ _ | with_reducible apply Ext.step | with_reducible assumption | with_reducible exact Nat.le_refl _ | (simp; done) | (simp; omega))))).mono ?_
  rintro e W1 ⟨rfl, x1⟩
  have X1 := Lib.hid (show Ext w W1 from Ext.trans (by (repeat' (first | with_reducible exact Ext.refl _ | with_reducible apply Ext.alloc | with_reducible apply Ext.drew | with_reducible apply Ext.drewN | with_reducible refine Ext.setCell ?_ ?_ _ | with_reducible apply Ext.step | with_reducible assumption | with_reducible exact Nat.le_refl _ | (simp; done) | (simp; omega)))) x1)
  have HWK := Lib.hid ((WkAt.new k (.slice A n c) w).ext x1)
  have hsz := X1.out.bel.size
  clear x1
  go_wp2_with fail
  go_loopw [4, 5] (fun ov iv wr => ∃ i : Nat, i ≤ n ∧ iv = .int .i64 i ∧ pairK.Own W1.heap.size wr ov (pairsI (prsTo M (i * 16))) ∧ Ext W1 wr) (fun _ iv _ => n - (intOf iv).toNat)
  case atStart => exact ⟨0, by omega, rfl, EK.Own.nil _ _, Ext.refl _⟩
  case round =>
    obtain ⟨i, hi, rfl, hown, hx⟩ := hrel
    obtain ⟨wo, rfl⟩ : ∃ wo, wo = wr := ⟨wr, rfl⟩
    have HX := Lib.hid hx
    have HO := Lib.hid hown
    obtain ⟨h0, h1, h2, h3, h4, h5, h6, h7, h8, h9, h10, h11, h12⟩ := HWK.out.ext hx
    have lh := cell_lt h0
    by_cases hlt : i < n
    · clear hown hx h0 h1 h2 h3 h4 h5 h6 h7 h8 h9 h10 h11
      go_wp2_with fail
      go_loopw [4, 6] (fun ov iv wr => ∃ m : Nat, m ≤ n ∧ iv = .int .i64 (m : Int) ∧ pairK.Own W1.heap.size wr ov (pairsI (prsTo M (i * 16 + m))) ∧ Ext W1 wr) (fun _ iv _ => n - (intOf iv).toNat)
      case atStart => exact ⟨0, by omega, rfl, HO.out, HX.out⟩
      case round =>
        obtain ⟨m, hm, rfl, hown, hx⟩ := hrel
        have HXI := Lib.hid hx
        have HOI := Lib.hid hown
        obtain ⟨h0, h1, h2, h3, h4, h5, h6, h7, h8, h9, h10, h11, h12'⟩ := HWK.out.ext hx
        have lh := cell_lt h0
        by_cases hmn : m < n
        · have HBR := Lib.hid fun (W : World) (x : Ext wr W) => HFI.out W ((X1.out.trans HXI.out).trans x) i m hlt hmn
          have HPS := Lib.hid (prsTo_succ M i m (by omega))
          have HLN := Lib.hid (show (pairsI (prsTo M (i * 16 + m))).length ≤ 1000000000 by
            rw [pairsI_len]
            have := prsTo_len M (i * 16 + m)
            omega)
          have hmi : (m : Int) < (n : Int) := by omega
          generalize M i m = bb at *
          clear hown hx
          cases bb
          · have HV := Lib.hid (show prsTo M (i * 16 + (m + 1)) = prsTo M (i * 16 + m) by rw [HPS.out]; exact List.append_nil _)
            go_wp2_with fail
            refine (HBR.out _ (Ext.refl _)).mono ?_
            rintro e W5 ⟨rfl, x5⟩
            have HX5 := Lib.hid x5
            clear x5
            go_wp2_with fail
            go_roundw
            case rel => exact ⟨m + 1, by omega, by go_num, by rw [HV.out]; exact HOI.out.ext HX5.out, HXI.out.trans HX5.out⟩
            case measure => simp [intOf]; omega
          · have HV := Lib.hid (show pairsI (prsTo M (i * 16 + (m + 1))) = pairsI (prsTo M (i * 16 + m)) ++ [((i : Int), (m : Int))] by rw [HPS.out, if_pos rfl, pairsI_snoc])
            go_wp2_with fail
            refine (HBR.out _ (Ext.refl _)).mono ?_
            rintro e W5 ⟨rfl, x5⟩
            have HX5 := Lib.hid x5
            have hsz5 := (HXI.out.trans x5).bel.size
            clear x5
            go_wp2_with (at_builtin; refine EK.app (K := pairK) (B := W1.heap.size) (xs := pairsI (prsTo M (i * 16 + m))) rfl (.tmp 28) (.tmp 32) rfl W5.heap.size 1 ((i : Int), (m : Int)) rfl rfl (fun ii u hu => cell_new hu) ((HOI.out.ext HX5.out).ext ((Ext.refl _).alloc _)) (by simp; omega) HLN.out ?_; intro v' w3 o3 b3 _; obtain ⟨Av3, kv3, cv3, rfl⟩ := own_shapeW o3; have HO3 := Lib.hid o3; have HB3 := Lib.hid b3; clear o3 b3)
            go_roundw
            case rel => exact ⟨m + 1, by omega, by go_num, by rw [HV.out]; exact HO3.out, ((HXI.out.trans HX5.out).alloc _).below HB3.out (Nat.le_refl _)⟩
            case measure => simp [intOf]; omega
        · obtain rfl : m = n := by omega
          have HV := Lib.hid (show prsTo M (i * 16 + m) = prsTo M ((i + 1) * 16) from prsTo_next HMI.out h16 i)
          clear hx hown
          go_wp2_with fail
          go_roundw
          case rel => exact ⟨i + 1, by omega, by go_num, by rw [← HV.out]; exact HOI.out, HXI.out⟩
          case measure => simp [intOf]; omega
    · obtain rfl : i = n := by omega
      have HV := Lib.hid (show rulesL k = pairsI (prsTo M (i * 16)) by rw [HL.out, prsTo_full HMI.out h16])
      clear hown hx
      go_wp2_with fail
      go_ret2
      exact retEW_mk (HO.out.mono hsz) HV.out HR.out (X1.out.trans HX.out)

/-- Truth values; rows of them as elements. -/
def boolK : EK Bool := ⟨4, 141, 1, fun x => [.bool x], .bool false, 1, Try.underlying141, by kernel_rfl, rfl, by decide, by decide, fun _ => rfl, by simp [Value.oneCell']⟩
def rowK : EK (Option Addr × Nat × Nat) := ⟨141, 144, 1, fun x => [.slice x.1 x.2.1 x.2.2], .slice none 0 0, 24, Try.underlying144, by kernel_rfl, rfl, by decide, by decide, fun _ => rfl, by simp [Value.oneCell']⟩
def rowM (M : Nat → Nat → Bool) (i m : Nat) : List Bool := (List.range m).map (M i)
theorem rowM_len (M : Nat → Nat → Bool) (i m : Nat) : (rowM M i m).length = m := by unfold rowM; simp
theorem rowM_succ (M : Nat → Nat → Bool) (i m : Nat) : rowM M i (m + 1) = rowM M i m ++ [M i m] := by unfold rowM; rw [List.range_succ, List.map_append]; rfl
/-- The rows of a table. -/
def RowsAt (B : Nat) (w : World) (n : Nat) (M : Nat → Nat → Bool) (i : Nat) (Ts : List (Option Addr × Nat × Nat)) : Prop := Ts.length = i ∧ ∀ q (h : q < Ts.length), boolK.Own B w (rowV Ts[q]) (rowM M q n)
theorem RowsAt.ext {B : Nat} {w w' : World} {n : Nat} {M : Nat → Nat → Bool} {i : Nat} {Ts : List (Option Addr × Nat × Nat)} (h : RowsAt B w n M i Ts) (x : Ext w w') : RowsAt B w' n M i Ts := ⟨h.1, fun q hq => (h.2 q hq).ext x⟩
theorem RowsAt.grown {B B' : Nat} {w w' : World} {n : Nat} {M : Nat → Nat → Bool} {i : Nat} {Ts Ts' : List (Option Addr × Nat × Nat)} {v : Value} (h : RowsAt B w n M i Ts) (ho : rowK.Own B' w v Ts') (hg : w.grownBy w' v.ownBlock) : RowsAt B w' n M i Ts :=
  ⟨h.1, fun q hq => (h.2 q hq).kept hg (own_ne (h.2 q hq) ho (by decide))⟩
theorem RowsAt.snoc {B : Nat} {w : World} {n : Nat} {M : Nat → Nat → Bool} {i : Nat} {Ts : List (Option Addr × Nat × Nat)} (h : RowsAt B w n M i Ts) {T : Option Addr × Nat × Nat} (hT : boolK.Own B w (rowV T) (rowM M i n)) : RowsAt B w n M (i + 1) (Ts ++ [T]) := by
  refine ⟨by rw [List.length_append, h.1]; rfl, fun q hq => ?_⟩
  by_cases e : q < Ts.length
  · simp only [List.getElem_append_left e]
    exact h.2 q e
  · have : q = Ts.length := by simp at hq; omega
    subst this
    simp only [List.getElem_concat_length]
    rw [h.1]
    exact hT
/-- A table: n rows of n truth values. -/
def TabAt (w : World) (v : Value) (n : Nat) (M : Nat → Nat → Bool) : Prop := ∃ A c, v = .slice A n c ∧ ∀ a, a < n → ∃ b o br or cr, A = some ⟨b, o, none⟩ ∧ w.cell? ⟨b, o + a, none⟩ = some (.slice (some ⟨br, or, none⟩) n cr) ∧ ∀ q, q < n → w.cell? ⟨br, or + q, none⟩ = some (.bool (M a q))
theorem TabAt.ext {w w' : World} {v : Value} {n : Nat} {M : Nat → Nat → Bool} (h : TabAt w v n M) (x : Ext w w') : TabAt w' v n M := by
  obtain ⟨A, c, rfl, h⟩ := h
  refine ⟨A, c, rfl, fun a ha => ?_⟩
  obtain ⟨b, o, br, or, cr, h1, h2, h3⟩ := h a ha
  exact ⟨b, o, br, or, cr, h1, x.cell_some h2, fun q hq => x.cell_some (h3 q hq)⟩
theorem TabAt.of {B : Nat} {w : World} {v : Value} {n : Nat} {M : Nat → Nat → Bool} {Ts : List (Option Addr × Nat × Nat)} (h : rowK.Is w v Ts) (hr : RowsAt B w n M n Ts) : TabAt w v n M := by
  obtain ⟨A, c, rfl, _, _, hrow⟩ := h
  rw [hr.1]
  refine ⟨A, c, rfl, fun a ha => ?_⟩
  have haT : a < Ts.length := by rw [hr.1]; exact ha
  obtain ⟨b, o, rfl, _, hc⟩ := hrow a haT
  have h0 := hc 0 _ rfl
  simp only [rowK, Nat.mul_one, Nat.add_zero] at h0
  obtain ⟨A', c', he, _, _, hr'⟩ := (hr.2 a haT).is
  rw [rowM_len] at he
  obtain ⟨br, or, rfl, _, _⟩ := hr' 0 (by rw [rowM_len]; omega)
  have he2 : (Value.slice Ts[a].1 Ts[a].2.1 Ts[a].2.2) = .slice (some ⟨br, or, none⟩) n c' := he
  rw [he2] at h0
  refine ⟨b, o, br, or, c', rfl, h0, fun q hq => ?_⟩
  obtain ⟨b', o', he', _, hc'⟩ := hr' q (by rw [rowM_len]; exact hq)
  cases he'
  have h1 := hc' 0 _ rfl
  simp only [boolK, Nat.mul_one, Nat.add_zero] at h1
  rw [h1]
  unfold rowM
  simp

set_option maxRecDepth 100000 in
set_option maxHeartbeats 4000000 in
theorem refTable_any (k : WkT) (v : Value) (w : World) (hI : CutsIs w v k.cuts) (hb : workB k = true) :
    Calls Try.prog 89 #[k.val v] w fun e w' => ∃ u, e = .returned u ∧ TabAt w' u k.cuts.length (ruleM k) ∧ Ext w w' := by
  have HFI := Lib.hid fun (W : World) (x : Ext w W) (i j : Nat) (hi : i < k.cuts.length) (hj : j < k.cuts.length) => refFirst_any k v i j W (hI.ext x) hb hi hj
  obtain ⟨A, c, rfl, -, ⟨hcl, hcm⟩, -⟩ := cutsIs_at hI
  unfold maxLen at hcm
  obtain ⟨_, _, h16, _⟩ := workB_iff.1 hb
  obtain ⟨n, hn⟩ : ∃ n, n = k.cuts.length := ⟨_, rfl⟩
  obtain ⟨M, hM⟩ : ∃ M, M = ruleM k := ⟨_, rfl⟩
  rw [← hn] at h16 hcl HFI ⊢
  rw [← hM] at HFI ⊢
  clear hb hn hI hM hcl hcm
  go_enter Try.func89, Try.ntmps89
  go_wp2_with fail
  refine lay_wp (fun W => WkAt k (.slice A n c) w.heap.size W ∧ Ext w W) ⟨WkAt.new k _ w, (Ext.refl _).alloc _⟩ ?_
  rintro W1 ⟨ha1, x1⟩
  have HWK := Lib.hid ha1
  have X1 := Lib.hid x1
  have hsz := x1.bel.size
  clear ha1 x1
  go_loopw [3, 4] (fun ov iv wr => ∃ (i : Nat) (Ts : List (Option Addr × Nat × Nat)), i ≤ n ∧ iv = .int .i64 i ∧ rowK.Own W1.heap.size wr ov Ts ∧ RowsAt W1.heap.size wr n M i Ts ∧ Ext W1 wr) (fun _ iv _ => n - (intOf iv).toNat)
  case atStart => exact ⟨0, [], by omega, rfl, EK.Own.nil _ _, ⟨rfl, fun q h => by cases h⟩, Ext.refl _⟩
  case round =>
    obtain ⟨i, Ts, hi, rfl, hown, hrows, hx⟩ := hrel
    obtain ⟨wo, rfl⟩ : ∃ wo, wo = wr := ⟨wr, rfl⟩
    have HX := Lib.hid hx
    have HO := Lib.hid hown
    have HRW := Lib.hid hrows
    have HTL := Lib.hid hrows.1
    obtain ⟨Ao, no, co, rfl⟩ := own_shapeW hown
    obtain ⟨h0, -, -, -, -, -, -, -, -, -, -, -, h12⟩ := HWK.out.ext hx
    have lh := cell_lt h12
    by_cases hlt : i < n
    · have hwo := hx.bel.size
      clear hown hx h0 hrows
      go_wp2_with fail
      go_loopw [5, 6] (fun ov iv wr => ∃ m : Nat, m ≤ n ∧ iv = .int .i64 (m : Int) ∧ boolK.Own wo.heap.size wr ov (rowM M i m) ∧ Ext wo wr) (fun _ iv _ => n - (intOf iv).toNat)
      case atStart => exact ⟨0, by omega, rfl, EK.Own.nil _ _, Ext.refl _⟩
      case round =>
        obtain ⟨m, hm, rfl, hown, hx⟩ := hrel
        have HXI := Lib.hid hx
        have HOI := Lib.hid hown
        obtain ⟨Ab, nb, cb, rfl⟩ := own_shapeW hown
        obtain ⟨h0, h1, h2, h3, h4, h5, h6, h7, h8, h9, h10, h11, h12'⟩ := HWK.out.ext (HX.out.trans hx)
        have lh := cell_lt h0
        by_cases hmn : m < n
        · have HBR := Lib.hid fun (W : World) (x : Ext wr W) => HFI.out W ((X1.out.trans (HX.out.trans HXI.out)).trans x) i m hlt hmn
          have HV := Lib.hid (rowM_succ M i m)
          have HLN := Lib.hid (show (rowM M i m).length ≤ 1000000000 by rw [rowM_len]; omega)
          have hmi : (m : Int) < (n : Int) := by omega
          generalize M i m = bb at *
          clear hown hx
          go_wp2_with fail
          refine (HBR.out _ (Ext.refl _)).mono ?_
          rintro e W5 ⟨rfl, x5⟩
          have HX5 := Lib.hid x5
          have hsz5 := (HXI.out.trans x5).bel.size
          clear x5
          go_wp2_with (at_builtin; refine EK.app (K := boolK) (B := wo.heap.size) (xs := rowM M i m) rfl (.tmp 21) (.tmp 26) rfl W5.heap.size 1 bb rfl rfl (fun ii u hu => cell_new hu) ((HOI.out.ext HX5.out).ext ((Ext.refl _).alloc _)) (by simp; omega) HLN.out ?_; intro v' w3 o3 b3 _; obtain ⟨Av3, kv3, cv3, rfl⟩ := own_shapeW o3; have HO3 := Lib.hid o3; have HB3 := Lib.hid b3; clear o3 b3)
          go_roundw
          case rel => exact ⟨m + 1, by omega, by go_num, by rw [HV.out]; exact HO3.out, ((HXI.out.trans HX5.out).alloc _).below HB3.out (Nat.le_refl _)⟩
          case measure => simp [intOf]; omega
        · obtain rfl : m = n := by omega
          have hsz5 := (HX.out.trans hx).bel.size
          have HLN := Lib.hid (show Ts.length ≤ 1000000000 by rw [HTL.out]; omega)
          clear hx hown h0 h1 h2 h3 h4 h5 h6 h7 h8 h9 h10 h11
          go_wp2_with (at_builtin; refine EK.app (K := rowK) (B := W1.heap.size) (xs := Ts) rfl (.tmp 28) (.tmp 30) rfl wr.heap.size 1 (Ab, nb, cb) rfl rfl (fun ii u hu => cell_new hu) ((HO.out.ext HXI.out).ext ((Ext.refl _).alloc _)) (by simp; omega) HLN.out ?_; intro v' w3 o3 b3 g3; obtain ⟨Av3, kv3, cv3, rfl⟩ := own_shapeW o3; have HO3 := Lib.hid o3; have HB3 := Lib.hid b3; have HG3 := Lib.hid g3; clear o3 b3 g3)
          go_roundw
          case rel =>
            have HOx := (HO.out.ext HXI.out).ext ((Ext.refl wr).alloc (.cells #[.slice Ab nb cb] 141))
            have HBx := HOI.out.ext ((Ext.refl wr).alloc (.cells #[.slice Ab nb cb] 141))
            exact ⟨i + 1, Ts ++ [(Ab, nb, cb)], by omega, by go_num, HO3.out, (((HRW.out.ext HXI.out).ext ((Ext.refl wr).alloc _)).grown HOx HG3.out).snoc ((HBx.kept HG3.out (own_ne HBx HOx (by decide))).mono hwo), ((HX.out.trans HXI.out).alloc _).below HB3.out (Nat.le_refl _)⟩
          case measure => simp [intOf]; omega
    · obtain rfl : i = n := by omega
      have HT := Lib.hid (TabAt.of HO.out.is HRW.out)
      clear hown hx hrows
      go_wp2_with fail
      go_ret
      exact ⟨_, rfl, HT.out, X1.out.trans HX.out⟩
end Go.Proofs.Ytgeapenglcohfaa
