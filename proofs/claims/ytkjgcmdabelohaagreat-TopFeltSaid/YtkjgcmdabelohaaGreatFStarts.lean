/- read.mount.starts: the Starts that fit, whatever the order in which the map comes out. Condition: the bases lie there, their ends in bounds. -/
import Derived.Test.YtkjgcmdabelohaaGreatFUni
import Derived.Test.YtkjgcmdabelohaaGreatPFits
namespace Go.Proofs.YtkjgcmdabelohaaGreat
open Go.RowKit Go.ChangeMaps

def shS (ad c : Int) (s : Int × Int) : Int × Int := (s.1 - c * ad, s.2 - c * ad)
theorem shS_in {ad c : Int} {l : List (Int × Int)} {x : Int} : InS (l.map (shS ad c)) x ↔ ∃ s ∈ l, s.1 - c * ad ≤ x ∧ x ≤ s.2 - c * ad := by
  unfold InS
  constructor
  · rintro ⟨s, hs, h⟩
    obtain ⟨t, ht, rfl⟩ := List.mem_map.1 hs
    exact ⟨t, ht, h⟩
  · rintro ⟨t, ht, h⟩
    exact ⟨_, List.mem_map.2 ⟨t, ht, rfl⟩, h⟩
/-- What is left behind the cuts of S. -/
structure RnG (F : Int → List (Int × Int)) (ad : Int) (S : Int → Bool) (l : List (Int × Int)) : Prop where
  can : Canon l
  set : ∀ x, InS l x ↔ StS F ad (fun c => S c = true ∧ F c ≠ []) x
theorem RnG.start (F : Int → List (Int × Int)) (ad : Int) : RnG F ad (fun _ => false) [(0, 10000)] := by
  refine ⟨⟨fun s hs => ?_, by simp⟩, fun x => ?_⟩
  · rw [List.mem_singleton] at hs
    subst hs
    decide
  · constructor
    · rintro ⟨s, hs, h⟩
      rw [List.mem_singleton] at hs
      subst hs
      exact ⟨h, fun c hc => by cases hc.1⟩
    · rintro ⟨h, -⟩
      exact ⟨_, List.mem_singleton.2 rfl, h⟩
theorem RnG.step {F : Int → List (Int × Int)} {ad c : Int} {S : Int → Bool} {l zs : List (Int × Int)} (h : RnG F ad S l) (hc : F c ≠ []) (h1 : Canon zs) (h2 : ∀ x, InS zs x ↔ InS ((F c).map (shS ad c)) x) :
    RnG F ad (fun y => decide (y = c) || S y) (meetR l zs) := by
  refine ⟨meetR_canon h.can h1, fun x => ?_⟩
  rw [meetR_in h.can h1, h.set, h2, shS_in]
  constructor
  · rintro ⟨⟨h3, h4⟩, h5⟩
    refine ⟨h3, fun d ⟨hd, hd2⟩ => ?_⟩
    rcases Bool.or_eq_true_iff.1 hd with h6 | h6
    · obtain rfl := of_decide_eq_true h6
      exact h5
    · exact h4 d ⟨h6, hd2⟩
  · rintro ⟨h3, h4⟩
    exact ⟨⟨h3, fun d ⟨hd, hd2⟩ => h4 d ⟨by simp [hd], hd2⟩⟩, h4 c ⟨by simp, hc⟩⟩
theorem RnG.done {F : Int → List (Int × Int)} {ad : Int} {S : Int → Bool} {l : List (Int × Int)} (h : RnG F ad S l) (hS : ∀ c, F c ≠ [] → S c = true) : StartsIs F ad l :=
  ⟨h.can, fun x => by
    rw [h.set]
    exact ⟨fun ⟨h1, h2⟩ => ⟨h1, fun c hc => h2 c ⟨hS c hc, hc⟩⟩, fun ⟨h1, h2⟩ => ⟨h1, fun c hc => h2 c hc.2⟩⟩⟩
theorem RnG.none {F : Int → List (Int × Int)} {ad : Int} {S : Int → Bool} (h : RnG F ad S []) : StartsIs F ad [] :=
  ⟨Canon.nil, fun x => ⟨fun h1 => absurd h1 inS_nil, fun ⟨h1, h2⟩ => absurd ((h.set x).2 ⟨h1, fun c hc => h2 c hc.2⟩) inS_nil⟩⟩
theorem canon_len : ∀ {l : List (Int × Int)} {a b : Int}, Canon l → (∀ s ∈ l, a ≤ s.1 ∧ s.2 ≤ b) → a ≤ b + 1 → (l.length : Int) ≤ b - a + 1
  | [], a, b, _, _, h => by simp; omega
  | s :: l, a, b, hc, h, hab => by
    obtain ⟨h1, h2⟩ := hc.head
    obtain ⟨h3, h4⟩ := h s (by simp)
    have := canon_len (l := l) (a := a + 1) (b := b) hc.tail (fun t ht => ⟨by have := h2 t ht; omega, (h t (List.mem_cons_of_mem _ ht)).2⟩) (by omega)
    rw [List.length_cons]
    omega
theorem set_bd {l : List (Int × Int)} (hc : Canon l) (h : ∀ x, InS l x → 0 ≤ x ∧ x ≤ 10000) : l.length ≤ 10001 ∧ ∀ s ∈ l, 0 ≤ s.1 ∧ s.1 ≤ s.2 ∧ s.2 ≤ 10000 := by
  have h1 : ∀ s ∈ l, 0 ≤ s.1 ∧ s.1 ≤ s.2 ∧ s.2 ≤ 10000 := fun s hs => by
    have h2 := hc.ne s hs
    have h3 := h s.1 ⟨s, hs, Int.le_refl _, h2⟩
    have h4 := h s.2 ⟨s, hs, h2, Int.le_refl _⟩
    omega
  refine ⟨?_, h1⟩
  have := canon_len (a := 0) (b := 10000) hc (fun s hs => ⟨(h1 s hs).1, (h1 s hs).2.2⟩) (by omega)
  omega
theorem RnG.bd {F : Int → List (Int × Int)} {ad : Int} {S : Int → Bool} {l : List (Int × Int)} (h : RnG F ad S l) : l.length ≤ 10001 := (set_bd h.can fun x hx => ((h.set x).1 hx).1).1
theorem StartsIs.bd {F : Int → List (Int × Int)} {ad : Int} {l : List (Int × Int)} (h : StartsIs F ad l) : l.length ≤ 10001 ∧ ∀ s ∈ l, 0 ≤ s.1 ∧ s.1 ≤ s.2 ∧ s.2 ≤ 10000 := set_bd h.can fun x hx => ((h.set x).1 hx).1
/-- A base's ends in bounds. -/
def BdF (s : Int × Int) : Prop := (-2000000000000 ≤ s.1 ∧ s.1 ≤ 2000000000000) ∧ (-2000000000000 ≤ s.2 ∧ s.2 ≤ 2000000000000)
theorem mul_cut {c ad : Int} (hc : 0 ≤ c ∧ c ≤ 11) (ha : -1000 ≤ ad ∧ ad ≤ 1000) : -11000 ≤ c * ad ∧ c * ad ≤ 11000 := by
  have h1 : c * ad ≤ c * 1000 := Int.mul_le_mul_of_nonneg_left ha.2 hc.1
  have h2 : c * (-1000) ≤ c * ad := Int.mul_le_mul_of_nonneg_left ha.1 hc.1
  omega

theorem rangeLeft_ext {n M r : Nat} {f : Int → Option (Nat × Nat)} {S : Int → Bool} {W W' : World} (hR : (basesK n).Rg M r f S W) (x : Ext W W') : W'.rangeLeft M r = W.rangeLeft M r := by
  obtain ⟨es, ck, seen, h0, h1, _⟩ := hR
  have e0 := x.bel.block r (Array.getElem?_eq_some_iff.1 h0).1
  have e1 := x.bel.block M (Array.getElem?_eq_some_iff.1 h1).1
  unfold World.rangeLeft
  simp only [e0, e1]
theorem own_iter {n B M r : Nat} {f : Int → Option (Nat × Nat)} {S : Int → Bool} {W : World} {v : Value} {l : List (Int × Int)} (h : spanK.Own B W v l) (hR : (basesK n).Rg M r f S W) : v.ownBlock = none ∨ v.ownBlock ≠ some r := by
  rcases h.2 with ⟨rfl, _⟩ | ⟨g, cap, cur, rfl, _, hg, _⟩
  · exact .inl rfl
  · obtain ⟨es, ck, seen, h0, _⟩ := hR
    refine .inr fun e => ?_
    simp only [Value.ownBlock, Option.some.injEq] at e
    subst e
    rw [h0] at hg
    cases hg

set_option maxRecDepth 100000 in
set_option maxHeartbeats 8000000 in
theorem starts_any (n B M : Nat) (F : Int → List (Int × Int)) (i th ad : Int) (w : World) (hb : BasesAt n B F M w) (hn : 1 ≤ n ∧ n ≤ 1000) (hF : ∀ c, F c ≠ [] → (0 ≤ c ∧ c ≤ 11) ∧ ∀ s ∈ F c, BdF s) (had : -1000 ≤ ad ∧ ad ≤ 1000) :
    Calls Tryz.prog 64 #[.agg #[.int .i64 i, .int .i64 th, .map (some M)], .int .i64 ad] w fun e w' => ∃ u l, e = .returned u ∧ spanK.Own w.heap.size w' u l ∧ StartsIs F ad l ∧ Ext w w' := by
  obtain ⟨f, hpt, hnn, hfo, -⟩ := hb.ex
  have HNN := Lib.hid hnn
  have HFO := Lib.hid hfo
  have HPT := Lib.hid hpt
  have HF := Lib.hid hF
  have hml := hpt.lt
  clear hb hnn hfo hpt hF
  go_enter Tryz.func64, Tryz.ntmps64
  go_upto_region 1 with fail
  refine lay_wp (fun W => BoxAt w.heap.size #[.int .i64 i, .int .i64 th, .map (some M)] 119 W ∧ Ext w W) ⟨BoxAt.new w _ _, (Ext.refl _).alloc _⟩ ?_
  rintro W1 ⟨b1, x1⟩
  have HB1 := Lib.hid b1
  have HX1 := Lib.hid x1
  obtain ⟨bm, hbm⟩ : ∃ b, b = w.heap.size := ⟨_, rfl⟩
  rw [← hbm] at b1 ⊢
  have hl1 := x1.bel.size
  clear b1 x1
  go_upto_region 2 with fail
  refine lay_wp (fun W => spanK.Own w.heap.size W (.slice (some ⟨W1.heap.size, 0, none⟩) 1 1) [(0, 10000)] ∧ Ext W1 W) ⟨EK.Own.lit (K := spanK) W1 _ [(0, 10000)] rfl hl1 (by decide), (Ext.refl _).alloc _⟩ ?_
  rintro W2 ⟨o2, x2⟩
  obtain ⟨g2, hg2⟩ : ∃ b, b = W1.heap.size := ⟨_, rfl⟩
  rw [← hg2] at o2 ⊢
  have HX2 := Lib.hid (HX1.out.trans x2)
  have HB2 := Lib.hid (HB1.out.ext x2)
  have HPT2 := Lib.hid (HPT.out.ext HX2.out)
  have HO2 := Lib.hid o2
  have HBM := Lib.hid hbm
  have HMB := Lib.hid (show BoxAt bm #[.int .i64 i, .int .i64 th, .map (some M)] 119 W2 by rw [hbm]; exact HB2.out)
  have m2 := HMB.out.cell (i := 2) rfl
  have lm := cell_lt m2
  clear o2 x2 hbm hg2 hl1 hml
  go_wp2_with (at_range; refine wpList_rangeM (G := basesK n) rfl _ rfl rfl HPT2.out ?_; intro W5 X5 R5 s5)
  go_frame
  obtain ⟨r, hr⟩ : ∃ r, W2.heap.size = r := ⟨_, rfl⟩
  rw [hr] at R5 ⊢
  have HR := Lib.hid hr
  have HR5 := Lib.hid R5
  have HX5 := Lib.hid X5
  clear X5 R5 s5 hr m2 lm
  go_loopw [5] (fun lv W => ∃ (l : List (Int × Int)) (S : Int → Bool), spanK.Own w.heap.size W lv l ∧ (basesK n).Rg M r f S W ∧ RnG F ad S l ∧ Ext W2 W) (fun _ W => W.rangeLeft M r)
  case atStart => exact ⟨_, fun _ => false, HO2.out.ext HX5.out, HR5.out, RnG.start F ad, HX5.out⟩
  case round =>
    obtain ⟨l, S, ho, hR, hS, hx⟩ := hrel
    obtain ⟨Al, kl, cl, rfl, hkl, -⟩ := ho.is.open_
    have HO := Lib.hid ho
    have HRG := Lib.hid hR
    have HS := Lib.hid hS
    have HXW := Lib.hid hx
    have HKL := Lib.hid hkl
    clear ho hR hS hx hkl
    go_wp2_with (at_next; refine wpList_nextM (G := basesK n) rfl _ rfl rfl HRG.out ?_ ?_)
    · intro hall
      have HD := Lib.hid (HS.out.done fun c hc => hall c fun e => hc ((HNN.out c).1 e))
      clear hall
      go_wp2_with fail
      go_ret
      exact ⟨_, l, rfl, HO.out, HD.out, HX2.out.trans HXW.out⟩
    · intro d hd hSd W6 g6 hsz6 R6 hlt6 hent
      replace hent : (Instr.entry (.pointer (some ⟨r, 0, none⟩))).run Tryz.prog W6 = .ok (.tuple #[.int .i64 d, baseV n (f d)]) W6 := hent
      have hFd : F d ≠ [] := fun e => hd ((HNN.out d).2 e)
      obtain ⟨hd1, hd2⟩ := HF.out d hFd
      rcases hfd : f d with _ | ⟨g, k⟩
      · exact absurd hfd hd
      have hke : (basesK n).key d = .int .i64 d := rfl
      have hva : (basesK n).val (some (g, k)) = .slice (some ⟨g, 0, none⟩) n k := rfl
      rw [hke, hva]
      try rw [hfd] at hent
      replace hent : (Instr.entry (.pointer (some ⟨r, 0, none⟩))).run Tryz.prog W6 = .ok (.tuple #[.int .i64 d, .slice (some ⟨g, 0, none⟩) n k]) W6 := hent
      have hx6 : Ext W2 W6 := ext_iterM HXW.out g6 (Nat.le_of_eq HR.out)
      have HX6 := Lib.hid hx6
      have HFD := Lib.hid ((HFO.out d g k hfd).ext (HX2.out.trans hx6))
      have HFL := Lib.hid (show (F d).length = n from by
        rcases (HFO.out d g k hfd).2 with ⟨e, _⟩ | ⟨g', cap, cur, e, _⟩
        · cases e
        · simp only [Value.slice.injEq] at e
          exact e.2.1.symm)
      have HO6 := Lib.hid (HO.out.kept g6 (own_iter HO.out HRG.out))
      have HR6 := Lib.hid R6
      have HLT := Lib.hid hlt6
      have HFB := Lib.hid hd2
      have HFN := Lib.hid hFd
      have hmul := mul_cut hd1 had
      clear g6 hsz6 R6 hlt6 hSd hd hke hva hfd hx6 hd2 hFd
      go_wp2_with fail
      obtain ⟨wo, hwo⟩ : ∃ wo, wo = W6 := ⟨_, rfl⟩
      rw [← hwo]
      have HWO := Lib.hid hwo
      clear hwo hent
      go_loopw [8, 23] (fun sv jv W => ∃ j : Nat, j ≤ n ∧ jv = .int .i64 (j : Int) ∧ spanK.Own W6.heap.size W sv (((F d).take j).map (shS ad d)) ∧ Ext W6 W) (fun _ jv _ => n - (intOf jv).toNat)
      case atStart => exact ⟨0, by omega, rfl, EK.Own.nil _ _, by rw [HWO.out]; exact Ext.refl _⟩
      case round =>
        obtain ⟨j, hj, rfl, ho, hx⟩ := hrel
        obtain ⟨Ao, ko, co, rfl, hko, -⟩ := ho.is.open_
        have HOJ := Lib.hid ho
        have HXJ := Lib.hid hx
        by_cases hjn : j < n
        · obtain ⟨⟨a1, a2⟩, -⟩ := spn_at HFD.out HFL.out hjn
          have hjl : j < (F d).length := by rw [HFL.out]; exact hjn
          have HTK := Lib.hid (show ((F d).take (j + 1)).map (shS ad d) = ((F d).take j).map (shS ad d) ++ [shS ad d (F d)[j]] by rw [List.take_succ_eq_append_getElem hjl, List.map_append]; rfl)
          have hbd := HFB.out _ (List.getElem_mem hjl)
          have hkk : ko ≤ 1000 := by rw [← hko, List.length_map, List.length_take]; omega
          have HLL := Lib.hid (show (((F d).take j).map (shS ad d)).length ≤ 1000000000 by omega)
          rw [List.getElem?_eq_getElem hjl] at a1 a2
          simp only [Option.getD_some] at a1 a2
          generalize (F d)[j] = s at *
          obtain ⟨s1, s2⟩ := s
          simp only [shS] at a1 a2 HTK
          unfold BdF at hbd
          simp only at hbd
          replace a1 := hx.cell_some a1
          replace a2 := hx.cell_some a2
          have la := cell_lt a1
          have hji : (j : Int) < (n : Int) := by omega
          obtain ⟨mu, hmu⟩ : ∃ mu, mu = d * ad := ⟨_, rfl⟩
          rw [← hmu] at hmul HTK
          have hw1 : IntKind.i64.wrap (d * ad) = mu := by rw [hmu]; exact IntWalk.i64_in _ (by omega)
          have hw2 : IntKind.i64.wrap (s1 - mu) = s1 - mu := IntWalk.i64_in _ (by omega)
          have hw3 : IntKind.i64.wrap (s2 - mu) = s2 - mu := IntWalk.i64_in _ (by omega)
          clear ho hx hko hkk hbd hmu
          go_wp2_with (at_builtin; refine EK.app (K := spanK) (B := W6.heap.size) (xs := ((F d).take j).map (shS ad d)) rfl (.tmp 27) (.tmp 41) rfl (wr.heap.size + 1) 1 (s1 - mu, s2 - mu) rfl rfl (fun i u hu => cell_new1 hu) ((HOJ.out.ext ((Ext.refl _).alloc _)).ext ((Ext.refl _).alloc _)) (by have := HXJ.out.bel.size; simp; omega) HLL.out ?_; intro v' W7 o7 b7 _; obtain ⟨Av, kv, cv, rfl⟩ := o7.shape; have HO7 := Lib.hid o7; have HX7 := Lib.hid (((HXJ.out.alloc _).alloc _).below b7 (Nat.le_refl _)); clear o7 b7)
          go_roundw
          case rel => exact ⟨j + 1, by omega, by go_num, by rw [HTK.out]; exact HO7.out, HX7.out⟩
          case measure => simp [intOf]; omega
        · obtain rfl : j = n := by omega
          have htk : ((F d).take j).map (shS ad d) = (F d).map (shS ad d) := by rw [List.take_of_length_le (by rw [HFL.out]; exact Nat.le_refl _)]
          rw [htk] at ho
          have hji : ¬ (j : Int) < (j : Int) := by omega
          have HU := Lib.hid (union_any _ _ wr ho.is (by
            intro e
            exact HFN.out (List.map_eq_nil_iff.1 e)) (fun t ht => by
            obtain ⟨u, hu, rfl⟩ := List.mem_map.1 ht
            have h1 := HFB.out u hu
            unfold BdF at h1
            unfold BdT shS
            simp only
            omega) (by rw [List.length_map, HFL.out]; omega))
          clear ho hx hko htk
          go_wp2_with fail
          refine HU.out.mono ?_
          rintro e w7 ⟨u7, zs, rfl, o7, ⟨hcz, hsz⟩, ⟨hlz, -⟩, x7⟩
          have HX7 := Lib.hid (show Ext W2 w7 from (HX6.out.trans HXJ.out).trans x7)
          have HO7 := Lib.hid (HO6.out.ext (HXJ.out.trans x7))
          have HM := Lib.hid (meet_any (.slice Al kl cl) u7 l zs w7 HO7.out.is o7.is (Nat.le_trans HS.out.bd (by decide)) hlz)
          have HST := Lib.hid (HS.out.step HFN.out hcz hsz)
          have HR7 := Lib.hid (HR6.out.ext (HXJ.out.trans x7))
          have HL7 := Lib.hid (rangeLeft_ext (M := M) (r := r) HR6.out (HXJ.out.trans x7))
          clear o7 hcz hsz hlz x7
          go_wp2_with fail
          refine HM.out.mono ?_
          rintro e w8 ⟨u8, rfl, o8, x8⟩
          obtain ⟨A8, k8, c8, rfl, hk8, -⟩ := o8.is.open_
          have HX8 := Lib.hid (HX7.out.trans x8)
          have HO8 := Lib.hid (o8.mono (B' := w.heap.size) (HX2.out.trans HX7.out).bel.size)
          have HR8 := Lib.hid (HR7.out.ext x8)
          have HL8 := Lib.hid (rangeLeft_ext (M := M) (r := r) HR7.out x8)
          by_cases hz : k8 = 0
          · have HN := Lib.hid (show StartsIs F ad [] from by
              have := HST.out
              rw [List.length_eq_zero_iff.1 (hk8.trans hz)] at this
              exact this.none)
            subst hz
            clear o8 x8 hk8
            go_wp2_with fail
            go_ret
            exact ⟨_, [], rfl, EK.Own.nil _ _, HN.out, HX2.out.trans HX8.out⟩
          · have hz1 : ¬ (k8 : Int) = 0 := by omega
            clear o8 x8 hk8
            go_wp2_with fail
            go_roundw
            case rel => exact ⟨_, _, HO8.out, HR8.out, HST.out, HX8.out⟩
            case measure =>
              have h1 := HL7.out
              have h2 := HL8.out
              have h3 := HLT.out
              show w8.rangeLeft M r < _
              omega
end Go.Proofs.YtkjgcmdabelohaaGreat
