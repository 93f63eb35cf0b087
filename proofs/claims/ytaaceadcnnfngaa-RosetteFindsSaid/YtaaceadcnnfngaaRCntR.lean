/- barleycornref03.Count, whatever the lists. Condition: slices read as lists. -/
import Derived.Test.YtaaceadcnnfngaaRCntW
import Derived.Test.YtaaceadcnnfngaaRFind
namespace Go.Proofs.Ytaaceadcnnfngaa
open Go.RowKit

/-- The sum over the first states. -/
def sumC (gs ls ys : List Int) : Nat → Int
  | 0 => 0
  | s + 1 => sumC gs ls ys s + (wtTo gs 0 s (ys.length - 1) * refV gs ls ys s ls.length (ys.length - 1) s) % 1000000007
theorem sumC_bd (gs ls ys : List Int) : ∀ s : Nat, 0 ≤ sumC gs ls ys s ∧ sumC gs ls ys s ≤ 1000000007 * (s : Int)
  | 0 => by simp [sumC]
  | s + 1 => by
    have ih := sumC_bd gs ls ys s
    have h1 := Int.emod_nonneg (wtTo gs 0 s (ys.length - 1) * refV gs ls ys s ls.length (ys.length - 1) s) (by omega : (1000000007 : Int) ≠ 0)
    have h2 := Int.emod_lt_of_pos (wtTo gs 0 s (ys.length - 1) * refV gs ls ys s ls.length (ys.length - 1) s) (by omega : (0 : Int) < 1000000007)
    rw [sumC]
    omega
theorem sumC_mod (gs ls ys : List Int) : ∀ s : Nat, sumC gs ls ys s % 1000000007 = ((List.range s).map fun t => wtTo gs 0 t (ys.length - 1) * refV gs ls ys t ls.length (ys.length - 1) t).sum % 1000000007
  | 0 => by simp [sumC]
  | s + 1 => by
    rw [sumC, List.range_succ, List.map_append, List.sum_append, Int.add_emod, sumC_mod gs ls ys s, Int.emod_emod, ← Int.add_emod]
    simp

set_option maxRecDepth 100000 in
set_option maxHeartbeats 4000000 in
theorem refCount_any (u v : Value) (ls ys : List Int) (w : World) (hu : IsI w u ls) (hv : IsI w v ys) :
    Calls Try.prog 46 #[u, v] w fun e w' => e = .returned (.tuple #[.int .i64 (countN ls ys), .int .i64 (countEr ls ys)]) ∧ Ext w w' := by
  by_cases hg : bothE ls ys = 0
  · have HB := Lib.hid (asked_zero hg hu hv)
    have HV := Lib.hid hv
    have HU := Lib.hid hu
    by_cases h7 : ys.length ≤ 7
    · have HFI := Lib.hid (refFind_any u v ls ys w hu hv)
      by_cases hfd : foundB ls ys = true
      · rw [findL, findEr, if_pos ⟨hg, hfd⟩, if_pos hg, if_pos hfd] at HFI
        have hf := fine_iff.1 hg
        have HF := Lib.hid hf
        have HFU := Lib.hid hf.under
        have f1 := hf.lo
        have f3 := hf.odd
        have f4 := hf.le
        have HN := Lib.hid (show countN ls ys = sumC (underL ls ys) ls ys (2 ^ (ys.length - 1)) % 1000000007 by
          rw [countN, if_pos ⟨hg, h7, hfd⟩, cnt_states (by omega) (by omega), sumC_mod])
        have HE := Lib.hid (show countEr ls ys = 0 by rw [countEr, if_pos hg, if_neg (by omega)])
        have HL := Lib.hid (show (underL ls ys).length = ls.length from underL_len _ _)
        have HSB := Lib.hid (fun s => sumC_bd (underL ls ys) ls ys s)
        have HCT := Lib.hid (fun (x : Value) (s : Nat) (W : World) (xx : Ext w W) (hx : IsI W x (underL ls ys)) (hs : s < 2 ^ (ys.length - 1)) => refCounted_any u v x ls ys (underL ls ys) s W (HU.out.ext xx) (HV.out.ext xx) hx HF.out HFU.out HL.out h7 hs)
        obtain ⟨A', m', c', rfl, hd0, hs, hm⟩ := hv.open_
        have HL2 := Lib.hid hs.len
        rw [HL2.out] at f3 h7
        rw [HL2.out] at HCT HN
        have hd7 : decide (7 < (m' : Int)) = false := by simp; omega
        obtain ⟨m, rfl⟩ : ∃ m, m' = m + 1 := ⟨m' - 1, by omega⟩
        rw [Nat.add_sub_cancel] at HCT HN
        obtain ⟨K, hKe⟩ : ∃ K, 2 ^ m = K := ⟨_, rfl⟩
        rw [hKe] at HCT HN
        have hK : K ≤ 64 := by rw [← hKe]; exact Nat.le_trans (Nat.pow_le_pow_right (by decide) (show m ≤ 6 by omega)) (by decide : 2 ^ 6 ≤ 64)
        have hsh : IntKind.i64.wrap ((2 : Int) ^ m) = (K : Int) := by
          rw [← hKe, IntWalk.i64_in _ (by
            have : ((2 : Int) ^ m) = ((2 ^ m : Nat) : Int) := by simp
            rw [this, hKe]; omega)]
          simp
        have hmw : IntKind.u64.wrap (m : Int) = (m : Int) := by rw [IntKind.wrap_u64]; omega
        obtain ⟨z, hz⟩ : ∃ z, z = countN ls ys := ⟨_, rfl⟩
        rw [← hz] at HN ⊢
        clear hu hv hg hfd hs hd0 hf f1 f3 f4 hKe hz
        go_enter Try.func46, Try.ntmps46
        go_wp2_with (go_at_call 63; refine HB.out.mono ?_; rintro e w' ⟨rfl, rfl⟩)
        refine HFI.out.mono ?_
        rintro e W1 ⟨vg, rfl, og, x1⟩
        have HX1 := Lib.hid x1
        have HOG := Lib.hid og.isI
        clear x1 og
        go_wp2_with fail
        go_loopw [11, 10] (fun sv tv W => ∃ s : Nat, s ≤ K ∧ sv = .int .i64 (s : Int) ∧ tv = .int .i64 (sumC (underL ls ys) ls ys s) ∧ Ext W1 W) (fun sv _ _ => K - (intOf sv).toNat)
        case atStart => exact ⟨0, by omega, rfl, rfl, Ext.refl _⟩
        case round =>
          obtain ⟨s, hs, rfl, rfl, hx⟩ := hrel
          have HX := Lib.hid hx
          obtain ⟨sm, hsm⟩ : ∃ z, z = sumC (underL ls ys) ls ys s := ⟨_, rfl⟩
          obtain ⟨b1, b2⟩ := HSB.out s
          rw [← hsm] at b1 b2 ⊢
          have HSM := Lib.hid hsm
          clear hx hsm
          by_cases hlt : s < K
          · have hlt' : (s : Int) < (K : Int) := by omega
            obtain ⟨cv, hcv⟩ : ∃ z, z = (wtTo (underL ls ys) 0 s m * refV (underL ls ys) ls ys s ls.length m s) % 1000000007 := ⟨_, rfl⟩
            have HCV := Lib.hid hcv
            obtain ⟨c1, c2⟩ : 0 ≤ cv ∧ cv < 1000000007 := by rw [hcv]; exact ⟨Int.emod_nonneg _ (by omega), Int.emod_lt_of_pos _ (by omega)⟩
            have HCS := Lib.hid (HCT.out vg s wr (HX1.out.trans HX.out) (HOG.out.ext HX.out) hlt)
            rw [← hcv] at HCS
            clear hcv
            go_wp2_with fail
            refine HCS.out.mono ?_
            rintro e W2 ⟨rfl, x2⟩
            have HX2 := Lib.hid (HX.out.trans x2)
            clear x2
            go_wp2_with fail
            go_roundw
            case rel => exact ⟨s + 1, by omega, by go_num, by rw [sumC, HL2.out, Nat.add_sub_cancel, ← HCV.out, ← HSM.out], HX2.out⟩
            case measure => simp [intOf]; omega
          · obtain rfl : K = s := by omega
            have HFIN := Lib.hid (show z = sm % 1000000007 by rw [HN.out, HSM.out])
            have e1 : sm.tmod 1000000007 = z := by rw [HFIN.out]; exact Int.tmod_eq_emod_of_nonneg b1
            have e2 : sm % 1000000007 = z := HFIN.out.symm
            go_wp2_with fail
            go_ret2
            exact ⟨by rw [HE.out] <;> rfl, HX1.out.trans HX.out⟩
      · rw [findEr, if_pos hg, if_neg hfd] at HFI
        have HN := Lib.hid (show countN ls ys = 0 by rw [countN, if_neg (fun h => hfd h.2.2)])
        have HE := Lib.hid (show countEr ls ys = 0 by rw [countEr, if_pos hg, if_neg (by omega)])
        obtain ⟨A', m', c', rfl, hd0, hs, hm⟩ := hv.open_
        rw [hs.len] at h7
        have hd7 : decide (7 < (m' : Int)) = false := by simp; omega
        clear hu hv hg hfd hs hd0
        go_enter Try.func46, Try.ntmps46
        go_wp2_with (go_at_call 63; refine HB.out.mono ?_; rintro e w' ⟨rfl, rfl⟩)
        refine HFI.out.mono ?_
        rintro e W1 ⟨vg, rfl, og, x1⟩
        have HX1 := Lib.hid x1
        clear x1 og
        go_wp2_with fail
        go_ret2
        exact ⟨by rw [HN.out, HE.out] <;> rfl, HX1.out⟩
    · have HN := Lib.hid (show countN ls ys = 0 by rw [countN, if_neg (fun h => h7 h.2.1)])
      have HE := Lib.hid (show countEr ls ys = 4 by rw [countEr, if_pos hg, if_pos (by omega)])
      obtain ⟨A', m', c', rfl, hd0, hs, hm⟩ := hv.open_
      rw [hs.len] at h7
      have hd7 : decide (7 < (m' : Int)) = true := by simp; omega
      clear hu hv hg hs hd0
      go_enter Try.func46, Try.ntmps46
      go_wp2_with (go_at_call 63; refine HB.out.mono ?_; rintro e w' ⟨rfl, rfl⟩)
      go_ret2
      exact ⟨by rw [HN.out, HE.out] <;> rfl, Ext.refl _⟩
  · have HN := Lib.hid (show countN ls ys = 0 by rw [countN, if_neg (fun h => hg h.1)])
    have HE := Lib.hid (show countEr ls ys = bothE ls ys by rw [countEr, if_neg hg])
    have HB := Lib.hid (asked_any u v ls ys w hu hv)
    have hne : (bothE ls ys != 0) = true := by simpa using hg
    generalize bothE ls ys = er at *
    clear hu hv hg
    go_enter Try.func46, Try.ntmps46
    go_wp2_with (go_at_call 63; refine HB.out.mono ?_; rintro e w' ⟨rfl, rfl⟩)
    go_ret2
    exact ⟨by rw [HN.out, HE.out] <;> rfl, Ext.refl _⟩
end Go.Proofs.Ytaaceadcnnfngaa
