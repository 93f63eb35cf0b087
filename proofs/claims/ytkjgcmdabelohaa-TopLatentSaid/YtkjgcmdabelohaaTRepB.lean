/- slices.Repeat of one bool. Condition: the slice reads as a list of one. -/
import Derived.Test.YtkjgcmdabelohaaLRep
import Derived.Test.YtkjgcmdabelohaaLSameB
namespace Go.Proofs.Ytkjgcmdabelohaa
open Go.RowKit Go.Lib

theorem madeCells_oneB (z : Value) (n : Nat) : madeCells #[z] n = (List.replicate n z).toArray := by
  apply Array.ext
  · simp [madeCells]
  · intro i h1 h2
    simp [madeCells, Nat.mod_one]

/-- The row while it is filled: k cells are z. -/
def fillB (z : Bool) (n k : Nat) : List Value := List.replicate k (.bool z) ++ List.replicate (n - k) (.bool false)
theorem fillB_len (z : Bool) {n k : Nat} (h : k ≤ n) : (fillB z n k).length = n := by simp [fillB]; omega
theorem fillB_at (z : Bool) {n k j : Nat} (h : j < k) : (fillB z n k)[j]? = some (.bool z) := by
  rw [fillB, List.getElem?_append_left (by simpa using h), List.getElem?_replicate, if_pos h]
theorem fillB_step (z : Bool) {n k : Nat} (h : k ≤ n) : splice (fillB z n k) k (List.replicate (min (n - k) k) (.bool z)) = fillB z n (k + min (n - k) k) := by
  rw [splice, fillB, List.take_left' (by simp), List.length_replicate, List.drop_append, List.drop_replicate, List.drop_replicate, List.length_replicate, fillB, ← List.replicate_append_replicate, List.append_assoc]
  rw [show k - (k + min (n - k) k) = 0 by omega, show n - k - (k + min (n - k) k - k) = n - (k + min (n - k) k) by omega]
  simp

theorem repB_enc (z : Bool) : ∀ k, List.replicate k (Value.bool z) = (List.replicate k z).flatMap boolK.enc
  | 0 => rfl
  | k + 1 => by
    rw [List.replicate_succ, List.replicate_succ, List.flatMap_cons, ← repB_enc z k]
    rfl

set_option maxRecDepth 100000 in
set_option maxHeartbeats 1000000 in
theorem repeatB_any (u : Value) (z : Bool) (n : Nat) (w : World) (hu : boolK.Is w u [z]) (h1 : 1 ≤ n) (hn : n ≤ 1000) :
    Calls Try.prog 71 #[u, .int .i64 n] w (RetE boolK w (List.replicate n z)) := by
  obtain ⟨A, m, c, rfl, hm, hc0, hr, -⟩ := hu.open_
  obtain rfl : m = 1 := by simpa using hm.symm
  obtain ⟨b, o, rfl, hb, hc⟩ := bools_at hr 0 (by simp)
  replace hc : w.cell? ⟨b, o, none⟩ = some (.bool z) := hc
  have HC := Lib.hid hc
  have HM := Lib.hid fun w => mul_oneL_any n hn w
  have hmk : ∀ w : World, (Instr.makeSlice 45 (.int .i64 (n : Int)) (.int .i64 (n : Int))).run Try.prog w = .ok (.slice (some ⟨w.heap.size, 0, none⟩) n n) (w.alloc (.cells (madeCells #[.bool false] n) 4)) := fun w =>
    run_make_row' (P := Try.prog) 45 4 (.bool false) 1 Try.underlying45 boolK.info rfl .i64 .i64 n (by omega) (by omega) w
  obtain ⟨W0, hW0⟩ : ∃ W0, w.alloc (.cells (madeCells #[.bool false] n) 4) = W0 := ⟨_, rfl⟩
  have hS : ∀ (j : Nat) v, [Value.bool z][j]? = some v → W0.cell? ((⟨b, o, none⟩ : Addr).add j) = some v := fun j v hj => by
    match j with
    | 0 =>
      simp only [List.getElem?_cons_zero, Option.some.injEq] at hj
      subst hj
      rw [← hW0]
      exact (Ext.cell_some ((Ext.refl w).alloc _) hc)
    | j + 1 => simp at hj
  have hG : W0.heap[w.heap.size]? = some (.cells (List.replicate n (Value.bool false)).toArray 4 (0, 0)) := by
    rw [← hW0, ← madeCells_oneB]
    exact heap_alloc_new w _
  have HS := Lib.hid hS
  have HG := Lib.hid hG
  have HX := Lib.hid (show Ext w W0 by rw [← hW0]; exact (Ext.refl w).alloc _)
  have HN := Lib.hid (show [Value.bool z].length = Nat.min 1 n by show 1 = min 1 n; omega)
  have HF := Lib.hid (show 0 + [Value.bool z].length ≤ (List.replicate n (Value.bool false)).length by simp; omega)
  have HV := Lib.hid (show ∀ v ∈ [Value.bool z], v.oneCell' = true by simp [Value.oneCell'])
  have HSZ := Lib.hid (show (Try.prog.info? 4).map (·.size) = some 1 by kernel_rfl)
  have hmk' := hmk w
  rw [hW0] at hmk'
  clear hc hr hu hc0 hS hG hW0 hmk
  go_enter Try.func71, Try.ntmps71
  go_wp2_with (first
    | (go_at_call 100; refine (HM.out _).mono ?_; rintro e w' ⟨rfl, rfl⟩)
    | (refine wpList_copy_splice rfl (.tmp 31) (.tmp 32) 45 45 rfl 4 Try.underlying45 HSZ.out _ _ _ _ _ _ rfl rfl w.heap.size 0 _ 4 HG.out [Value.bool z] HN.out (fun _ => ⟨rfl, _, rfl, HS.out⟩) HF.out HV.out w.heap.size W0 (Below.refl _ _) (Nat.le_refl _) ?_; intro w1 hg1 hb1))
  have HF1 := Lib.hid (show splice (List.replicate n (Value.bool false)) 0 [Value.bool z] = fillB z n 1 by
    obtain ⟨m, rfl⟩ : ∃ m, n = m + 1 := ⟨n - 1, by omega⟩
    simp [splice, fillB, List.replicate_succ])
  rw [HF1.out] at hg1
  have HX1 := Lib.hid (HX.out.below hb1 (Nat.le_refl _))
  clear hb1
  go_loopw [8] (fun i wr => ∃ k : Nat, 1 ≤ k ∧ k ≤ n ∧ i = .int .i64 k ∧ Hid (wr.heap[w.heap.size]? = some (.cells (fillB z n k).toArray 4 (0, 0))) ∧ Ext w wr) (fun i _ => n - (intOf i).toNat)
  case atStart => exact ⟨1, by omega, by omega, rfl, hg1, HX1.out⟩
  case round =>
    obtain ⟨k, hk1, hk, rfl, hg, hx⟩ := hrel
    have HXR := Lib.hid hx
    clear hx
    by_cases hlt : k < n
    · obtain ⟨m, hmm⟩ : ∃ m, min (n - k) k = m := ⟨_, rfl⟩
      have hm1 : 1 ≤ m := by omega
      have hm2 : k + m ≤ n := by omega
      have hm3 : m ≤ k := by omega
      have hst := fillB_step z (n := n) (k := k) hk
      rw [hmm] at hst
      have HST := Lib.hid hst
      have HMM := Lib.hid (show (List.replicate m (Value.bool z)).length = Nat.min k (n - k) by rw [List.length_replicate, ← hmm]; show min _ _ = min _ _; omega)
      have HL := Lib.hid (show goInt (List.replicate m (Value.bool z)).length = Value.int .i64 (m : Int) by rw [List.length_replicate]; rfl)
      have HSR := Lib.hid (show ∀ (j : Nat) v, (List.replicate m (Value.bool z))[j]? = some v → wr.cell? ((⟨w.heap.size, 0, none⟩ : Addr).add j) = some v from fun j v hj => by
        rw [List.getElem?_replicate] at hj
        split at hj
        · rename_i hjm
          cases hj
          have h1 := fillB_at z (n := n) (k := k) (j := j) (by omega)
          simp only [Addr.add]
          split <;> simp_all [World.cell?, show wr.heap[w.heap.size]? = _ from hg.out]
        · cases hj)
      have HFI := Lib.hid (show k + (List.replicate m (Value.bool z)).length ≤ (fillB z n k).length by rw [fillB_len z hk, List.length_replicate]; exact hm2)
      have HW := Lib.hid (show IntKind.i64.wrap ((k : Int) + (m : Int)) = ((k + m : Nat) : Int) by rw [IntKind.wrap_i64]; omega)
      have HV := Lib.hid (show ∀ v ∈ List.replicate m (Value.bool z), v.oneCell' = true from fun v hv => by rw [List.eq_of_mem_replicate hv]; rfl)
      clear hmm hst
      go_wp2_with fail
      go_region_law (go_loud (refine step_copy_splice rfl (.tmp 41) (.tmp 44) 45 45 rfl 4 Try.underlying45 HSZ.out (some ⟨w.heap.size, k, none⟩) (some ⟨w.heap.size, 0, none⟩) (n - k) (n - k) k n (by simp [Act.eval, Act.put] <;> omega) (by simp [Act.eval, Act.put]) w.heap.size k (fillB z n k) 4 hg.out (List.replicate m (Value.bool z)) HMM.out (fun _ => ⟨rfl, _, rfl, HSR.out⟩) HFI.out HV.out w.heap.size _ (Below.refl _ _) (Nat.le_refl _) ?_; intro w4 hg4 hb4; rw [HL.out]; rw [HST.out] at hg4))
      all_goals go_wp2_with fail
      all_goals go_roundw
      case rel => exact ⟨k + m, by omega, by omega, by rw [HW.out], hg4, (HXR.out.drew).below hb4 (Nat.le_refl _)⟩
      case measure => simp [intOf, HW.out]; omega
    · obtain rfl : k = n := by omega
      go_wp2_with fail
      go_ret
      refine ⟨.slice (some ⟨w.heap.size, 0, none⟩) k k, rfl, ?_, HXR.out⟩
      have hz : fillB z k k = (List.replicate k z).flatMap boolK.enc := by
        unfold fillB
        rw [Nat.sub_self, List.replicate_zero, List.append_nil]
        exact repB_enc z k
      have hg' := hg.out
      rw [hz] at hg'
      exact ⟨flat_len boolK _, .inr ⟨w.heap.size, k, _, by rw [List.length_replicate], Nat.le_refl _, hg', by simp, by unfold maxLen; omega, by rw [List.size_toArray, flat_len boolK, List.length_replicate], by rw [List.toList_toArray, ← flat_len boolK, List.take_length]⟩⟩
end Go.Proofs.Ytkjgcmdabelohaa
