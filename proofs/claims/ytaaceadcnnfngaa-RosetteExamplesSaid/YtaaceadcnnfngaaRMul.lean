/- math/bits.Mul of small numbers; slices.Repeat of one number. Condition: the slice reads as a list. -/
import Derived.Test.YtaaceadcnnfngaaRTurn
import Derived.Test.YtaaceadcnnfngaaRSame
import Derived.Test.YtaaceadcnnfngaaRRub
import Derived.Shelf.Bits.Mul64
import Derived.Deep.RegionLaw
import Derived.Laws.CopyOwn
import Derived.Deep.OwnRows
namespace Go.Proofs.Ytaaceadcnnfngaa
open Go.RowKit Go.Lib

set_option maxHeartbeats 1000000 in
theorem mul64_any (x y : Nat) (hx : x < 18446744073709551616) (hy : y < 18446744073709551616) (w : World) :
    Calls Try.prog 105 #[.int .u64 x, .int .u64 y] w fun e w' => e = .returned (.tuple #[.int .u64 ((x * y / 18446744073709551616 : Nat) : Int), .int .u64 ((x * y % 18446744073709551616 : Nat) : Int)]) ∧ w = w' := by
  obtain ⟨bd, bt, bw, hhi⟩ := Lib.mul64_hi x y hx hy
  have ba := Lib.half_mul_le (a := x / 4294967296) (b := y / 4294967296) (by omega) (by omega)
  have bb := Lib.half_mul_le (a := x / 4294967296) (b := y % 4294967296) (by omega) (by omega)
  have bc := Lib.half_mul_le (a := x % 4294967296) (b := y / 4294967296) (by omega) (by omega)
  have ba' : x / 4294967296 * (y / 4294967296) < 18446744073709551616 := by omega
  have bb' : x / 4294967296 * (y % 4294967296) < 18446744073709551616 := by omega
  have bc' : x % 4294967296 * (y / 4294967296) < 18446744073709551616 := by omega
  have bh1 : x / 4294967296 * (y / 4294967296) + (x / 4294967296 * (y % 4294967296) + x % 4294967296 * (y % 4294967296) / 4294967296) / 4294967296 < 18446744073709551616 := by omega
  have bh : x / 4294967296 * (y / 4294967296) + (x / 4294967296 * (y % 4294967296) + x % 4294967296 * (y % 4294967296) / 4294967296) / 4294967296 + ((x / 4294967296 * (y % 4294967296) + x % 4294967296 * (y % 4294967296) / 4294967296) % 4294967296 + x % 4294967296 * (y / 4294967296)) / 4294967296 < 18446744073709551616 := by omega
  go_enter Try.func105, Try.ntmps105
  go_wp2
  simp only [Mul64.maskN x hx, Mul64.maskN y hy, Mul64.divN, Mul64.mulN, Mul64.addN, Mul64.wrapN _ bd, Mul64.wrapN _ bb', Mul64.wrapN _ bt, Mul64.maskN _ bt, Mul64.wrapN _ bc', Mul64.wrapN _ bw, Mul64.wrapN _ ba', Mul64.wrapN _ bh1, Mul64.wrapN _ bh, Mul64.wrapM (x * y)]
  rw [hhi]
  go_ret2
  exact ⟨rfl, rfl⟩
theorem mul_one_any (n : Nat) (hn : n ≤ 1000) (w : World) :
    Calls Try.prog 99 #[.int .u64 1, .int .u64 n] w fun e w' => e = .returned (.tuple #[.int .u64 0, .int .u64 n]) ∧ w = w' := by
  have c := mul64_any 1 n (by decide) (by omega) w
  rw [show ((1 * n / 18446744073709551616 : Nat) : Int) = 0 by omega, show ((1 * n % 18446744073709551616 : Nat) : Int) = n by omega] at c
  have C := Lib.hid c
  clear c
  go_enter Try.func99, Try.ntmps99
  go_wp2_with (go_at_call 105; refine C.out.mono ?_; rintro e w' ⟨rfl, rfl⟩)
  go_ret2
  exact ⟨rfl, rfl⟩

theorem madeCells_one (z : Value) (n : Nat) : madeCells #[z] n = (List.replicate n z).toArray := by
  apply Array.ext
  · simp [madeCells]
  · intro i h1 h2
    simp [madeCells, Nat.mod_one]

/-- The row while it is filled: k cells are z. -/
def fillL (z : Int) (n k : Nat) : List Value := List.replicate k (.int .i64 z) ++ List.replicate (n - k) (.int .i64 0)
theorem fillL_len (z : Int) {n k : Nat} (h : k ≤ n) : (fillL z n k).length = n := by simp [fillL]; omega
theorem fillL_at (z : Int) {n k j : Nat} (h : j < k) : (fillL z n k)[j]? = some (.int .i64 z) := by
  rw [fillL, List.getElem?_append_left (by simpa using h), List.getElem?_replicate, if_pos h]
theorem fillL_step (z : Int) {n k : Nat} (h : k ≤ n) : splice (fillL z n k) k (List.replicate (min (n - k) k) (.int .i64 z)) = fillL z n (k + min (n - k) k) := by
  rw [splice, fillL, List.take_left' (by simp), List.length_replicate, List.drop_append, List.drop_replicate, List.drop_replicate, List.length_replicate, fillL, ← List.replicate_append_replicate, List.append_assoc]
  rw [show k - (k + min (n - k) k) = 0 by omega, show n - k - (k + min (n - k) k - k) = n - (k + min (n - k) k) by omega]
  simp

set_option maxRecDepth 100000 in
set_option maxHeartbeats 1000000 in
theorem repeat_any (u : Value) (z : Int) (n : Nat) (w : World) (hu : IsI w u [z]) (h1 : 1 ≤ n) (hn : n ≤ 1000) :
    Calls Try.prog 84 #[u, .int .i64 n] w (RetO w (List.replicate n z)) := by
  obtain ⟨A, m, c, rfl, hc0, hr, hm⟩ := hu.open_
  obtain rfl : m = 1 := by have := hr.len; simpa using this.symm
  obtain ⟨b, o, rfl, hb, hc⟩ := hr.at_ 0 (by decide)
  have HC := Lib.hid hc
  have HM := Lib.hid fun w => mul_one_any n hn w
  have hmk : ∀ w : World, (Instr.makeSlice 22 (.int .i64 (n : Int)) (.int .i64 (n : Int))).run Try.prog w = .ok (.slice (some ⟨w.heap.size, 0, none⟩) n n) (w.alloc (.cells (madeCells #[.int .i64 0] n) 3)) := fun w =>
    run_make_row' (P := Try.prog) 22 3 (.int .i64 0) 8 Try.underlying22 intInfo rfl .i64 .i64 n (by omega) (by omega) w
  obtain ⟨W0, hW0⟩ : ∃ W0, w.alloc (.cells (madeCells #[.int .i64 0] n) 3) = W0 := ⟨_, rfl⟩
  have hS : ∀ (j : Nat) v, [Value.int .i64 z][j]? = some v → W0.cell? ((⟨b, o, none⟩ : Addr).add j) = some v := fun j v hj => by
    match j with
    | 0 =>
      simp only [List.getElem?_cons_zero, Option.some.injEq] at hj
      subst hj
      rw [← hW0]
      exact (Ext.cell_some ((Ext.refl w).alloc _) hc)
    | j + 1 => simp at hj
  have hG : W0.heap[w.heap.size]? = some (.cells (List.replicate n (Value.int .i64 0)).toArray 3 (0, 0)) := by
    rw [← hW0, ← madeCells_one]
    exact heap_alloc_new w _
  have HS := Lib.hid hS
  have HG := Lib.hid hG
  have HX := Lib.hid (show Ext w W0 by rw [← hW0]; exact (Ext.refl w).alloc _)
  have HN := Lib.hid (show [Value.int .i64 z].length = Nat.min 1 n by show 1 = min 1 n; omega)
  have HF := Lib.hid (show 0 + [Value.int .i64 z].length ≤ (List.replicate n (Value.int .i64 0)).length by simp; omega)
  have HV := Lib.hid (show ∀ v ∈ [Value.int .i64 z], v.oneCell' = true by simp [Value.oneCell'])
  have HSZ := Lib.hid (show (Try.prog.info? 3).map (·.size) = some 1 by kernel_rfl)
  have hmk' := hmk w
  rw [hW0] at hmk'
  clear hc hr hu hc0 hS hG hW0 hmk
  go_enter Try.func84, Try.ntmps84
  go_wp2_with (first
    | (go_at_call 99; refine (HM.out _).mono ?_; rintro e w' ⟨rfl, rfl⟩)
    | (refine wpList_copy_splice rfl (.tmp 31) (.tmp 32) 22 22 rfl 3 Try.underlying22 HSZ.out _ _ _ _ _ _ rfl rfl w.heap.size 0 _ 3 HG.out [Value.int .i64 z] HN.out (fun _ => ⟨rfl, _, rfl, HS.out⟩) HF.out HV.out w.heap.size W0 (Below.refl _ _) (Nat.le_refl _) ?_; intro w1 hg1 hb1))
  have HF1 := Lib.hid (show splice (List.replicate n (Value.int .i64 0)) 0 [Value.int .i64 z] = fillL z n 1 by
    obtain ⟨m, rfl⟩ : ∃ m, n = m + 1 := ⟨n - 1, by omega⟩
    simp [splice, fillL, List.replicate_succ])
  rw [HF1.out] at hg1
  have HX1 := Lib.hid (HX.out.below hb1 (Nat.le_refl _))
  clear hb1
  go_loopw [8] (fun i wr => ∃ k : Nat, 1 ≤ k ∧ k ≤ n ∧ i = .int .i64 k ∧ Hid (wr.heap[w.heap.size]? = some (.cells (fillL z n k).toArray 3 (0, 0))) ∧ Ext w wr) (fun i _ => n - (intOf i).toNat)
  case atStart => exact ⟨1, by omega, by omega, rfl, hg1, HX1.out⟩
  case round =>
    obtain ⟨k, hk1, hk, rfl, hg, hx⟩ := hrel
    have HXR := Lib.hid hx
    clear hx
    by_cases hlt : k < n
    · obtain ⟨m, hmm⟩ : ∃ m, min (n - k) k = m := ⟨_, rfl⟩
      have hm1 : 1 ≤ m := by omega
      have hm2 : k + m ≤ n := by omega
      have hm3 : m ≤ k := by omega
      have hst := fillL_step z (n := n) (k := k) hk
      rw [hmm] at hst
      have HST := Lib.hid hst
      have HMM := Lib.hid (show (List.replicate m (Value.int .i64 z)).length = Nat.min k (n - k) by rw [List.length_replicate, ← hmm]; show min _ _ = min _ _; omega)
      have HL := Lib.hid (show goInt (List.replicate m (Value.int .i64 z)).length = Value.int .i64 (m : Int) by rw [List.length_replicate]; rfl)
      have HSR := Lib.hid (show ∀ (j : Nat) v, (List.replicate m (Value.int .i64 z))[j]? = some v → wr.cell? ((⟨w.heap.size, 0, none⟩ : Addr).add j) = some v from fun j v hj => by
        rw [List.getElem?_replicate] at hj
        split at hj
        · rename_i hjm
          cases hj
          have h1 := fillL_at z (n := n) (k := k) (j := j) (by omega)
          simp only [Addr.add]
          split <;> simp_all [World.cell?, show wr.heap[w.heap.size]? = _ from hg.out]
        · cases hj)
      have HFI := Lib.hid (show k + (List.replicate m (Value.int .i64 z)).length ≤ (fillL z n k).length by rw [fillL_len z hk, List.length_replicate]; exact hm2)
      have HW := Lib.hid (show IntKind.i64.wrap ((k : Int) + (m : Int)) = ((k + m : Nat) : Int) by rw [IntKind.wrap_i64]; omega)
      have HV := Lib.hid (show ∀ v ∈ List.replicate m (Value.int .i64 z), v.oneCell' = true from fun v hv => by rw [List.eq_of_mem_replicate hv]; rfl)
      clear hmm hst
      go_wp2_with fail
      go_region_law (go_loud (refine step_copy_splice rfl (.tmp 41) (.tmp 44) 22 22 rfl 3 Try.underlying22 HSZ.out (some ⟨w.heap.size, k, none⟩) (some ⟨w.heap.size, 0, none⟩) (n - k) (n - k) k n (by simp [Act.eval, Act.put] <;> omega) (by simp [Act.eval, Act.put]) w.heap.size k (fillL z n k) 3 hg.out (List.replicate m (Value.int .i64 z)) HMM.out (fun _ => ⟨rfl, _, rfl, HSR.out⟩) HFI.out HV.out w.heap.size _ (Below.refl _ _) (Nat.le_refl _) ?_; intro w4 hg4 hb4; rw [HL.out]; rw [HST.out] at hg4))
      all_goals go_wp2_with fail
      all_goals go_roundw
      case rel => exact ⟨k + m, by omega, by omega, by rw [HW.out], hg4, (HXR.out.drew).below hb4 (Nat.le_refl _)⟩
      case measure => simp [intOf, HW.out]; omega
    · obtain rfl : k = n := by omega
      go_wp2_with fail
      go_ret
      refine ⟨.slice (some ⟨w.heap.size, 0, none⟩) k k, rfl, ?_, HXR.out⟩
      have hz : fillL z k k = (List.replicate k z).map (Value.int .i64) := by simp [fillL]
      have hg' := hg.out
      rw [hz] at hg'
      exact ⟨by simp, .inr ⟨w.heap.size, k, _, by rw [List.length_replicate], Nat.le_refl _, hg', by simp, by unfold maxLen; omega, by simp, by simp⟩⟩
end Go.Proofs.Ytaaceadcnnfngaa
