/- slices.Repeat of one tilt; copy of elements of several cells. Condition: the slice reads as a list of one. -/
import Derived.Test.YtkjgcmdabelohaaGreatMKind
import Derived.Test.YtkjgcmdabelohaaGreatMAcc
import Derived.Shelf.Bits.Mul64
import Derived.Deep.RegionLaw
import Derived.Laws.CopyOwn
import Derived.Deep.OwnRows
namespace Go.Proofs.YtkjgcmdabelohaaGreat
section
open Go

theorem run_copy_rowS (P : Program) (w : World) (dT sT ty elem : TypeId) (s n g o dLen dCap : Nat) (a : Addr) (sLen sCap : Nat) (cur : Array Value) (t : TypeId) (cs : List Value)
    (hu : P.underlying dT = some (.slice elem)) (hs : (P.info? elem).map (·.size) = some s)
    (hg : w.heap[g]? = some (.cells cur t (0, 0))) (hm : n = Nat.min sLen dLen) (hn : cs.length = n * s)
    (hsrc : ∀ j v, cs[j]? = some v → w.cell? (a.add j) = some v) (hfit : o + cs.length ≤ cur.size) (h1 : ∀ v ∈ cs, v.oneCell' = true) :
    (Builtin.copy_ #[dT, sT] ty #[.slice (some ⟨g, o, none⟩) dLen dCap, .slice (some a) sLen sCap]).run P w =
      .ok (goInt n) (w.setRow g (cur.toList.take o ++ cs ++ cur.toList.drop (o + cs.length)).toArray) := by
  have hl := run_loadCells_list (P := P) w a cs hsrc
  have hst := run_storeCells_at P g o t cs 0 cur w hg (by simpa using hfit) h1
  rw [hn] at hl
  cases hq : P.info? elem with
  | none => simp [hq] at hs
  | some i =>
    have hi : i.size = s := by simpa [hq] using hs
    simp [Builtin.copy_, run_underlying hu, Builtin.lenOf, Builtin.firstCells, sizeOf, typeInfo, hq, hi, ← hm, hl, hst]

open Go.RowKit in
theorem wpList_copyS {P : Program} {w : World} {ops : Array Oper} {rest : List Oper} {o : Oper} {a : Act} {Q : Exit → Act → World → Prop} (hgd : o.guard = none) (d s : Operand) (dT sT : TypeId)
    (ho : o.op = .call { callee := .builtin .copy, args := #[d, s], argTypes := #[dT, sT] }) (elem : TypeId) (k n : Nat) (hu : P.underlying dT = some (.slice elem)) (hsz : (P.info? elem).map (·.size) = some k)
    (g off dLen dCap : Nat) (ad : Addr) (sLen sCap : Nat) (hd : a.eval d = .slice (some ⟨g, off, none⟩) dLen dCap) (hs : a.eval s = .slice (some ad) sLen sCap)
    (cur : List Value) (t : TypeId) (hg : w.heap[g]? = some (.cells cur.toArray t (0, 0))) (cs : List Value) (hm : n = Nat.min sLen dLen) (hn : cs.length = n * k)
    (hsrc : ∀ j v, cs[j]? = some v → w.cell? (ad.add j) = some v) (hfit : off + cs.length ≤ cur.length) (h1 : ∀ v ∈ cs, v.oneCell' = true) (B : Nat) (w0 : World) (hb : Below B w0 w) (hBg : B ≤ g)
    (h : ∀ w', Hid (w'.heap[g]? = some (.cells (splice cur off cs).toArray t (0, 0))) → Below B w0 w' → wpList P ops Q rest (a.put o.dst (goInt n)) w') :
    wpList P ops Q (o :: rest) a w := by
  refine wpList_plain hgd fun K hK => ?_
  have hrun := run_copy_rowS P w dT sT o.type elem k n g off dLen dCap ad sLen sCap cur.toArray t cs hu hsz hg hm hn hsrc (by simpa using hfit) h1
  unfold Oper.wp
  simp [execOp, ho, resolve, invoke, builtin, hd, hs, hrun, Result.andThen]
  refine hK _ _ (h _ (show _ = _ by simpa [splice] using setRow_heap w g _ _ t _ hg) (below_setRow hb hBg _))

open Go.RowKit in
theorem step_copyS {P : Program} {ops : Array Oper} {o : Oper} {a : Act} {w : World} {K : Act → World → Prop} {Q : Exit → Act → World → Prop} {E : Prop} (hgd : o.guard = none) (d s : Operand) (dT sT : TypeId)
    (ho : o.op = .call { callee := .builtin .copy, args := #[d, s], argTypes := #[dT, sT] }) (elem : TypeId) (k n : Nat) (hu : P.underlying dT = some (.slice elem)) (hsz : (P.info? elem).map (·.size) = some k)
    (g off dLen dCap : Nat) (ad : Addr) (sLen sCap : Nat) (hd : a.eval d = .slice (some ⟨g, off, none⟩) dLen dCap) (hs : a.eval s = .slice (some ad) sLen sCap)
    (cur : List Value) (t : TypeId) (hg : w.heap[g]? = some (.cells cur.toArray t (0, 0))) (cs : List Value) (hm : n = Nat.min sLen dLen) (hn : cs.length = n * k)
    (hsrc : ∀ j v, cs[j]? = some v → w.cell? (ad.add j) = some v) (hfit : off + cs.length ≤ cur.length) (h1 : ∀ v ∈ cs, v.oneCell' = true) (B : Nat) (w0 : World) (hb : Below B w0 w) (hBg : B ≤ g)
    (h : ∀ w', Hid (w'.heap[g]? = some (.cells (splice cur off cs).toArray t (0, 0))) → Below B w0 w' → K (a.put o.dst (goInt n)) w') :
    if Region.wanted o (yielded ops a.tmps) = true then Oper.wp P o a w K Q else E := by
  have hw : Region.wanted o (yielded ops a.tmps) = true := by simp [Region.wanted, hgd]
  rw [if_pos hw]
  have hrun := run_copy_rowS P w dT sT o.type elem k n g off dLen dCap ad sLen sCap cur.toArray t cs hu hsz hg hm hn hsrc (by simpa using hfit) h1
  unfold Oper.wp
  simp [execOp, ho, resolve, invoke, builtin, hd, hs, hrun, Result.andThen]
  exact h _ (show _ = _ by simpa [splice] using setRow_heap w g _ _ t _ hg) (below_setRow hb hBg _)
end

section
open Go.RowKit Go.Lib
set_option maxHeartbeats 1000000 in
theorem mul64_anyS (x y : Nat) (hx : x < 18446744073709551616) (hy : y < 18446744073709551616) (w : World) :
    Calls Tryz.prog 101 #[.int .u64 x, .int .u64 y] w fun e w' => e = .returned (.tuple #[.int .u64 ((x * y / 18446744073709551616 : Nat) : Int), .int .u64 ((x * y % 18446744073709551616 : Nat) : Int)]) ∧ w = w' := by
  obtain ⟨bd, bt, bw, hhi⟩ := Lib.mul64_hi x y hx hy
  have ba := Lib.half_mul_le (a := x / 4294967296) (b := y / 4294967296) (by omega) (by omega)
  have bb := Lib.half_mul_le (a := x / 4294967296) (b := y % 4294967296) (by omega) (by omega)
  have bc := Lib.half_mul_le (a := x % 4294967296) (b := y / 4294967296) (by omega) (by omega)
  have ba' : x / 4294967296 * (y / 4294967296) < 18446744073709551616 := by omega
  have bb' : x / 4294967296 * (y % 4294967296) < 18446744073709551616 := by omega
  have bc' : x % 4294967296 * (y / 4294967296) < 18446744073709551616 := by omega
  have bh1 : x / 4294967296 * (y / 4294967296) + (x / 4294967296 * (y % 4294967296) + x % 4294967296 * (y % 4294967296) / 4294967296) / 4294967296 < 18446744073709551616 := by omega
  have bh : x / 4294967296 * (y / 4294967296) + (x / 4294967296 * (y % 4294967296) + x % 4294967296 * (y % 4294967296) / 4294967296) / 4294967296 + ((x / 4294967296 * (y % 4294967296) + x % 4294967296 * (y % 4294967296) / 4294967296) % 4294967296 + x % 4294967296 * (y / 4294967296)) / 4294967296 < 18446744073709551616 := by omega
  go_enter Tryz.func101, Tryz.ntmps101
  go_wp2
  simp only [Mul64.maskN x hx, Mul64.maskN y hy, Mul64.divN, Mul64.mulN, Mul64.addN, Mul64.wrapN _ bd, Mul64.wrapN _ bb', Mul64.wrapN _ bt, Mul64.maskN _ bt, Mul64.wrapN _ bc', Mul64.wrapN _ bw, Mul64.wrapN _ ba', Mul64.wrapN _ bh1, Mul64.wrapN _ bh, Mul64.wrapM (x * y)]
  rw [hhi]
  go_ret2
  exact ⟨rfl, rfl⟩
theorem mul_oneS_any (n : Nat) (hn : n ≤ 1000) (w : World) :
    Calls Tryz.prog 95 #[.int .u64 1, .int .u64 n] w fun e w' => e = .returned (.tuple #[.int .u64 0, .int .u64 n]) ∧ w = w' := by
  have c := mul64_anyS 1 n (by decide) (by omega) w
  rw [show ((1 * n / 18446744073709551616 : Nat) : Int) = 0 by omega, show ((1 * n % 18446744073709551616 : Nat) : Int) = n by omega] at c
  have C := Lib.hid c
  clear c
  go_enter Tryz.func95, Tryz.ntmps95
  go_wp2_with (go_at_call 101; refine C.out.mono ?_; rintro e w' ⟨rfl, rfl⟩)
  go_ret2
  exact ⟨rfl, rfl⟩
end

section
open Go.RowKit Go.Lib
/-- The row while it is filled: k elements are z. -/
def fillS (z : Int × Int) (n k : Nat) : List Value := (List.replicate k z ++ List.replicate (n - k) (0, 0)).flatMap spanK.enc
theorem flatS_len (l : List (Int × Int)) : (l.flatMap spanK.enc).length = l.length * 2 := flat_len spanK l
theorem fillS_len (z : Int × Int) {n k : Nat} (h : k ≤ n) : (fillS z n k).length = n * 2 := by
  unfold fillS
  rw [flatS_len]
  simp
  omega
theorem fillS_zero (z : Int × Int) (n : Nat) : fillS z n 0 = (List.replicate n (0, 0)).flatMap spanK.enc := by simp [fillS]
theorem fillS_full (z : Int × Int) (n : Nat) : fillS z n n = (List.replicate n z).flatMap spanK.enc := by simp [fillS]
theorem fillS_at (z : Int × Int) {n k m j : Nat} (hm : m ≤ k) {v : Value} (hj : ((List.replicate m z).flatMap spanK.enc)[j]? = some v) : (fillS z n k)[j]? = some v := by
  unfold fillS
  rw [show List.replicate k z = List.replicate m z ++ List.replicate (k - m) z by rw [List.replicate_append_replicate]; congr 1; omega, List.append_assoc, List.flatMap_append, List.getElem?_append_left (List.getElem?_eq_some_iff.1 hj).1]
  exact hj
theorem fillS_step (z : Int × Int) {n k m : Nat} (h : k + m ≤ n) : splice (fillS z n k) (k * 2) ((List.replicate m z).flatMap spanK.enc) = fillS z n (k + m) := by
  unfold splice fillS
  have e1 : ((List.replicate k z).flatMap spanK.enc).length = k * 2 := by rw [flatS_len, List.length_replicate]
  have e2 : ((List.replicate m (0, 0)).flatMap spanK.enc).length = ((List.replicate m z).flatMap spanK.enc).length := by rw [flatS_len, flatS_len, List.length_replicate, List.length_replicate]
  rw [show List.replicate (n - k) ((0, 0) : Int × Int) = List.replicate m (0, 0) ++ List.replicate (n - (k + m)) (0, 0) by rw [List.replicate_append_replicate]; congr 1; omega]
  rw [← List.replicate_append_replicate, List.flatMap_append, List.flatMap_append, List.take_left' e1, ← List.drop_drop, List.drop_left' e1, List.drop_left' e2, List.flatMap_append, List.flatMap_append, List.append_assoc]
theorem span_one (l : List (Int × Int)) : ∀ v ∈ l.flatMap spanK.enc, v.oneCell' = true := fun v hv => by
  obtain ⟨x, _, hx⟩ := List.mem_flatMap.1 hv
  exact spanK.one x v hx
theorem madeS (z : Int × Int) (n : Nat) : (madeCells #[.int .i64 0, .int .i64 0] (n * 2)) = (fillS z n 0).toArray := by
  rw [fillS_zero]
  apply Array.ext
  · have h := flatS_len (List.replicate n ((0, 0) : Int × Int))
    rw [List.length_replicate] at h
    exact (size_madeCells _ _).trans h.symm
  · intro i h1 h2
    have hi : i < n * 2 := by
      rw [List.size_toArray, flatS_len, List.length_replicate] at h2
      exact h2
    have h3 := flat_at spanK (List.replicate n (0, 0)) (i / 2) (by simp; omega) (i % 2) (Nat.mod_lt _ (by decide))
    rw [show i / 2 * spanK.k + i % 2 = i by show i / 2 * 2 + i % 2 = i; omega] at h3
    rw [List.getElem_replicate] at h3
    have h4 : ((List.replicate n ((0, 0) : Int × Int)).flatMap spanK.enc)[i]? = some (.int .i64 0) := by
      rw [h3]
      rcases (by omega : i % 2 = 0 ∨ i % 2 = 1) with h | h <;> rw [h] <;> rfl
    have h6 : ((List.replicate n ((0, 0) : Int × Int)).flatMap spanK.enc).toArray[i] = .int .i64 0 := by
      rw [List.getElem_toArray]
      exact (List.getElem?_eq_some_iff.1 h4).2
    rw [h6]
    simp only [madeCells, Array.getElem_map, Array.getElem_range]
    have h5 : i % 2 = 0 ∨ i % 2 = 1 := by omega
    simp
    rcases h5 with h | h <;> simp [h]

theorem run_makeS (n : Nat) (h : n ≤ 1000) (w : World) : (Instr.makeSlice 120 (.int .i64 (n : Int)) (.int .i64 (n : Int))).run Tryz.prog w = .ok (.slice (some ⟨w.heap.size, 0, none⟩) n n) (w.alloc (.cells (fillS (0, 0) n 0).toArray 123)) := by
  obtain ⟨i, hi, hzz⟩ := Option.map_eq_some_iff.1 spanK.info
  simp only [Prod.mk.injEq] at hzz
  obtain ⟨hz, hs, hb⟩ := hzz
  have := run_make (P := Tryz.prog) w 120 123 i _ Tryz.underlying120 hi hz .i64 .i64 n n (by omega) (Int.le_refl _) (by rw [hb]; show ((16 : Nat) : Int) * _ ≤ _; omega) (by omega)
  rw [Int.toNat_natCast, hs] at this
  rw [this]
  exact congrArg (fun c => Result.ok _ (w.alloc (.cells c 123))) (madeS (0, 0) n)

set_option maxRecDepth 100000 in
set_option maxHeartbeats 2000000 in
theorem repeatS_any (b0 c0 : Nat) (z : Int × Int) (n : Nat) (w : World) (z1 : w.cell? ⟨b0, 0, none⟩ = some (.int .i64 z.1)) (z2 : w.cell? ⟨b0, 1, none⟩ = some (.int .i64 z.2)) (hn : n ≤ 1000) :
    Calls Tryz.prog 83 #[.slice (some ⟨b0, 0, none⟩) 1 c0, .int .i64 n] w (RetE spanK w (List.replicate n z)) := by
  have HM := Lib.hid fun w => mul_oneS_any n hn w
  have hmk' := run_makeS n hn w
  obtain ⟨W0, hW0⟩ : ∃ W0, w.alloc (.cells (fillS (0, 0) n 0).toArray 123) = W0 := ⟨_, rfl⟩
  have hz0 : fillS (0, 0) n 0 = fillS z n 0 := by rw [fillS_zero, fillS_zero]
  have HS := Lib.hid (show ∀ (m : Nat), m ≤ 1 → ∀ (j : Nat) v, ((List.replicate m z).flatMap spanK.enc)[j]? = some v → W0.cell? ((⟨b0, 0, none⟩ : Addr).add j) = some v from fun m hm j v hj => by
    have hx : Ext w W0 := by rw [← hW0]; exact (Ext.refl w).alloc _
    have e : ((List.replicate 1 z).flatMap spanK.enc)[j]? = some v := by
      rcases (by omega : m = 0 ∨ m = 1) with rfl | rfl
      · simp at hj
      · exact hj
    match j with
    | 0 =>
      simp only [List.replicate, List.flatMap_cons, spanK, List.cons_append, List.getElem?_cons_zero, Option.some.injEq] at e
      subst e
      exact hx.cell_some z1
    | 1 =>
      simp only [List.replicate, List.flatMap_cons, spanK, List.cons_append, List.getElem?_cons_succ, List.getElem?_cons_zero, Option.some.injEq] at e
      subst e
      exact hx.cell_some z2
    | j + 2 => simp [spanK] at e)
  have HG := Lib.hid (show W0.heap[w.heap.size]? = some (.cells (fillS z n 0).toArray 123 (0, 0)) by
    rw [← hW0, ← hz0]
    exact heap_alloc_new w _)
  have HX := Lib.hid (show Ext w W0 by rw [← hW0]; exact (Ext.refl w).alloc _)
  have HSZ := Lib.hid (show (Tryz.prog.info? 123).map (·.size) = some 2 by kernel_rfl)
  obtain ⟨m0, hm0⟩ : ∃ m0, m0 = Nat.min 1 n := ⟨_, rfl⟩
  have hm1 : m0 ≤ 1 := by rw [hm0]; exact Nat.min_le_left ..
  have hm2 : m0 ≤ n := by rw [hm0]; exact Nat.min_le_right ..
  have hm3 : n ≠ 0 → m0 = 1 := by rw [hm0]; intro h; show min 1 n = 1; omega
  have HN := Lib.hid hm0
  have HLN := Lib.hid fun m : Nat => (show ((List.replicate m z).flatMap spanK.enc).length = m * 2 by rw [flatS_len, List.length_replicate])
  have HF := Lib.hid (show 0 + ((List.replicate m0 z).flatMap spanK.enc).length ≤ (fillS z n 0).length by rw [flatS_len, fillS_len z (by omega), List.length_replicate]; omega)
  have HST := Lib.hid fun (k m : Nat) (h : k + m ≤ n) => fillS_step z h
  rw [hW0] at hmk'
  clear hW0 hz0 z1 z2 hm0
  go_enter Tryz.func83, Tryz.ntmps83
  go_wp2_with (first
    | (go_at_call 95; refine (HM.out _).mono ?_; rintro e w' ⟨rfl, rfl⟩)
    | (refine wpList_copyS rfl (.tmp 31) (.tmp 32) 120 120 rfl 123 2 m0 Tryz.underlying120 HSZ.out w.heap.size 0 _ _ _ _ _ rfl rfl (fillS z n 0) 123 HG.out ((List.replicate m0 z).flatMap spanK.enc) HN.out (HLN.out m0) (HS.out m0 hm1) HF.out (span_one _) w.heap.size W0 (Below.refl _ _) (Nat.le_refl _) ?_; intro w1 hg1 hb1))
  have HF1 := Lib.hid (show splice (fillS z n 0) 0 ((List.replicate m0 z).flatMap spanK.enc) = fillS z n m0 from by
    have := HST.out 0 m0 (by omega)
    rwa [Nat.zero_mul, Nat.zero_add] at this)
  rw [HF1.out] at hg1
  have HX1 := Lib.hid (HX.out.below hb1 (Nat.le_refl _))
  clear hb1
  go_loopw [8] (fun i wr => ∃ k : Nat, (n ≠ 0 → 1 ≤ k) ∧ k ≤ n ∧ i = .int .i64 k ∧ Hid (wr.heap[w.heap.size]? = some (.cells (fillS z n k).toArray 123 (0, 0))) ∧ Ext w wr) (fun i _ => n - (intOf i).toNat)
  case atStart => exact ⟨m0, fun h => by rw [hm3 h]; omega, by omega, rfl, hg1, HX1.out⟩
  case round =>
    obtain ⟨k, hk1, hk, rfl, hg, hx⟩ := hrel
    have HXR := Lib.hid hx
    clear hx
    by_cases hlt : k < n
    · replace hk1 := hk1 (by omega)
      obtain ⟨m, hmm⟩ : ∃ m, min (n - k) k = m := ⟨_, rfl⟩
      have hm1 : 1 ≤ m := by omega
      have hm2 : k + m ≤ n := by omega
      have hm3 : m ≤ k := by omega
      have HST := Lib.hid (HST.out k m hm2)
      have HMM := Lib.hid (show m = Nat.min k (n - k) by rw [← hmm]; show min _ _ = min _ _; omega)
      have HSR := Lib.hid (show ∀ (j : Nat) v, ((List.replicate m z).flatMap spanK.enc)[j]? = some v → wr.cell? ((⟨w.heap.size, 0, none⟩ : Addr).add j) = some v from fun j v hj => by
        have h1 := fillS_at z (n := n) (k := k) hm3 hj
        simp only [Addr.add]
        split <;> simp_all [World.cell?, show wr.heap[w.heap.size]? = _ from hg.out])
      have HFI := Lib.hid (show k * 2 + ((List.replicate m z).flatMap spanK.enc).length ≤ (fillS z n k).length by rw [fillS_len z hk, flatS_len, List.length_replicate]; omega)
      have HW := Lib.hid (show IntKind.i64.wrap ((k : Int) + (m : Int)) = ((k + m : Nat) : Int) by rw [IntKind.wrap_i64]; omega)
      clear hmm
      go_wp2_with fail
      go_region_law (go_loud (refine step_copyS rfl (.tmp 41) (.tmp 44) 120 120 rfl 123 2 m Tryz.underlying120 HSZ.out w.heap.size (k * 2) (n - k) (n - k) ⟨w.heap.size, 0, none⟩ k n (by simp [Act.eval, Act.put] <;> omega) (by simp [Act.eval, Act.put]) (fillS z n k) 123 hg.out ((List.replicate m z).flatMap spanK.enc) HMM.out (HLN.out m) HSR.out HFI.out (span_one _) w.heap.size _ (Below.refl _ _) (Nat.le_refl _) ?_; intro w4 hg4 hb4; rw [HST.out] at hg4))
      all_goals go_wp2_with fail
      all_goals go_roundw
      case rel => exact ⟨k + m, fun _ => by omega, by omega, by rw [HW.out], hg4, (HXR.out.drew).below hb4 (Nat.le_refl _)⟩
      case measure => simp [intOf, HW.out]; omega
    · obtain rfl : k = n := by omega
      go_wp2_with fail
      go_ret
      refine ⟨.slice (some ⟨w.heap.size, 0, none⟩) k k, rfl, ?_, HXR.out⟩
      have hg' := hg.out
      rw [fillS_full] at hg'
      exact ⟨flat_len spanK _, .inr ⟨w.heap.size, k, _, by rw [List.length_replicate], Nat.le_refl _, hg', by simp, by unfold maxLen; omega, by rw [List.size_toArray, flatS_len, List.length_replicate]; rfl, by rw [List.toList_toArray, ← flat_len, List.take_length]⟩⟩
end
end Go.Proofs.YtkjgcmdabelohaaGreat
