/- The iterator over the rules: it yields each rule, in order. Condition: the table lies there. -/
import Derived.Test.YtgeapenglcohfaaGRulP
import Derived.Test.YtgeapenglcohfaaGSegs
import Derived.Test.YtgeapenglcohfaaQS
namespace Go.Proofs.Ytgeapenglcohfaa
open Go.RowKit

/-- The rules among the first t places. -/
def prsTo (M : Nat → Nat → Bool) (t : Nat) : List (Nat × Nat) := ((List.range t).map fun q => (q / 16, q % 16)).filter fun p => M p.1 p.2
def prsL (M : Nat → Nat → Bool) : List (Nat × Nat) := prsTo M 256
theorem prsTo_succ (M : Nat → Nat → Bool) (i m : Nat) (hm : m < 16) : prsTo M (i * 16 + (m + 1)) = prsTo M (i * 16 + m) ++ (if M i m then [(i, m)] else []) := by
  unfold prsTo
  rw [← Nat.add_assoc, List.range_succ, List.map_append, List.filter_append]
  congr 1
  rw [List.map_singleton, show (i * 16 + m) / 16 = i by omega, show (i * 16 + m) % 16 = m by omega]
  cases h : M i m <;> simp [h]
theorem prsTo_pre (M : Nat → Nat → Bool) {t s : Nat} (h : t ≤ s) : ∃ r, prsTo M s = prsTo M t ++ r := by
  obtain ⟨d, rfl⟩ := Nat.exists_eq_add_of_le h
  unfold prsTo
  rw [List.range_add, List.map_append, List.filter_append]
  exact ⟨_, rfl⟩
theorem prs_at (M : Nat → Nat → Bool) {i m : Nat} (hi : i < 16) (hm : m < 16) (h : M i m = true) : ∃ hc : (prsTo M (i * 16 + m)).length < (prsL M).length, (prsL M)[(prsTo M (i * 16 + m)).length] = (i, m) := by
  obtain ⟨r, hr⟩ := prsTo_pre M (t := i * 16 + (m + 1)) (s := 256) (by omega)
  rw [prsTo_succ M i m hm, h, if_pos rfl] at hr
  have hl : (prsTo M (i * 16 + m)).length < (prsL M).length := by unfold prsL; rw [hr]; simp
  refine ⟨hl, ?_⟩
  have : (prsL M)[(prsTo M (i * 16 + m)).length]? = some (i, m) := by unfold prsL; rw [hr]; simp
  rw [List.getElem?_eq_getElem hl] at this
  exact Option.some.inj this
theorem mem_prsL (M : Nat → Nat → Bool) {i m : Nat} : (i, m) ∈ prsL M ↔ i < 16 ∧ m < 16 ∧ M i m = true := by
  unfold prsL prsTo
  rw [List.mem_filter, List.mem_map]
  constructor
  · rintro ⟨⟨q, hq, he⟩, h⟩
    have := List.mem_range.1 hq
    cases he
    exact ⟨by omega, by omega, h⟩
  · rintro ⟨h1, h2, h3⟩
    exact ⟨⟨i * 16 + m, List.mem_range.2 (by omega), by rw [show (i * 16 + m) / 16 = i by omega, show (i * 16 + m) % 16 = m by omega]⟩, h3⟩

/-- The table's cells. -/
def MatC (g : Nat) (M : Nat → Nat → Bool) (W : World) : Prop := ∀ i j, i < 16 → j < 16 → W.cell? ⟨g, i * 16 + j, none⟩ = some (.bool (M i j))
theorem MatIs.c {g : Nat} {M : Nat → Nat → Bool} {W : World} (h : MatIs g M W) : MatC g M W := fun i j hi hj => (h.at_ i j hi hj).1
theorem MatC.ext {g : Nat} {M : Nat → Nat → Bool} {W W' : World} (h : MatC g M W) (x : Ext W W') : MatC g M W' := fun i j hi hj => x.cell_some (h i j hi hj)
theorem MatC.lt {g : Nat} {M : Nat → Nat → Bool} {W : World} (h : MatC g M W) : g < W.heap.size := cell_lt (h 0 0 (by decide) (by decide))
/-- The box of the iterator, and the table. -/
structure AllAt (w : World) (D : List Nat) (Bs g : Nat) (M : Nat → Nat → Bool) : Prop where
  box : w.cell? ⟨Bs, 0, none⟩ = some (.pointer (some ⟨g, 0, none⟩))
  mat : MatC g M w
  nD : Bs ∉ D ∧ g ∉ D
theorem AllAt.ext {W W' : World} {D : List Nat} {Bs g : Nat} {M : Nat → Nat → Bool} (h : AllAt W D Bs g M) (x : Ext W W') : AllAt W' D Bs g M := ⟨x.cell_some h.box, h.mat.ext x, h.nD⟩
def allEnc (M : Nat → Nat → Bool) (x : Fin (prsL M).length) : Array Value := #[.int .i64 (((prsL M)[x.val]).1 : Nat), .int .i64 (((prsL M)[x.val]).2 : Nat)]

theorem all_in (F : Fence) (k : Nat) (h5 : F.fn 86) (hro : F.round = none) (g : Nat) (w : World) :
    CallsIn F k Try.prog 86 #[.pointer (some ⟨g, 0, none⟩)] w fun e w' => e = .returned (.func (.func 104) #[] #[.pointer (some ⟨w.heap.size, 0, none⟩)]) ∧ w' = w.alloc (.cells #[.pointer (some ⟨g, 0, none⟩)] 137) := by
  refine callsIn_of_wp Try.func86 rfl h5 ?_ hro
  simp only [Try.ntmps86, List.size_toArray, List.length_cons, List.length_nil, Nat.reduceAdd, Nat.reduceSub, Array.replicate_succ, Array.replicate_zero, List.push_toArray, List.append_toArray, List.nil_append, List.cons_append]
  gi_wp2
  go_ret
  exact ⟨rfl, rfl⟩

theorem index_row (M : Nat → Nat → Bool) (i m : Nat) (hm : m < 16) (w : World) : (Instr.index 142 (.agg #[.bool (M i 0), .bool (M i 1), .bool (M i 2), .bool (M i 3), .bool (M i 4), .bool (M i 5), .bool (M i 6), .bool (M i 7), .bool (M i 8), .bool (M i 9), .bool (M i 10), .bool (M i 11), .bool (M i 12), .bool (M i 13), .bool (M i 14), .bool (M i 15)]) (.int .i64 (m : Int))).run Try.prog w = .ok (.bool (M i m)) w := by
  rcases (by omega : m = 0 ∨ m = 1 ∨ m = 2 ∨ m = 3 ∨ m = 4 ∨ m = 5 ∨ m = 6 ∨ m = 7 ∨ m = 8 ∨ m = 9 ∨ m = 10 ∨ m = 11 ∨ m = 12 ∨ m = 13 ∨ m = 14 ∨ m = 15) with rfl | rfl | rfl | rfl | rfl | rfl | rfl | rfl | rfl | rfl | rfl | rfl | rfl | rfl | rfl | rfl <;> kernel_rfl

set_option maxRecDepth 100000 in
set_option maxHeartbeats 4000000 in
theorem all1_in (nn : Nat) (hnn : 1 ≤ nn) (l B0 : Nat) (D : List Nat) (Bs g : Nat) (M : Nat → Nat → Bool) (J : Nat → World → Prop) (Jx : World → Prop) (hJE : ∀ c A B, J c A → Ext A B → J c B)
    (hY : ∀ (x : Fin (prsL M).length) (W1 : World), J x.val W1 → YieldAt Fence.wide (nn - 1) Try.prog l (allEnc M x) W1 fun e W' => KpD D B0 W1 W' ∧ ((e = .returned (.bool true) ∧ J (x.val + 1) W') ∨ (e = .returned (.bool false) ∧ Jx W')))
    (W : World) (hP : AllAt W D Bs g M) (hB2 : g < B0) (h0 : J 0 W) :
    CallsIn Fence.wide nn Try.prog 104 #[.func (.yield l) #[] #[], .pointer (some ⟨Bs, 0, none⟩)] W fun e W' => (∃ v, e = .returned v) ∧ (J (prsL M).length W' ∨ Jx W') := by
  have HY := Lib.hid hY
  have HJE := Lib.hid hJE
  have HMC := Lib.hid fun (W' : World) (hk : KpD D B0 W W') => (show MatC g M W' from fun i j hi hj => hk _ _ _ hB2 hP.nD.2 (hP.mat i j hi hj))
  have c0 := hP.box
  have HJ0 := Lib.hid h0
  clear hY hJE hP h0
  refine callsIn_of_wp Try.func104 rfl trivial ?_ rfl
  simp only [Try.ntmps104, List.size_toArray, List.length_cons, List.length_nil, Nat.reduceAdd, Nat.reduceSub, Array.replicate_succ, Array.replicate_zero, List.push_toArray, List.append_toArray, List.nil_append, List.cons_append]
  gi_wp2
  gi_loopw [9] (fun iv wr => ∃ i : Nat, i ≤ 16 ∧ iv = .int .i64 i ∧ J (prsTo M (i * 16)).length wr ∧ KpD D B0 W wr) (fun iv _ => 16 - (intOf iv).toNat)
  case atStart => exact ⟨0, by omega, rfl, HJ0.out, fun _ _ _ _ _ h => h⟩
  case round =>
    obtain ⟨i, hi, rfl, hj, hkp⟩ := hrel
    have HKR := Lib.hid hkp
    have HJR := Lib.hid hj
    by_cases hi16 : i < 16
    · have hmc := HMC.out wr hkp
      have r0 : wr.cell? ⟨g, i * 16, none⟩ = some (.bool (M i 0)) := hmc i 0 hi16 (by decide)
      have r1 : wr.cell? ⟨g, i * 16 + 1, none⟩ = some (.bool (M i 1)) := hmc i 1 hi16 (by decide)
      have r2 : wr.cell? ⟨g, i * 16 + 2, none⟩ = some (.bool (M i 2)) := hmc i 2 hi16 (by decide)
      have r3 : wr.cell? ⟨g, i * 16 + 3, none⟩ = some (.bool (M i 3)) := hmc i 3 hi16 (by decide)
      have r4 : wr.cell? ⟨g, i * 16 + 4, none⟩ = some (.bool (M i 4)) := hmc i 4 hi16 (by decide)
      have r5 : wr.cell? ⟨g, i * 16 + 5, none⟩ = some (.bool (M i 5)) := hmc i 5 hi16 (by decide)
      have r6 : wr.cell? ⟨g, i * 16 + 6, none⟩ = some (.bool (M i 6)) := hmc i 6 hi16 (by decide)
      have r7 : wr.cell? ⟨g, i * 16 + 7, none⟩ = some (.bool (M i 7)) := hmc i 7 hi16 (by decide)
      have r8 : wr.cell? ⟨g, i * 16 + 8, none⟩ = some (.bool (M i 8)) := hmc i 8 hi16 (by decide)
      have r9 : wr.cell? ⟨g, i * 16 + 9, none⟩ = some (.bool (M i 9)) := hmc i 9 hi16 (by decide)
      have r10 : wr.cell? ⟨g, i * 16 + 10, none⟩ = some (.bool (M i 10)) := hmc i 10 hi16 (by decide)
      have r11 : wr.cell? ⟨g, i * 16 + 11, none⟩ = some (.bool (M i 11)) := hmc i 11 hi16 (by decide)
      have r12 : wr.cell? ⟨g, i * 16 + 12, none⟩ = some (.bool (M i 12)) := hmc i 12 hi16 (by decide)
      have r13 : wr.cell? ⟨g, i * 16 + 13, none⟩ = some (.bool (M i 13)) := hmc i 13 hi16 (by decide)
      have r14 : wr.cell? ⟨g, i * 16 + 14, none⟩ = some (.bool (M i 14)) := hmc i 14 hi16 (by decide)
      have r15 : wr.cell? ⟨g, i * 16 + 15, none⟩ = some (.bool (M i 15)) := hmc i 15 hi16 (by decide)
      have lg := hmc.lt
      have hii : (i : Int) < 16 := by omega
      have q0 := But.cells (D := []) r0 (by simp)
      have q1 := But.cells (D := []) r1 (by simp)
      have q2 := But.cells (D := []) r2 (by simp)
      have q3 := But.cells (D := []) r3 (by simp)
      have q4 := But.cells (D := []) r4 (by simp)
      have q5 := But.cells (D := []) r5 (by simp)
      have q6 := But.cells (D := []) r6 (by simp)
      have q7 := But.cells (D := []) r7 (by simp)
      have q8 := But.cells (D := []) r8 (by simp)
      have q9 := But.cells (D := []) r9 (by simp)
      have q10 := But.cells (D := []) r10 (by simp)
      have q11 := But.cells (D := []) r11 (by simp)
      have q12 := But.cells (D := []) r12 (by simp)
      have q13 := But.cells (D := []) r13 (by simp)
      have q14 := But.cells (D := []) r14 (by simp)
      have q15 := But.cells (D := []) r15 (by simp)
      clear hj hkp hmc
      gi_wp2
      refine wpIn_region_steps [] 6 [(0, true), (1, true), (2, true), (3, true), (4, false), (5, true)] (by kernel_rfl) (by kernel_rfl) ?_
      iterate 4 (refine wpSD_q (by rfl) (fun _ _ _ => trivial) (fun K hK => ?_); go_simp; refine hK _ ?_; clear hK K)
      refine wpSD_m (by rfl) (fun _ _ _ => trivial) (fun δ K hK => ?_)
      go_simp
      refine ⟨((Ext.refl _).alloc _).but, hK _ _ ?_⟩
      clear hK K
      refine wpSD_q (by rfl) (fun _ _ _ => trivial) (fun K hK => ?_)
      go_simp
      refine hK _ ?_
      clear hK K
      refine wpSD_nil ?_
      intro W5 x5
      simp only [List.drop_succ_cons, List.drop_zero]
      have xw5 : Ext wr W5 := Ext.trans (Ext.alloc ⟨δ, rfl⟩ _) x5
      have s0 : W5.cell? ⟨δ.wd.heap.size, 0, none⟩ = some (.bool false) := x5.cell_some (by go_cell)
      have s1 : W5.cell? ⟨δ.wd.heap.size, 1, none⟩ = some (.bool false) := x5.cell_some (by go_cell)
      have s2 : W5.cell? ⟨δ.wd.heap.size, 2, none⟩ = some (.bool false) := x5.cell_some (by go_cell)
      have s3 : W5.cell? ⟨δ.wd.heap.size, 3, none⟩ = some (.bool false) := x5.cell_some (by go_cell)
      have s4 : W5.cell? ⟨δ.wd.heap.size, 4, none⟩ = some (.bool false) := x5.cell_some (by go_cell)
      have s5 : W5.cell? ⟨δ.wd.heap.size, 5, none⟩ = some (.bool false) := x5.cell_some (by go_cell)
      have s6 : W5.cell? ⟨δ.wd.heap.size, 6, none⟩ = some (.bool false) := x5.cell_some (by go_cell)
      have s7 : W5.cell? ⟨δ.wd.heap.size, 7, none⟩ = some (.bool false) := x5.cell_some (by go_cell)
      have s8 : W5.cell? ⟨δ.wd.heap.size, 8, none⟩ = some (.bool false) := x5.cell_some (by go_cell)
      have s9 : W5.cell? ⟨δ.wd.heap.size, 9, none⟩ = some (.bool false) := x5.cell_some (by go_cell)
      have s10 : W5.cell? ⟨δ.wd.heap.size, 10, none⟩ = some (.bool false) := x5.cell_some (by go_cell)
      have s11 : W5.cell? ⟨δ.wd.heap.size, 11, none⟩ = some (.bool false) := x5.cell_some (by go_cell)
      have s12 : W5.cell? ⟨δ.wd.heap.size, 12, none⟩ = some (.bool false) := x5.cell_some (by go_cell)
      have s13 : W5.cell? ⟨δ.wd.heap.size, 13, none⟩ = some (.bool false) := x5.cell_some (by go_cell)
      have s14 : W5.cell? ⟨δ.wd.heap.size, 14, none⟩ = some (.bool false) := x5.cell_some (by go_cell)
      have s15 : W5.cell? ⟨δ.wd.heap.size, 15, none⟩ = some (.bool false) := x5.cell_some (by go_cell)
      have f0 : W5.frozen? ⟨δ.wd.heap.size, 0, none⟩ = false := x5.frozen (v := .bool false) (by go_cell) (by go_simp)
      have f1 : W5.frozen? ⟨δ.wd.heap.size, 1, none⟩ = false := x5.frozen (v := .bool false) (by go_cell) (by go_simp)
      have f2 : W5.frozen? ⟨δ.wd.heap.size, 2, none⟩ = false := x5.frozen (v := .bool false) (by go_cell) (by go_simp)
      have f3 : W5.frozen? ⟨δ.wd.heap.size, 3, none⟩ = false := x5.frozen (v := .bool false) (by go_cell) (by go_simp)
      have f4 : W5.frozen? ⟨δ.wd.heap.size, 4, none⟩ = false := x5.frozen (v := .bool false) (by go_cell) (by go_simp)
      have f5 : W5.frozen? ⟨δ.wd.heap.size, 5, none⟩ = false := x5.frozen (v := .bool false) (by go_cell) (by go_simp)
      have f6 : W5.frozen? ⟨δ.wd.heap.size, 6, none⟩ = false := x5.frozen (v := .bool false) (by go_cell) (by go_simp)
      have f7 : W5.frozen? ⟨δ.wd.heap.size, 7, none⟩ = false := x5.frozen (v := .bool false) (by go_cell) (by go_simp)
      have f8 : W5.frozen? ⟨δ.wd.heap.size, 8, none⟩ = false := x5.frozen (v := .bool false) (by go_cell) (by go_simp)
      have f9 : W5.frozen? ⟨δ.wd.heap.size, 9, none⟩ = false := x5.frozen (v := .bool false) (by go_cell) (by go_simp)
      have f10 : W5.frozen? ⟨δ.wd.heap.size, 10, none⟩ = false := x5.frozen (v := .bool false) (by go_cell) (by go_simp)
      have f11 : W5.frozen? ⟨δ.wd.heap.size, 11, none⟩ = false := x5.frozen (v := .bool false) (by go_cell) (by go_simp)
      have f12 : W5.frozen? ⟨δ.wd.heap.size, 12, none⟩ = false := x5.frozen (v := .bool false) (by go_cell) (by go_simp)
      have f13 : W5.frozen? ⟨δ.wd.heap.size, 13, none⟩ = false := x5.frozen (v := .bool false) (by go_cell) (by go_simp)
      have f14 : W5.frozen? ⟨δ.wd.heap.size, 14, none⟩ = false := x5.frozen (v := .bool false) (by go_cell) (by go_simp)
      have f15 : W5.frozen? ⟨δ.wd.heap.size, 15, none⟩ = false := x5.frozen (v := .bool false) (by go_cell) (by go_simp)
      have hXw : wr.heap.size ≤ δ.wd.heap.size := (Ext.bel ⟨δ, rfl⟩).size
      have XW5 := Lib.hid xw5
      generalize δ.wd.heap.size = X at *
      have lX := cell_lt s0
      clear x5 xw5 q0 q1 q2 q3 q4 q5 q6 q7 q8 q9 q10 q11 q12 q13 q14 q15 r0 r1 r2 r3 r4 r5 r6 r7 r8 r9 r10 r11 r12 r13 r14 r15
      gi_wp2
      refine lay_in (fun W => Ext wr W) (((((((((((((((((XW5.out).setCell (by omega) _).setCell (by omega) _).setCell (by omega) _).setCell (by omega) _).setCell (by omega) _).setCell (by omega) _).setCell (by omega) _).setCell (by omega) _).setCell (by omega) _).setCell (by omega) _).setCell (by omega) _).setCell (by omega) _).setCell (by omega) _).setCell (by omega) _).setCell (by omega) _).setCell (by omega) _) ?_
      rintro W6 x6
      have HJ6 := Lib.hid (HJE.out _ _ _ HJR.out x6)
      have HK6 := Lib.hid (show KpD D B0 W W6 from HKR.out.trans fun _ _ _ _ _ h => x6.cell_some h)
      clear s0 f0 s1 f1 s2 f2 s3 f3 s4 f4 s5 f5 s6 f6 s7 f7 s8 f8 s9 f9 s10 f10 s11 f11 s12 f12 s13 f13 s14 f14 s15 f15 hXw lX x6 XW5 lg
      gi_loopw [16] (fun iv wr => ∃ m : Nat, m ≤ 16 ∧ iv = .int .i64 m ∧ J (prsTo M (i * 16 + m)).length wr ∧ KpD D B0 W wr) (fun iv _ => 16 - (intOf iv).toNat)
      case atStart => exact ⟨0, by omega, rfl, HJ6.out, HK6.out⟩
      case round =>
        obtain ⟨m, hm, rfl, hj, hkp⟩ := hrel
        have HKI := Lib.hid hkp
        have HJI := Lib.hid hj
        clear hj hkp
        by_cases hm16 : m < 16
        · have hix := index_row M i m hm16
          have HPS := Lib.hid (prsTo_succ M i m hm16)
          have HPA := Lib.hid (prs_at M hi16 hm16)
          cases hmm : M i m
          · have HPL := Lib.hid (show prsTo M (i * 16 + (m + 1)) = prsTo M (i * 16 + m) by rw [HPS.out, hmm]; exact List.append_nil _)
            rw [hmm] at hix
            clear hmm
            gi_wp2
            refine ⟨fun _ h => (by cases h), ?_⟩
            gi_wp2
            go_roundw
            case rel => exact ⟨m + 1, by omega, by simp, by rw [HPL.out]; exact HJI.out, HKI.out⟩
            case measure => simp [intOf]; omega
          · have HPL := Lib.hid (show (prsTo M (i * 16 + (m + 1))).length = (prsTo M (i * 16 + m)).length + 1 by rw [HPS.out, hmm, if_pos rfl, List.length_append]; rfl)
            obtain ⟨hc, he⟩ := HPA.out hmm
            obtain ⟨fn, tmps, assign, body, hy, hR⟩ := HY.out ⟨_, hc⟩ _ HJI.out
            simp only [allEnc, he] at hy
            have HR := Lib.hid hR
            rw [hmm] at hix
            clear hR he hmm
            gi_wp2
            refine HR.out.mono ?_
            rintro e W4 ⟨hk4, ⟨rfl, h4⟩ | ⟨rfl, h4⟩⟩
            · have HJ4 := Lib.hid h4
              have HK4 := Lib.hid (HKI.out.trans hk4)
              clear h4 hk4
              gi_wp2
              go_roundw
              case rel => exact ⟨m + 1, by omega, by simp, by rw [HPL.out]; exact HJ4.out, HK4.out⟩
              case measure => simp [intOf]; omega
            · have HJ4 := Lib.hid h4
              clear h4 hk4
              gi_wp2
              refine bodyPost_ret (results_none rfl _ _ _) rfl ?_
              exact ⟨⟨_, rfl⟩, .inr HJ4.out⟩
        · obtain rfl : m = 16 := by omega
          gi_wp2
          go_roundw
          case rel => exact ⟨i + 1, by omega, by simp, by rw [show (i + 1) * 16 = i * 16 + 16 by omega]; exact HJI.out, HKI.out⟩
          case measure => simp [intOf]; omega
    · obtain rfl : i = 16 := by omega
      clear hj hkp
      gi_wp2
      go_end0
      exact ⟨⟨_, rfl⟩, .inl HJR.out⟩

theorem all_seq (nn : Nat) (hnn : 1 ≤ nn) (D : List Nat) (Bs g : Nat) (M : Nat → Nat → Bool) (w : World) (hP : AllAt w D Bs g M) :
    SeqSt Fence.wide nn Try.prog 104 #[.pointer (some ⟨Bs, 0, none⟩)] (allEnc M) D w := fun l J Jx W hW hJE _ hY h0 =>
  all1_in nn hnn l w.heap.size D Bs g M J Jx hJE hY W (hP.ext (.of hW)) hP.mat.lt h0
end Go.Proofs.Ytgeapenglcohfaa
