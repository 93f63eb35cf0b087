/- rosette.touches. Condition: slices read as lists, a rosette and a rubber. -/
import Derived.Test.YtaaceadcnnfngaaRMadeB
import Derived.Laws.BitsAllLaws
import Derived.IntWalk
namespace Go.Proofs.Ytaaceadcnnfngaa
open Go.RowKit Go.Shelf

attribute [local go_sem] Oper.semAt_some

/-- Which drops touch, by bits. -/
def tBits (xs ys : List Int) (m p : Nat) (most : Int) (pre : List Nat) : Nat := pre.foldl (fun acc j => if askOf xs ys m p j = most then acc ||| 2 ^ min j m else acc) 0
theorem tBits_snoc (xs ys : List Int) (m p : Nat) (most : Int) (pre : List Nat) (j : Nat) : tBits xs ys m p most (pre ++ [j]) = if askOf xs ys m p j = most then tBits xs ys m p most pre ||| 2 ^ min j m else tBits xs ys m p most pre := by simp [tBits]
def touchB (xs ys : List Int) (p : Nat) (most : Int) : Nat := tBits xs ys ys.length p most (List.range ys.length)

theorem tBits_lt {xs ys : List Int} {m p : Nat} {most : Int} {k : Nat} : ∀ pre : List Nat, (∀ j ∈ pre, min j m < k) → tBits xs ys m p most pre < 2 ^ k := by
  intro pre
  generalize hr : pre.reverse = rp
  induction rp generalizing pre with
  | nil => intro _; obtain rfl : pre = [] := by simpa using hr
           exact Nat.two_pow_pos _
  | cons x rp ih =>
    obtain rfl : pre = rp.reverse ++ [x] := by rw [← List.reverse_reverse pre, hr]; simp
    intro h
    have h1 := ih rp.reverse (by simp) (fun j hj => h j (by simp at hj; simp [hj]))
    rw [tBits_snoc]
    split
    · exact Nat.or_lt_two_pow h1 (Nat.pow_lt_pow_right (by decide) (h x (by simp)))
    · exact h1
theorem touchB_lt (xs ys : List Int) (p : Nat) (most : Int) : touchB xs ys p most < 2 ^ ys.length := tBits_lt _ (fun j hj => by have := List.mem_range.1 hj; omega)

theorem shl_fact {q : Nat} (h : q < 63) : IntKind.u64.wrap ((2 : Int) ^ q) = ((2 ^ q : Nat) : Int) := by
  have h2 : 2 ^ q < 2 ^ 63 := Nat.pow_lt_pow_right (by decide) h
  have h3 : ((2 : Int) ^ q) = ((2 ^ q : Nat) : Int) := by simp
  rw [IntKind.wrap_u64, h3]
  generalize 2 ^ q = P at *
  rw [Int.emod_eq_of_lt (by omega) (by omega)]
theorem or_fact {a b : Nat} (ha : a < 18446744073709551616) (hb : b < 18446744073709551616) : bits .or .u64 (a : Int) (b : Int) = ((a ||| b : Nat) : Int) := u64_or_nat a b ha hb

theorem body_endV {B0 B : Nat} {W0 W W' : World} {a b : Value} {nq : Nat} {x : Value} (hab : b = a) (hg : W0.grownBy W (some B)) (hB : B < B0) (hc : W.cell? ⟨B, 0, none⟩ = some x) (hf : W.frozen? ⟨B, 0, none⟩ = false) (hW : W' = (W.drewN nq).setCell ⟨B, 0, none⟩ a) :
    KeepsFrom B0 W W' ∧ CellsBut B W W' ∧ W'.cell? ⟨B, 0, none⟩ = some b ∧ W'.frozen? ⟨B, 0, none⟩ = false ∧ W0.grownBy W' (some B) := by
  subst hab
  subst hW
  have e : (W.drewN nq).cell? ⟨B, 0, none⟩ = some x := hc
  have hG : W.grownBy ((W.drewN nq).setCell ⟨B, 0, none⟩ b) (some B) :=
    ⟨rfl, rfl, rfl, by simp, fun i _ hi => heap_setCell_other (W.drewN nq) ⟨B, 0, none⟩ i _ (fun e => hi (by simp [e]))⟩
  refine ⟨KeepsFrom.of_grownBy hG (fun j e => by cases e; exact hB), CellsBut.grown hG, ?_, ?_, ⟨hG.os.trans hg.os, hG.tape.trans hg.tape, hG.output.trans hg.output, Nat.le_trans hg.size hG.size, fun i hi hne => (hG.block i (Nat.lt_of_lt_of_le hi hg.size) hne).trans (hg.block i hi hne)⟩⟩
  · exact World.cell?_setCell_same _ _ _ e
  · rw [World.frozen?_setCell]; exact hf
theorem body_keep {B0 B : Nat} {W0 W W' : World} {b x : Value} {nq : Nat} (hab : b = x) (hg : W0.grownBy W (some B)) (hc : W.cell? ⟨B, 0, none⟩ = some x) (hf : W.frozen? ⟨B, 0, none⟩ = false) (hW : W' = W.drewN nq) :
    KeepsFrom B0 W W' ∧ CellsBut B W W' ∧ W'.cell? ⟨B, 0, none⟩ = some b ∧ W'.frozen? ⟨B, 0, none⟩ = false ∧ W0.grownBy W' (some B) := by
  subst hab
  subst hW
  have hG : W.grownBy (W.drewN nq) none := ⟨rfl, rfl, rfl, Nat.le_refl _, fun _ _ _ => rfl⟩
  exact ⟨KeepsFrom.of_grownBy hG (fun j e => by cases e), fun _ _ _ _ h => h, hc, hf, ⟨hg.os, hg.tape, hg.output, hg.size, hg.block⟩⟩

set_option maxRecDepth 100000 in
set_option maxHeartbeats 2000000 in
theorem touches_any (u v : Value) (xs ys : List Int) (p : Nat) (most : Int) (w : World) (hu : IsI w u xs) (hv : IsI w v ys) (hf : Fine xs ys) (hp : p < xs.length) :
    Calls Try.prog 82 #[u, v, .int .i64 p, .int .i64 most] w fun e w' => e = .returned (.int .u64 (touchB xs ys p most)) ∧ Ext w w' := by
  have HF := Lib.hid hf
  have f1 := hf.lo
  have f2 := hf.hi
  have f4 := hf.le31
  have f5 := hf.odd
  have HU := Lib.hid hu
  have HV := Lib.hid hv
  obtain ⟨A, n, c, rfl, hc0, hr, hn⟩ := hu.open_
  obtain ⟨A', m, c', rfl, hd0, hs, hm⟩ := hv.open_
  have HL1 := Lib.hid hr.len
  have HL2 := Lib.hid hs.len
  rw [HL1.out] at f1 f2 hp
  rw [HL2.out] at f4 f5
  have hy1 : 1 ≤ m := by omega
  obtain ⟨bf, of, rfl, hbf, _⟩ := hr.at_ 0 (by omega)
  obtain ⟨br, or', rfl, hbr, _⟩ := hs.at_ 0 (by omega)
  have HR := Lib.hid hr
  have HS := Lib.hid hs
  clear hr hs hu hv hf f5
  refine (callsIn_wide (n := 3)).1 ?_
  refine callsIn_of_wp_marks Try.func82 rfl trivial ?_ rfl
  simp only [Try.ntmps82, List.size_toArray, List.length_cons, List.length_nil, Nat.reduceAdd, Nat.reduceSub, Array.replicate_succ, Array.replicate_zero, List.push_toArray, List.append_toArray, List.nil_append, List.cons_append]
  gi_wp2
  gi_wp2_with (refine ⟨trivial, ?_⟩; gi_at_call 85; refine (offsets_in Fence.wide 2 trivial rfl _ _ _ _).mono ?_; rintro e w' ⟨rfl, rfl⟩)
  refine lay_in (fun W => Ext w W ∧ W.heap.size = w.heap.size + 6 ∧ W.cell? ⟨w.heap.size, 0, none⟩ = some (.slice (some ⟨bf, of, none⟩) n c) ∧ W.cell? ⟨w.heap.size + 1 + 1, 0, none⟩ = some (.int .i64 p) ∧
    W.cell? ⟨w.heap.size + 1 + 1 + 1, 0, none⟩ = some (.int .i64 most) ∧ W.cell? ⟨w.heap.size + 1 + 1 + 1 + 1, 0, none⟩ = some (.int .u64 0) ∧ W.frozen? ⟨w.heap.size + 1 + 1 + 1 + 1, 0, none⟩ = false ∧ W.cell? ⟨w.heap.size + 1, 0, none⟩ = some (.slice (some ⟨br, or', none⟩) m c') ∧ W.cell? ⟨w.heap.size + 1 + 1 + 1 + 1 + 1, 0, none⟩ = some (.slice (some ⟨br, or', none⟩) m c')) ⟨by (repeat' (first | with_reducible exact Ext.refl _ | with_reducible apply Ext.alloc | with_reducible apply Ext.drew | with_reducible apply Ext.drewN | with_reducible refine Ext.setCell ?_ ?_ _ | with_reducible apply Ext.step | with_reducible assumption | with_reducible exact Nat.le_refl _ | (simp; done) | (simp; omega))), by simp, by go_cell, by go_cell, by go_cell, by go_cell, by go_simp, by go_cell, by go_cell⟩ ?_
  rintro W0 ⟨X0, hsz, b0, b2, b3, b4, g4, b1, b5⟩
  have hcs : ∀ j, j < m → W0.cell? ⟨br, or' + j, none⟩ = some (.int .i64 (ys[j]?.getD 0)) := fun j hj => by
    obtain ⟨_, _, he, _, hc⟩ := (HS.out.ext X0).at_ j hj
    cases he
    exact hc
  refine wpIn_rangeFunc_ownG rfl (by decide) (gf := 100) (lb := #[.pointer (some ⟨w.heap.size + 1 + 1 + 1 + 1 + 1, 0, none⟩)]) rfl trivial (enters_of Try.func100 (by kernel_rfl) rfl)
    (offsets_stops Fence.wide 2 trivial rfl (by decide) (w.heap.size + 1 + 1 + 1 + 1 + 1) (w.heap.size + 1 + 1 + 1 + 1) br or' m c' ys (by omega) (by omega) (by omega) W0 (by omega) (by omega) b5 hcs)
    CellsBut.trans (fun _ _ _ _ _ h1 h2 _ => CellsBut.put h1 h2) (Below.refl _ _) (fun _ => rfl)
    (fun pre W => W.cell? ⟨w.heap.size + 1 + 1 + 1 + 1, 0, none⟩ = some (.int .u64 (tBits xs ys m p most pre)) ∧ W.frozen? ⟨w.heap.size + 1 + 1 + 1 + 1, 0, none⟩ = false ∧ W0.grownBy W (some (w.heap.size + 1 + 1 + 1 + 1)))
    (fun _ _ _ => False)
    (fun s A B row hs hg hr => ⟨cell_kept hs.1 hg (fun r e => (hr r e).2), (frozen_kept hs.1 hg (fun r e => (hr r e).2)).trans hs.2.1, grow_other hs.2.2 hg (fun r e => (hr r e).1)⟩)
    (fun _ _ _ _ _ hs _ _ => hs)
    ⟨b4, g4, ⟨rfl, rfl, rfl, Nat.le_refl _, fun _ _ _ => rfl⟩⟩
    (fun j => { tmps := #[.slice (some ⟨bf, of, none⟩) n c, .slice (some ⟨br, or', none⟩) m c', .int .i64 p, .int .i64 most, .pointer (some ⟨w.heap.size, 0, none⟩), .pointer (some ⟨w.heap.size + 1, 0, none⟩), .pointer (some ⟨w.heap.size + 1 + 1, 0, none⟩), .pointer (some ⟨w.heap.size + 1 + 1 + 1, 0, none⟩), .int .u64 0, .pointer (some ⟨w.heap.size + 1 + 1 + 1 + 1, 0, none⟩), .int .i64 (((min j m : Nat) : Int) - (m : Int) / 2), .int .i64 (ys[j]?.getD 0), .slice (some ⟨br, or', none⟩) m c', .func (.func 100) #[] #[.pointer (some ⟨w.heap.size + 1 + 1 + 1 + 1 + 1, 0, none⟩)], .int .i64 (((min j m : Nat) : Int) - (m : Int) / 2), .int .i64 (ys[j]?.getD 0), undef, undef, undef, undef, undef, undef, undef, undef, undef, undef, undef, undef, undef, undef, undef, undef, undef, undef, undef, undef, undef, undef], defers := [] }) ?assign ?body ?done ?stop
  case assign =>
    intro l x W K hK
    simp only [offEnc]
    gi_wp2
    exact hK
  case stop =>
    rintro D c pre W _ _ h _
    exact h.elim
  case body =>
    rintro l pre j W ⟨e13, g13, hg⟩ _
    have k0 := hg.cell b0 (by simp <;> omega)
    have k1 := hg.cell b1 (by simp <;> omega)
    have k2 := hg.cell b2 (by simp <;> omega)
    have k3 := hg.cell b3 (by simp <;> omega)
    obtain ⟨i, hi, hin⟩ := emod_nat ((p : Int) + (((min j m : Nat) : Int) - (m : Int) / 2)) (n := n) (by omega)
    have hci : W.cell? ⟨bf, of + i, none⟩ = some (.int .i64 (xs[i]?.getD 0)) := by
      obtain ⟨_, _, he, _, hc⟩ := (HR.out.ext X0).at_ i hin
      cases he
      exact hg.cell hc (by simp; omega)
    have hmj : min j m ≤ m := Nat.min_le_right _ _
    have HAR := Lib.hid fun W => around_any ((p : Int) + (((min j m : Nat) : Int) - (m : Int) / 2)) n W (by omega) (by omega)
    rw [hi] at HAR
    have HI := Lib.hid hi
    clear hi
    have hask : askOf xs ys m p j = xs[i]?.getD 0 - ys[j]?.getD 0 := by rw [askOf, HL1.out, HI.out]; rfl
    have HASK := Lib.hid hask
    clear hask
    have ⟨hx1, hx2⟩ := HF.out.hx i
    have ⟨hy1, hy2⟩ := HF.out.hy j
    have HT := Lib.hid (tBits_snoc xs ys m p most pre j)
    have HTB := Lib.hid (show tBits xs ys m p most pre < 18446744073709551616 from Nat.lt_of_lt_of_le (tBits_lt (k := m + 1) pre (fun j _ => by omega)) (by have : 2 ^ (m + 1) ≤ 2 ^ 32 := Nat.pow_le_pow_right (by decide) (by omega); omega))
    generalize tBits xs ys m p most pre = tb at *
    generalize xs[i]?.getD 0 = xi at *
    generalize ys[j]?.getD 0 = yj at *
    generalize hq : min j m = q at *
    have F73 : Fence.wide.fn 73 := trivial
    have HG := Lib.hid hg
    clear hg hcs b0 b1 b2 b3 b4 b5
    have HB13 := Lib.hid (show w.heap.size + 1 + 1 + 1 + 1 < W0.heap.size by omega)
    gi_wp2
    refine wpIn_region_quietR (by kernel_rfl) (by kernel_rfl) (by kernel_rfl) ?_
    repeat (gi_big_quiet_step ((gi_at_call 73; exact quietR_call (HAR.out _))))
    refine wpQuietIn_nil ?_
    rintro _ ⟨nq, rfl⟩
    by_cases hm' : xi - yj = most
    · have hb : (xi - yj == most) = true := by simpa using hm'
      have HM := Lib.hid hm'
      clear hm'
      have s2 := shl_fact (q := q) (by omega)
      obtain ⟨tn, htn⟩ : ∃ tn : Nat, tb ||| 2 ^ q = tn := ⟨_, rfl⟩
      have s4 := or_fact HTB.out (show 2 ^ q < 18446744073709551616 from Nat.lt_of_lt_of_le (Nat.pow_lt_pow_right (by decide) (show q < 64 by omega)) (by decide))
      rw [htn] at s4
      have HTN := Lib.hid htn
      clear htn
      generalize 2 ^ q = pq at *
      have S2 := Lib.hid s2
      have S4 := Lib.hid s4
      clear s2 s4
      have s5 : IntKind.i64.wrap ((m : Int) / 2) = (m : Int) / 2 := IntWalk.i64_in _ (by omega)
      have s6 : IntKind.i64.wrap (q : Int) = (q : Int) := IntWalk.i64_in _ (by omega)
      gi_wp2
      gi_region
      all_goals (gi_wp2; exact body_endV (nq := nq + 1) (by rw [HT.out, if_pos (by rw [HASK.out]; exact HM.out), HTN.out, S2.out, S4.out]) HG.out HB13.out e13 g13 rfl)
    · have hb : (xi - yj == most) = false := by simpa using hm'
      have HM := Lib.hid hm'
      clear hm'
      gi_wp2
      exact body_keep (nq := nq) (by rw [HT.out, if_neg (by rw [HASK.out]; exact HM.out)]) HG.out e13 g13 rfl
  case done =>
    rintro D ys' W hD rfl ⟨e13, g13, hg⟩ hK
    gi_wp2
    have hx := X0.below ((Below.refl w.heap.size W0).grown hg X0.bel.size (fun r e => by cases e; omega)) (Nat.le_refl _)
    refine leaves_marks [D] W (by simp) (fun D' h => ?_) (fun W' hW => ⟨_, results_tmp rfl _ _ _, ?_, ?_⟩)
    · rw [List.mem_singleton.1 h]; exact hK
    · rw [touchB, HL2.out]; rfl
    · have hb := hx.bel
      exact .of ⟨hW.os.trans hb.os, hW.tape.trans hb.tape, hW.output.trans hb.output, by rw [hW.size]; exact hb.size, fun i hi => (hW.block i fun hg => by have := List.mem_singleton.1 hg; omega).trans (hb.block i hi)⟩
end Go.Proofs.Ytaaceadcnnfngaa
