/- rosette.offsets: what ranges over it are told. Condition: the slice reads as a list. -/
/- What the walks of rosette.picked share. Condition: slices read as lists. -/
import Derived.Test.YtkjgcmdabelohaaGreatMRub
import Derived.RangeFuncNested
import Derived.RangeFuncBound
import Derived.RangeFuncCalls
import Derived.RangeFuncLeaves
import Derived.OwnWalkIn
import Derived.TacticsInMore
import Derived.LoopNIn
import Derived.LoopIn
import Derived.Test.YtkjgcmdabelohaaGreatMBase
import Derived.Test.YtkjgcmdabelohaaGreatMAcc
import Derived.Shelf.Abstract
namespace Go.Proofs.YtkjgcmdabelohaaGreat
open Go.RowKit

attribute [local go_sem] Oper.semAt_some

/-- The cells of blocks other than B hold what they held. -/
def CellsBut (B : Nat) (W W' : World) : Prop := ∀ b o v, b ≠ B → W.cell? ⟨b, o, none⟩ = some v → W'.cell? ⟨b, o, none⟩ = some v
theorem CellsBut.refl (B : Nat) (W : World) : CellsBut B W W := fun _ _ _ _ h => h
theorem CellsBut.trans {B : Nat} {W W' W2 : World} (h : CellsBut B W W') (k : CellsBut B W' W2) : CellsBut B W W2 := fun b o v hb hc => k b o v hb (h b o v hb hc)

/-- What a round is told: the place from the rubber's middle, and the rubber there (the index is cut to the rubber's length, so that whatever index is in bounds). -/
def offEnc (zs : List Int) (m : Nat) (j : Nat) : Array Value := #[.int .i64 (((min j m : Nat) : Int) - (m : Int) / 2), .int .i64 (zs[j]?.getD 0)]

set_option maxRecDepth 100000 in
set_option maxHeartbeats 2000000 in
theorem offsets1_in (F : Fence) (n : Nat) (h8 : F.fn 85) (hro : F.round = none) (hn : 1 ≤ n) (l Bs B b off len cap : Nat) (zs : List Int) (hlen : len ≤ 1000000) (hb : b ≠ B) (hBs' : Bs ≠ B) (J Jx : List Nat → World → Prop)
    (hY : ∀ pre x W, J pre W → pre.length < len → YieldAt F (n - 1) Tryz.prog l (offEnc zs len x) W fun e W' =>
      (e = .returned (.bool true) ∧ J (pre ++ [x]) W' ∧ CellsBut B W W') ∨ (e = .returned (.bool false) ∧ Jx (pre ++ [x]) W'))
    (W : World) (hBs : W.cell? ⟨Bs, 0, none⟩ = some (.slice (some ⟨b, off, none⟩) len cap)) (hc : ∀ j, j < len → W.cell? ⟨b, off + j, none⟩ = some (.int .i64 (zs[j]?.getD 0))) (h0 : J [] W) :
    CallsIn F n Tryz.prog 85 #[.func (.yield l) #[] #[], .pointer (some ⟨Bs, 0, none⟩)] W fun e W' => (∃ v, e = .returned v) ∧
      ((∃ ys, ys = List.range len ∧ J ys W') ∨ (∃ pre, (∃ k, k ≤ len ∧ pre = List.range k) ∧ Jx pre W')) := by
  refine callsIn_of_wp Tryz.func85 rfl h8 ?_ hro
  simp only [Tryz.ntmps85, List.size_toArray, List.length_cons, List.length_nil, Nat.reduceAdd, Nat.reduceSub, Array.replicate_succ, Array.replicate_zero, List.push_toArray, List.append_toArray, List.nil_append, List.cons_append]
  gi_wp2
  gi_loopw [7, 3, 4] (fun i _ _ wr => ∃ k : Nat, k ≤ len ∧ i = .int .i64 k ∧ J (List.range k) wr ∧ CellsBut B W wr)
    (fun i _ _ _ => len - (intOf i).toNat)
  case atStart => exact ⟨0, Nat.zero_le _, rfl, h0, CellsBut.refl _ _⟩
  case round =>
    obtain ⟨k, hk, rfl, hJs, hnx⟩ := hrel
    by_cases hlt : k < len
    · have hcx' : wr.cell? ⟨b, off + k, none⟩ = some (.int .i64 (zs[k]?.getD 0)) := hnx b _ _ hb (hc k hlt)
      have hbx' : wr.cell? ⟨Bs, 0, none⟩ = some (.slice (some ⟨b, off, none⟩) len cap) := hnx Bs _ _ hBs' hBs
      obtain ⟨fn, tmps, assign, body, hy, hR⟩ := hY _ k wr hJs (by rw [List.length_range]; exact hlt)
      simp only [offEnc, Nat.min_eq_left (Nat.le_of_lt hlt)] at hy
      gi_wp2
      refine hR.mono ?_
      rintro e W3 (⟨rfl, hJ3, hk3⟩ | ⟨rfl, hJx3⟩)
      · gi_wp2
        go_roundw
        case rel => exact ⟨k + 1, by omega, by simp, by rw [List.range_succ]; exact hJ3, hnx.trans hk3⟩
        case measure => simp [intOf]; omega
      · gi_wp2
        refine bodyPost_ret (results_none rfl _ _ _) rfl ?_
        exact ⟨⟨_, rfl⟩, .inr ⟨_, ⟨k + 1, by omega, List.range_succ.symm⟩, hJx3⟩⟩
    · obtain rfl : k = len := by omega
      gi_wp2
      go_end0
      exact ⟨⟨_, rfl⟩, .inl ⟨_, rfl, hJs⟩⟩

theorem offsets_stops (F : Fence) (n : Nat) (h8 : F.fn 85) (hro : F.round = none) (hn : 1 ≤ n) (Bs B b off len cap : Nat) (zs : List Int) (hlen : len ≤ 1000000) (hb : b ≠ B) (hBs' : Bs ≠ B) (w : World)
    (hBl : Bs < w.heap.size) (hbl : b < w.heap.size) (hBs : w.cell? ⟨Bs, 0, none⟩ = some (.slice (some ⟨b, off, none⟩) len cap)) (hc : ∀ j, j < len → w.cell? ⟨b, off + j, none⟩ = some (.int .i64 (zs[j]?.getD 0))) :
    SeqStopsK F n Tryz.prog 85 #[.pointer (some ⟨Bs, 0, none⟩)] (offEnc zs len) (CellsBut B) (fun ys => ys = List.range len) (fun pre => ∃ k, k ≤ len ∧ pre = List.range k) len w := fun l J Jx W hW _ _ hY h0 =>
  offsets1_in F n h8 hro hn l Bs B b off len cap zs hlen hb hBs' J Jx hY W ((hW.cell (p := ⟨Bs, 0, none⟩) hBl).trans hBs) (fun j hj => (hW.cell (p := ⟨b, off + j, none⟩) hbl).trans (hc j hj)) h0

theorem offsets_in (F : Fence) (n : Nat) (h5 : F.fn 72) (hro : F.round = none) (a : Option Addr) (len cap : Nat) (w : World) :
    CallsIn F n Tryz.prog 72 #[.slice a len cap] w fun e w' => e = .returned (.func (.func 85) #[] #[.pointer (some ⟨w.heap.size, 0, none⟩)]) ∧ w' = w.alloc (.cells #[.slice a len cap] 22) := by
  refine callsIn_of_wp Tryz.func72 rfl h5 ?_ hro
  simp only [Tryz.ntmps72, List.size_toArray, List.length_cons, List.length_nil, Nat.reduceAdd, Nat.reduceSub, Array.replicate_succ, Array.replicate_zero, List.push_toArray, List.append_toArray, List.nil_append, List.cons_append]
  gi_wp2
  go_ret
  exact ⟨rfl, rfl⟩
end Go.Proofs.YtkjgcmdabelohaaGreat

namespace Go.Proofs.YtkjgcmdabelohaaGreat
open Go.RowKit Go.Shelf

attribute [local go_sem] Oper.semAt_some

theorem CellsBut.put {B : Nat} {W : World} {l : Nat} {o o' : Obj} (hl : W.heap[l]? = some o) (ho : o.isCells = false) : CellsBut B W (W.putObj l o') := fun b x v _ h =>
  cell_kept h (grownBy_putObj' W l o') (fun r e => by cases e; exact ⟨o, hl, ho⟩)
theorem grow_other {A B C : World} {row row' : Option Nat} (h : A.grownBy B row) (k : B.grownBy C row') (hr : ∀ r, row' = some r → A.heap.size ≤ r) : A.grownBy C row :=
  ⟨k.os.trans h.os, k.tape.trans h.tape, k.output.trans h.output, Nat.le_trans h.size k.size, fun i hi hne => (k.block i (Nat.lt_of_lt_of_le hi h.size) (fun e => by have := hr i e.symm; omega)).trans (h.block i hi hne)⟩

theorem quietR_call {P : Program} {l n f : Nat} {args : Array Value} {W : World} {q : Nat} {v : Value} (h : Calls P f args (W.drewN q) fun e w' => e = .returned v ∧ W.drewN q = w') :
    CallsIn (Fence.wide.inRound l) n P f args (W.drewN q) fun e w'' => e = .returned v ∧ ∃ n, w'' = W.drewN n :=
  (CallsIn.inRound l (callsIn_wide.2 h)).mono fun _ _ ⟨h1, h2⟩ => ⟨h1, q, h2.symm⟩

theorem CellsBut.grown {B : Nat} {W W' : World} (h : W.grownBy W' (some B)) : CellsBut B W W' := fun b _ _ hb hc => h.cell hc (by simpa using hb)
theorem body_end {B0 B : Nat} {W0 W W' : World} {a b : Int} {nq : Nat} {x : Value} (hab : b = a) (hg : W0.grownBy W (some B)) (hB : B < B0) (hc : W.cell? ⟨B, 0, none⟩ = some x) (hf : W.frozen? ⟨B, 0, none⟩ = false) (hW : W' = (W.drewN nq).setCell ⟨B, 0, none⟩ (.int .i64 a)) :
    KeepsFrom B0 W W' ∧ CellsBut B W W' ∧ W'.cell? ⟨B, 0, none⟩ = some (.int .i64 b) ∧ W'.frozen? ⟨B, 0, none⟩ = false ∧ W0.grownBy W' (some B) := by
  subst hab
  subst hW
  have e : (W.drewN nq).cell? ⟨B, 0, none⟩ = some x := hc
  have hG : W.grownBy ((W.drewN nq).setCell ⟨B, 0, none⟩ (.int .i64 b)) (some B) :=
    ⟨rfl, rfl, rfl, by simp, fun i _ hi => heap_setCell_other (W.drewN nq) ⟨B, 0, none⟩ i _ (fun e => hi (by simp [e]))⟩
  refine ⟨KeepsFrom.of_grownBy hG (fun j e => by cases e; exact hB), CellsBut.grown hG, ?_, ?_, ⟨hG.os.trans hg.os, hG.tape.trans hg.tape, hG.output.trans hg.output, Nat.le_trans hg.size hG.size, fun i hi hne => (hG.block i (Nat.lt_of_lt_of_le hi hg.size) hne).trans (hg.block i hi hne)⟩⟩
  · exact World.cell?_setCell_same _ _ _ e
  · rw [World.frozen?_setCell]; exact hf

theorem app_one_in {F : Fence} {nn : Nat} {w : World} {ops : Array Oper} {rest : List Oper} {o : Oper} {a : Act} {Q : Exit → Act → World → Prop} (hgd : o.guard = none) (s x : Operand)
    (ho : o.op = .call { callee := .builtin .append, args := #[s, x], argTypes := #[22, 22] })
    {B : Nat} {v : Value} {zs : List Int} (b c : Nat) (y : Int) (hs : a.eval s = v) (hx : a.eval x = .slice (some ⟨b, 0, none⟩) 1 c)
    (hcell : w.cell? ⟨b, 0, none⟩ = some (.int .i64 y)) (hown : OwnI B w v zs) (hB : B ≤ w.heap.size) (hlen : zs.length ≤ 1000000000)
    (h : ∀ v' w', OwnI B w' v' (zs ++ [y]) → w.grownBy w' v.ownBlock → wpListIn F nn Tryz.prog ops Q rest (a.put o.dst v') w') : wpListIn F nn Tryz.prog ops Q (o :: rest) a w := by
  obtain ⟨i0, hi, hz0, hz1, hz2⟩ := info_parts intInfo
  refine wpListIn_append_own w hgd s x 22 ho B 3 i0 (.int .i64 0) 1 8 Tryz.underlying22 hi hz0 hz1 hz2 rfl (by decide) v _ _ hs hown ⟨b, 0, none⟩ 1 c [.int .i64 y] hx rfl (fun j u hj => ?_) (by simp [Value.oneCell']) (by simp only [maxLen]; omega) (by omega) hB (fun v' w' h1 h2 _ => h v' w' (by simpa [OwnI] using h1) h2)
  match j with
  | 0 => simp at hj; subst hj; exact hcell
  | j + 1 => simp at hj

end Go.Proofs.YtkjgcmdabelohaaGreat
