/- What the walks of rosette.picked share. Condition: slices read as lists. -/
import Derived.Test.YtkjgcmdabelohaaROff
import Derived.Test.YtkjgcmdabelohaaRTurn
import Derived.Test.YtkjgcmdabelohaaQTail
import Derived.Test.YtkjgcmdabelohaaAcc
import Derived.Shelf.Abstract
namespace Go.Proofs.Ytkjgcmdabelohaa
open Go.RowKit Go.Shelf

attribute [local go_sem] Oper.semAt_some

theorem CellsBut.put {B : Nat} {W : World} {l : Nat} {o o' : Obj} (hl : W.heap[l]? = some o) (ho : o.isCells = false) : CellsBut B W (W.putObj l o') := fun b x v _ h =>
  cell_kept h (grownBy_putObj' W l o') (fun r e => by cases e; exact ⟨o, hl, ho⟩)
theorem grow_other {A B C : World} {row row' : Option Nat} (h : A.grownBy B row) (k : B.grownBy C row') (hr : ∀ r, row' = some r → A.heap.size ≤ r) : A.grownBy C row :=
  ⟨k.os.trans h.os, k.tape.trans h.tape, k.output.trans h.output, Nat.le_trans h.size k.size, fun i hi hne => (k.block i (Nat.lt_of_lt_of_le hi h.size) (fun e => by have := hr i e.symm; omega)).trans (h.block i hi hne)⟩

theorem quietR_call {P : Program} {l n f : Nat} {args : Array Value} {W : World} {q : Nat} {v : Value} (h : Calls P f args (W.drewN q) fun e w' => e = .returned v ∧ W.drewN q = w') :
    CallsIn (Fence.wide.inRound l) n P f args (W.drewN q) fun e w'' => e = .returned v ∧ ∃ n, w'' = W.drewN n :=
  (CallsIn.inRound l (callsIn_wide.2 h)).mono fun _ _ ⟨h1, h2⟩ => ⟨h1, q, h2.symm⟩

theorem CellsBut.grown {B : Nat} {W W' : World} (h : W.grownBy W' (some B)) : CellsBut B W W' := fun b _ _ hb hc => h.cell hc (by simpa using hb)
theorem body_end {B0 B : Nat} {W0 W W' : World} {a b : Int} {nq : Nat} {x : Value} (hab : b = a) (hg : W0.grownBy W (some B)) (hB : B < B0) (hc : W.cell? ⟨B, 0, none⟩ = some x) (hf : W.frozen? ⟨B, 0, none⟩ = false) (hW : W' = (W.drewN nq).setCell ⟨B, 0, none⟩ (.int .i64 a)) :
    KeepsFrom B0 W W' ∧ CellsBut B W W' ∧ W'.cell? ⟨B, 0, none⟩ = some (.int .i64 b) ∧ W'.frozen? ⟨B, 0, none⟩ = false ∧ W0.grownBy W' (some B) := by
  subst hab
  subst hW
  have e : (W.drewN nq).cell? ⟨B, 0, none⟩ = some x := hc
  have hG : W.grownBy ((W.drewN nq).setCell ⟨B, 0, none⟩ (.int .i64 b)) (some B) :=
    ⟨rfl, rfl, rfl, by simp, fun i _ hi => heap_setCell_other (W.drewN nq) ⟨B, 0, none⟩ i _ (fun e => hi (by simp [e]))⟩
  refine ⟨KeepsFrom.of_grownBy hG (fun j e => by cases e; exact hB), CellsBut.grown hG, ?_, ?_, ⟨hG.os.trans hg.os, hG.tape.trans hg.tape, hG.output.trans hg.output, Nat.le_trans hg.size hG.size, fun i hi hne => (hG.block i (Nat.lt_of_lt_of_le hi hg.size) hne).trans (hg.block i hi hne)⟩⟩
  · exact World.cell?_setCell_same _ _ _ e
  · rw [World.frozen?_setCell]; exact hf

theorem app_one_in {F : Fence} {nn : Nat} {w : World} {ops : Array Oper} {rest : List Oper} {o : Oper} {a : Act} {Q : Exit → Act → World → Prop} (hgd : o.guard = none) (s x : Operand)
    (ho : o.op = .call { callee := .builtin .append, args := #[s, x], argTypes := #[22, 22] })
    {B : Nat} {v : Value} {zs : List Int} (b c : Nat) (y : Int) (hs : a.eval s = v) (hx : a.eval x = .slice (some ⟨b, 0, none⟩) 1 c)
    (hcell : w.cell? ⟨b, 0, none⟩ = some (.int .i64 y)) (hown : OwnI B w v zs) (hB : B ≤ w.heap.size) (hlen : zs.length ≤ 1000000000)
    (h : ∀ v' w', OwnI B w' v' (zs ++ [y]) → w.grownBy w' v.ownBlock → wpListIn F nn Try.prog ops Q rest (a.put o.dst v') w') : wpListIn F nn Try.prog ops Q (o :: rest) a w := by
  obtain ⟨i0, hi, hz0, hz1, hz2⟩ := info_parts intInfo
  refine wpListIn_append_own w hgd s x 22 ho B 3 i0 (.int .i64 0) 1 8 Try.underlying22 hi hz0 hz1 hz2 rfl (by decide) v _ _ hs hown ⟨b, 0, none⟩ 1 c [.int .i64 y] hx rfl (fun j u hj => ?_) (by simp [Value.oneCell']) (by simp only [maxLen]; omega) (by omega) hB (fun v' w' h1 h2 _ => h v' w' (by simpa [OwnI] using h1) h2)
  match j with
  | 0 => simp at hj; subst hj; exact hcell
  | j + 1 => simp at hj

end Go.Proofs.Ytkjgcmdabelohaa
