/- The kinds of light, and what an append leaves. No condition. -/
import Derived.Test.YtlljhimaopnbfaaLOpen
namespace Go.Proofs.Ytlljhimaopnbfaa
open Go.RowKit

def tiltK : EK (Int × Int) := ⟨23, 40, 2, fun x => [.int .i64 x.1, .int .i64 x.2], .agg #[.int .i64 0, .int .i64 0], 16, Try.underlying40, by kernel_rfl, rfl, by decide, by decide, fun _ => rfl, by simp [Value.oneCell']⟩
def shadeK : EK (Int × Int) := ⟨27, 57, 2, fun x => [.int .i64 x.1, .int .i64 x.2], .agg #[.int .i64 0, .int .i64 0], 16, Try.underlying57, by kernel_rfl, rfl, by decide, by decide, fun _ => rfl, by simp [Value.oneCell']⟩
def boolK : EK Bool := ⟨4, 52, 1, fun x => [.bool x], .bool false, 1, Try.underlying52, by kernel_rfl, rfl, by decide, by decide, fun _ => rfl, by simp [Value.oneCell']⟩
def lightK : EK (Int × Int × Int) := ⟨25, 70, 3, fun x => [.int .i64 x.1, .int .i64 x.2.1, .int .i64 x.2.2], .agg #[.int .i64 0, .int .i64 0, .int .i64 0], 24, Try.underlying70, by kernel_rfl, rfl, by decide, by decide, fun _ => rfl, by simp [Value.oneCell']⟩

/-- What makes a slice of its own. -/
def RetE {α : Type} (K : EK α) (w : World) (xs : List α) (e : Ending) (w' : World) : Prop := ∃ v, e = .returned v ∧ K.Own w.heap.size w' v xs ∧ Ext w w'
/-- .. with an error number. -/
def RetEE {α : Type} (K : EK α) (w : World) (xs : List α) (k : Int) (e : Ending) (w' : World) : Prop := ∃ v, e = .returned (.tuple #[v, .int .i64 k]) ∧ K.Own w.heap.size w' v xs ∧ Ext w w'

theorem Acc.after {α : Type} {K : EK α} {W0 W W1 W2 : World} {Bx off : Nat} {ans : List α} {sv : Value} (hA : Acc K W0 Bx off ans W) (hc : W.cell? ⟨Bx, off, none⟩ = some sv) (ho : K.Own W0.heap.size W sv ans) (x : Ext W W1) (g : W1.grownBy W2 sv.ownBlock) :
    W2.cell? ⟨Bx, off, none⟩ = some sv ∧ W2.frozen? ⟨Bx, off, none⟩ = false ∧ Bx < W2.heap.size := by
  have e2 := x.cell_some hc
  have hne : ∀ r, sv.ownBlock = some r → Bx ≠ r := fun r e => by have h1 := (ho.lt r e).1; have h2 := hA.lt; omega
  have e3 := g.cell e2 (fun e => hne _ e.symm rfl)
  refine ⟨e3, ?_, cell_lt e3⟩
  rw [← x.frozen hc hA.fr]
  exact World.frozen?_of_block (g.block Bx (cell_lt e2) (fun e => hne _ e.symm rfl))
/-- A block that was made second. -/
theorem cell_new1 {w : World} {o : Obj} {cs : Array Value} {T : TypeId} {i : Nat} {u : Value} (h : cs.toList[i]? = some u) : ((w.alloc o).alloc (.cells cs T)).cell? ⟨w.heap.size + 1, i, none⟩ = some u := by
  have := cell_new (w := w.alloc o) (T := T) h
  simpa using this
/-- Blocks that are not the slice's own. -/
theorem Acc.notin {α : Type} {K : EK α} {W0 W : World} {ans : List α} {sv : Value} (ho : K.Own W0.heap.size W sv ans) {b : Nat} (hb : b < W0.heap.size ∨ W.heap.size ≤ b) : b ∉ sv.ownBlock.toList :=
  notin_own (fun g hg => by have := ho.lt g hg; omega)
end Go.Proofs.Ytlljhimaopnbfaa
