/- A region that draws its order, in a round of a range over a function: it only reads what lay there, and its callees make blocks of their own; one walk in the order of the text. Condition: no defer statement in it. -/
import Derived.Test.YtlljhimaopnbfaaQTail
import Derived.Test.YtlljhimaopnbfaaLay
namespace Go.Proofs.Ytlljhimaopnbfaa
open Go.RowKit

section
variable {F : Fence} {n : Nat} {P : Program}
theorem wpIn_region_bextR {id : Nat} {Q : Exit → Act → World → Prop} {a : Act} {w : World} {l : List Oper} (hnd : l.toArray.all noDefer = true) (hm : P.follows .mixedOrders = true) (hB : Region.lexB .any l.toArray = true)
    (h : wpQuietIn F n P l.toArray (fun w' => ∃ δ : BExt w, w' = δ.wd) (fun a' => ∀ w', Ext w w' → Q .normal a' w') l a) : (Code.region id l.toArray true).wpIn F n P Q a w := by
  simp only [Region.lexB, Bool.and_eq_true] at hB
  refine wpIn_region_any hm (wpAnyIn_of_qR (C := fun w' => ∃ δ : BExt w, w' = δ.wd) (Q := fun a' => ∀ w', Ext w w' → Q .normal a' w') hnd (fun _ w' hw' h => h w' hw') _ _ _ _ ⟨⟨{ w with drawn := w.drawn + 1 }, ⟨rfl, rfl, rfl, Nat.le_refl _, fun _ _ => rfl⟩⟩, rfl⟩ ?_)
  have := wpAnyQIn_lex (F := F) (n := n) (C := fun w' => ∃ δ : BExt w, w' = δ.wd) (md := .any) hB.1 l 0 (Array.replicate l.toArray.size false) a (by simp) (by simpa using hB.2) h
  simpa using this
/-- A callee's contract, met in such a region. -/
theorem bextR_call {f : FuncId} {args : Array Value} {w : World} {δ : BExt w} {v : Value}
    (h : CallsIn F n P f args δ.wd fun e w' => e = .returned v ∧ Ext δ.wd w') : CallsIn F n P f args δ.wd fun e w'' => e = .returned v ∧ ∃ δ' : BExt w, w'' = δ'.wd :=
  h.mono fun _ _ ⟨he, hb⟩ => ⟨he, (Ext.step (Ext.refl w) δ).trans hb⟩
end
end Go.Proofs.Ytlljhimaopnbfaa
