/- A world gets a name, and what is known of its cells is said anew of it. No condition. -/
import Derived.Test.YtgeapenglcohfaaBase
namespace Go.Proofs.Ytgeapenglcohfaa
open Go.RowKit

theorem Ext.cell_some {W W' : World} (hx : Ext W W') {b o : Nat} {v : Value} (h : W.cell? ⟨b, o, none⟩ = some v) : W'.cell? ⟨b, o, none⟩ = some v :=
  (hx.cell o (cell_lt h)).trans h
theorem Ext.lt {W W' : World} (hx : Ext W W') {b : Nat} (h : b < W.heap.size) : b < W'.heap.size := Nat.lt_of_lt_of_le h hx.bel.size
theorem Ext.frozen {W W' : World} (hx : Ext W W') {b o : Nat} {v : Value} {c : Bool} (h : W.cell? ⟨b, o, none⟩ = some v) (hf : W.frozen? ⟨b, o, none⟩ = c) : W'.frozen? ⟨b, o, none⟩ = c :=
  (hx.bel.frozen (p := ⟨b, o, none⟩) (cell_lt h)).trans hf
theorem RowI.ext {w w' : World} {A : Option Addr} {n : Nat} {zs : List Int} (h : RowI w A n zs) (hb : Ext w w') : RowI w' A n zs := h.below hb.bel
theorem RowP.ext {w w' : World} {A : Option Addr} {n : Nat} {zs : List (Int × Int)} (h : RowP w A n zs) (hb : Ext w w') : RowP w' A n zs := h.below hb.bel

theorem lay_wp {P : Program} {c : Code} {Q : Exit → Act → World → Prop} {a : Act} {X : World} (F : World → Prop) (hF : F X) (h : ∀ W, F W → Code.wp P c Q a W) : Code.wp P c Q a X := h X hF
theorem lay_calls {P : Program} {f : FuncId} {args : Array Value} {R : Ending → World → Prop} {X : World} (F : World → Prop) (hF : F X) (h : ∀ W, F W → Calls P f args W R) : Calls P f args X R := h X hF
theorem lay_list {P : Program} {ops : Array Oper} {rest : List Oper} {Q : Exit → Act → World → Prop} {a : Act} {X : World} (F : World → Prop) (hF : F X) (h : ∀ W, F W → wpList P ops Q rest a W) : wpList P ops Q rest a X := h X hF
end Go.Proofs.Ytgeapenglcohfaa
