/- A world gets a name, and what is known of its cells is said anew of it. No condition. -/
import Derived.WalkKit
import Derived.WalkSpells
import Derived.WalkLawsBesides
import Derived.BigQuiet
import Derived.Deep.QuietTactic
import Derived.Lib.Hide
import Derived.Handy
namespace Go.Proofs.Ytkjgcmdabelohaa
section
/- Base: Own small words for the walks of this seat: a world in which all that lay lies on; slices that read as lists. No condition. -/
open Go.RowKit

/-- A world in which all that lay in w lies as it lay. -/
structure BExt (w : World) where
  wd : World
  bel : Below w.heap.size w wd

instance BExt.some_ (w : World) : Nonempty (BExt w) := ⟨⟨w, Below.refl _ _⟩⟩

@[go_sem] theorem BExt.cell {w : World} (δ : BExt w) (b o : Nat) (h : b < w.heap.size) : δ.wd.cell? ⟨b, o, none⟩ = w.cell? ⟨b, o, none⟩ := δ.bel.cell (p := ⟨b, o, none⟩) h
@[go_sem] theorem BExt.frozen {w : World} (δ : BExt w) (b o : Nat) (h : b < w.heap.size) : δ.wd.frozen? ⟨b, o, none⟩ = w.frozen? ⟨b, o, none⟩ := δ.bel.frozen (p := ⟨b, o, none⟩) h

@[go_sem] theorem BExt.lt {w : World} (δ : BExt w) (b : Nat) (h : b < w.heap.size) : b < δ.wd.heap.size := Nat.lt_of_lt_of_le h δ.bel.size
@[go_sem] theorem BExt.le {w : World} (δ : BExt w) (b : Nat) (h : b ≤ w.heap.size) : b ≤ δ.wd.heap.size := Nat.le_trans h δ.bel.size

/-- All that lay in w lies in w' as it lay. -/
def Ext (w w' : World) : Prop := ∃ δ : BExt w, w' = δ.wd
theorem Ext.of {w w' : World} (h : Below w.heap.size w w') : Ext w w' := ⟨⟨w', h⟩, rfl⟩
theorem Ext.bel {w w' : World} (h : Ext w w') : Below w.heap.size w w' := by obtain ⟨δ, rfl⟩ := h; exact δ.bel
theorem Ext.refl (w : World) : Ext w w := .of (Below.refl _ _)
theorem Ext.trans {a b c : World} (h : Ext a b) (k : Ext b c) : Ext a c := .of (h.bel.trans (k.bel.mono h.bel.size))
theorem Ext.step {w W : World} (h : Ext w W) (δ : BExt W) : Ext w δ.wd := h.trans ⟨δ, rfl⟩
theorem Ext.alloc {w W : World} (h : Ext w W) (o : Obj) : Ext w (W.alloc o) := .of (h.bel.alloc h.bel.size o)
theorem Ext.drew {w W : World} (h : Ext w W) : Ext w W.drew := .of h.bel.drew
theorem Ext.drewN {w W : World} (h : Ext w W) (n : Nat) : Ext w (W.drewN n) := .of ⟨h.bel.os, h.bel.tape, h.bel.output, h.bel.size, h.bel.block⟩
theorem Ext.setCell {w W : World} (h : Ext w W) {p : Addr} (hp : w.heap.size ≤ p.block) (u : Value) : Ext w (W.setCell p u) := .of (h.bel.setCell hp u)
theorem Ext.cell {w w' : World} (h : Ext w w') {b : Nat} (o : Nat) (hb : b < w.heap.size) : w'.cell? ⟨b, o, none⟩ = w.cell? ⟨b, o, none⟩ := h.bel.cell (p := ⟨b, o, none⟩) hb

/-- A region that draws its order, whose operations only read what lay there, and whose callees make blocks of their own: one walk, in the order of the text. -/
theorem wp_region_bext {P : Program} {id : Nat} {Q : Exit → Act → World → Prop} {a : Act} {w : World} {l : List Oper} (hm : P.follows .mixedOrders = true) (hB : Region.lexB .any l.toArray = true)
    (h : wpQuiet P l.toArray (fun w' => ∃ δ : BExt w, w' = δ.wd) (fun a' => ∀ w', (∃ δ : BExt w, w' = δ.wd) → Q .normal a' w') l a) : (Code.region id l.toArray true).wp P Q a w :=
  wp_region_quiet (C := fun w' => ∃ δ : BExt w, w' = δ.wd) hm hB ⟨⟨{ w with drawn := w.drawn + 1 }, ⟨rfl, rfl, rfl, Nat.le_refl _, fun _ _ => rfl⟩⟩, rfl⟩ (by simpa using h)

/-- A callee's contract, met in such a region. -/
theorem bext_call {P : Program} {f : FuncId} {args : Array Value} {w : World} {δ : BExt w} {v : Value}
    (h : Calls P f args δ.wd fun e w' => e = .returned v ∧ Ext δ.wd w') : Calls P f args δ.wd fun e w'' => e = .returned v ∧ ∃ δ' : BExt w, w'' = δ'.wd :=
  h.mono fun _ w' ⟨he, hb⟩ => ⟨he, ⟨⟨w', δ.bel.trans (hb.bel.mono δ.bel.size)⟩, rfl⟩⟩
theorem bext_same {P : Program} {f : FuncId} {args : Array Value} {w : World} {δ : BExt w} {v : Value}
    (h : Calls P f args δ.wd fun e w' => e = .returned v ∧ δ.wd = w') : Calls P f args δ.wd fun e w'' => e = .returned v ∧ ∃ δ' : BExt w, w'' = δ'.wd :=
  h.mono fun _ _ ⟨he, hb⟩ => ⟨he, ⟨δ, hb.symm⟩⟩

theorem bcell {W w1 : World} {B : Nat} (hb : Below B W w1) : (∀ b o, b < B → w1.cell? ⟨b, o, none⟩ = W.cell? ⟨b, o, none⟩) ∧ (∀ b o, b < B → w1.frozen? ⟨b, o, none⟩ = W.frozen? ⟨b, o, none⟩) :=
  ⟨fun b o h => hb.cell (p := ⟨b, o, none⟩) h, fun b o h => hb.frozen (p := ⟨b, o, none⟩) h⟩

/-- is x from lo to hi? -/
def inB (lo hi x : Int) : Bool := decide (lo ≤ x) && decide (x ≤ hi)
theorem inB_iff {lo hi x : Int} : inB lo hi x = true ↔ lo ≤ x ∧ x ≤ hi := by simp [inB]
theorem inB_false {lo hi x : Int} : inB lo hi x = false ↔ ¬ (lo ≤ x ∧ x ≤ hi) := by rw [← inB_iff]; simp
def allB (lo hi : Int) (zs : List Int) : Bool := zs.all (inB lo hi)

/-- A slice of ints reads as the list zs. -/
structure RowI (w : World) (A : Option Addr) (n : Nat) (zs : List Int) : Prop where
  len : zs.length = n
  max : n ≤ maxLen
  at_ : ∀ k, k < n → ∃ b o, A = some ⟨b, o, none⟩ ∧ b < w.heap.size ∧ w.cell? ⟨b, o + k, none⟩ = some (.int .i64 (zs[k]?.getD 0))

theorem RowI.below {w w' : World} {A : Option Addr} {n : Nat} {zs : List Int} (h : RowI w A n zs) (hb : Below w.heap.size w w') : RowI w' A n zs :=
  ⟨h.len, h.max, fun k hk => by
    obtain ⟨b, o, hA, hlt, hc⟩ := h.at_ k hk
    exact ⟨b, o, hA, Nat.lt_of_lt_of_le hlt hb.size, (hb.cell (p := ⟨b, o + k, none⟩) hlt).trans hc⟩⟩

/-- A slice of structs of two ints reads as the list zs. -/
structure RowP (w : World) (A : Option Addr) (n : Nat) (zs : List (Int × Int)) : Prop where
  len : zs.length = n
  max : n ≤ maxLen
  at_ : ∀ k, k < n → ∃ b o, A = some ⟨b, o, none⟩ ∧ b < w.heap.size ∧ w.cell? ⟨b, o + k * 2, none⟩ = some (.int .i64 (zs[k]?.getD (0, 0)).1) ∧ w.cell? ⟨b, o + k * 2 + 1, none⟩ = some (.int .i64 (zs[k]?.getD (0, 0)).2)

theorem RowP.below {w w' : World} {A : Option Addr} {n : Nat} {zs : List (Int × Int)} (h : RowP w A n zs) (hb : Below w.heap.size w w') : RowP w' A n zs :=
  ⟨h.len, h.max, fun k hk => by
    obtain ⟨b, o, hA, hlt, hc, hc2⟩ := h.at_ k hk
    exact ⟨b, o, hA, Nat.lt_of_lt_of_le hlt hb.size, (hb.cell (p := ⟨b, o + k * 2, none⟩) hlt).trans hc, (hb.cell (p := ⟨b, o + k * 2 + 1, none⟩) hlt).trans hc2⟩⟩

theorem cell_lt {w : World} {b o : Nat} {v : Value} (h : w.cell? ⟨b, o, none⟩ = some v) : b < w.heap.size := by
  rcases Nat.lt_or_ge b w.heap.size with hlt | hge
  · exact hlt
  · simp [World.cell?, Array.getElem?_eq_none hge] at h

theorem rowI_one {w : World} {b : Nat} {x : Int} (h : w.cell? ⟨b, 0, none⟩ = some (.int .i64 x)) : RowI w (some ⟨b, 0, none⟩) 1 [x] :=
  ⟨rfl, by decide, fun k hk => ⟨b, 0, rfl, cell_lt h, by obtain rfl : k = 0 := by omega
                                                         exact h⟩⟩
theorem rowI_two {w : World} {b : Nat} {x y : Int} (h : w.cell? ⟨b, 0, none⟩ = some (.int .i64 x)) (h1 : w.cell? ⟨b, 1, none⟩ = some (.int .i64 y)) : RowI w (some ⟨b, 0, none⟩) 2 [x, y] :=
  ⟨rfl, by decide, fun k hk => ⟨b, 0, rfl, cell_lt h, by
    rcases (by omega : k = 0 ∨ k = 1) with rfl | rfl
    · exact h
    · exact h1⟩⟩

def firstOut (lo hi : Int) (zs : List Int) (n : Nat) (i : Int) : Prop := (0 ≤ i) ↔ ∃ k, k < n ∧ inB lo hi (zs[k]?.getD 0) = false

def IxPost (lo hi : Int) (zs : List Int) (n : Nat) (w : World) (e : Ending) (w' : World) : Prop := ∃ i : Int, e = .returned (.int .i64 i) ∧ firstOut lo hi zs n i ∧ w = w'

theorem firstOut_all {lo hi : Int} {zs : List Int} {n : Nat} {i : Int} (hl : zs.length = n) (h : firstOut lo hi zs n i) : decide (0 ≤ i) = !allB lo hi zs := by
  unfold firstOut at h
  cases ha : allB lo hi zs
  · have : ∃ k, k < n ∧ inB lo hi (zs[k]?.getD 0) = false := by
      simp only [allB, List.all_eq_false] at ha
      obtain ⟨x, hx, hb⟩ := ha
      obtain ⟨k, hk, rfl⟩ := List.getElem_of_mem hx
      exact ⟨k, by omega, by simpa [hk] using hb⟩
    simpa using h.2 this
  · have : ¬ 0 ≤ i := fun hi0 => by
      obtain ⟨k, hk, hb⟩ := h.1 hi0
      simp only [allB, List.all_eq_true] at ha
      have := ha zs[k] (List.getElem_mem (by omega))
      rw [List.getElem?_eq_getElem (by omega)] at hb
      simp only [Option.getD_some] at hb
      rw [this] at hb
      cases hb
    simpa using this

theorem ret_i {k : IntKind} {a b : Int} (h : a = b) : Ending.returned (.int k a) = .returned (.int k b) := by rw [h]
theorem ret_i2 {j k : IntKind} {a b c d : Int} (h : a = b) (h' : c = d) : Ending.returned (.tuple #[.int j a, .int k c]) = .returned (.tuple #[.int j b, .int k d]) := by rw [h, h']
theorem ret_i3 {j k l : IntKind} {a b c d x y : Int} (h : a = b) (h' : c = d) (h2 : x = y) : Ending.returned (.tuple #[.int j a, .int k c, .int l x]) = .returned (.tuple #[.int j b, .int k d, .int l y]) := by rw [h, h', h2]
theorem ret_b {a b : Bool} (h : a = b) : Ending.returned (.bool a) = .returned (.bool b) := by rw [h]

theorem take_snoc {α : Type} {l : List α} {k : Nat} {d : α} (h : k < l.length) : l.take (k + 1) = l.take k ++ [l[k]?.getD d] := by
  rw [List.take_succ_eq_append_getElem h]; simp [h]
end
open Go.RowKit

theorem Ext.cell_some {W W' : World} (hx : Ext W W') {b o : Nat} {v : Value} (h : W.cell? ⟨b, o, none⟩ = some v) : W'.cell? ⟨b, o, none⟩ = some v :=
  (hx.cell o (cell_lt h)).trans h
theorem Ext.lt {W W' : World} (hx : Ext W W') {b : Nat} (h : b < W.heap.size) : b < W'.heap.size := Nat.lt_of_lt_of_le h hx.bel.size
theorem Ext.frozen {W W' : World} (hx : Ext W W') {b o : Nat} {v : Value} {c : Bool} (h : W.cell? ⟨b, o, none⟩ = some v) (hf : W.frozen? ⟨b, o, none⟩ = c) : W'.frozen? ⟨b, o, none⟩ = c :=
  (hx.bel.frozen (p := ⟨b, o, none⟩) (cell_lt h)).trans hf
theorem RowI.ext {w w' : World} {A : Option Addr} {n : Nat} {zs : List Int} (h : RowI w A n zs) (hb : Ext w w') : RowI w' A n zs := h.below hb.bel
theorem RowP.ext {w w' : World} {A : Option Addr} {n : Nat} {zs : List (Int × Int)} (h : RowP w A n zs) (hb : Ext w w') : RowP w' A n zs := h.below hb.bel

theorem lay_wp {P : Program} {c : Code} {Q : Exit → Act → World → Prop} {a : Act} {X : World} (F : World → Prop) (hF : F X) (h : ∀ W, F W → Code.wp P c Q a W) : Code.wp P c Q a X := h X hF
theorem lay_calls {P : Program} {f : FuncId} {args : Array Value} {R : Ending → World → Prop} {X : World} (F : World → Prop) (hF : F X) (h : ∀ W, F W → Calls P f args W R) : Calls P f args X R := h X hF
theorem lay_list {P : Program} {ops : Array Oper} {rest : List Oper} {Q : Exit → Act → World → Prop} {a : Act} {X : World} (F : World → Prop) (hF : F X) (h : ∀ W, F W → wpList P ops Q rest a W) : wpList P ops Q rest a X := h X hF
end Go.Proofs.Ytkjgcmdabelohaa
