/- A world gets a name, and what is known of its cells is said anew of it. No condition. -/
/- Slices of ints that the call made itself, and those that came in. No condition. -/
/- Slices whose elements are laid in some cells each: the call's own, and those that came in. No condition. -/
/- A region that draws its order, in a round of a range over a function: operations that only read or call quietly, then some that make blocks, then what waits for all of them: one walk in the order of the text. Condition: no defer statement in it. -/
import Derived.WalkKit
import Derived.WalkSpells
import Derived.WalkLawsBesides
import Derived.BigQuiet
import Derived.Deep.QuietTactic
import Derived.Lib.Hide
import Derived.Handy
import Derived.OwnWalk
import Derived.Test.YtkjgcmdabelohaaGreatProg
import Derived.Laws.AppendOwnNone
import Derived.OwnWalkIn
import Derived.Laws.OwnMore
import Derived.Sort.QuietIn
import Derived.StillTail
namespace Go.Proofs.YtkjgcmdabelohaaGreat
section
/- Base: Own small words for the walks of this seat: a world in which all that lay lies on; slices that read as lists. No condition. -/
open Go.RowKit

/-- A world in which all that lay in w lies as it lay. -/
structure BExt (w : World) where
  wd : World
  bel : Below w.heap.size w wd

instance BExt.some_ (w : World) : Nonempty (BExt w) := ⟨⟨w, Below.refl _ _⟩⟩

@[go_sem] theorem BExt.cell {w : World} (δ : BExt w) (b o : Nat) (h : b < w.heap.size) : δ.wd.cell? ⟨b, o, none⟩ = w.cell? ⟨b, o, none⟩ := δ.bel.cell (p := ⟨b, o, none⟩) h
@[go_sem] theorem BExt.frozen {w : World} (δ : BExt w) (b o : Nat) (h : b < w.heap.size) : δ.wd.frozen? ⟨b, o, none⟩ = w.frozen? ⟨b, o, none⟩ := δ.bel.frozen (p := ⟨b, o, none⟩) h

@[go_sem] theorem BExt.lt {w : World} (δ : BExt w) (b : Nat) (h : b < w.heap.size) : b < δ.wd.heap.size := Nat.lt_of_lt_of_le h δ.bel.size
@[go_sem] theorem BExt.le {w : World} (δ : BExt w) (b : Nat) (h : b ≤ w.heap.size) : b ≤ δ.wd.heap.size := Nat.le_trans h δ.bel.size

/-- All that lay in w lies in w' as it lay. -/
def Ext (w w' : World) : Prop := ∃ δ : BExt w, w' = δ.wd
theorem Ext.of {w w' : World} (h : Below w.heap.size w w') : Ext w w' := ⟨⟨w', h⟩, rfl⟩
theorem Ext.bel {w w' : World} (h : Ext w w') : Below w.heap.size w w' := by obtain ⟨δ, rfl⟩ := h; exact δ.bel
theorem Ext.refl (w : World) : Ext w w := .of (Below.refl _ _)
theorem Ext.trans {a b c : World} (h : Ext a b) (k : Ext b c) : Ext a c := .of (h.bel.trans (k.bel.mono h.bel.size))
theorem Ext.step {w W : World} (h : Ext w W) (δ : BExt W) : Ext w δ.wd := h.trans ⟨δ, rfl⟩
theorem Ext.alloc {w W : World} (h : Ext w W) (o : Obj) : Ext w (W.alloc o) := .of (h.bel.alloc h.bel.size o)
theorem Ext.drew {w W : World} (h : Ext w W) : Ext w W.drew := .of h.bel.drew
theorem Ext.drewN {w W : World} (h : Ext w W) (n : Nat) : Ext w (W.drewN n) := .of ⟨h.bel.os, h.bel.tape, h.bel.output, h.bel.size, h.bel.block⟩
theorem Ext.setCell {w W : World} (h : Ext w W) {p : Addr} (hp : w.heap.size ≤ p.block) (u : Value) : Ext w (W.setCell p u) := .of (h.bel.setCell hp u)
theorem Ext.cell {w w' : World} (h : Ext w w') {b : Nat} (o : Nat) (hb : b < w.heap.size) : w'.cell? ⟨b, o, none⟩ = w.cell? ⟨b, o, none⟩ := h.bel.cell (p := ⟨b, o, none⟩) hb

/-- A region that draws its order, whose operations only read what lay there, and whose callees make blocks of their own: one walk, in the order of the text. -/
theorem wp_region_bext {P : Program} {id : Nat} {Q : Exit → Act → World → Prop} {a : Act} {w : World} {l : List Oper} (hm : P.follows .mixedOrders = true) (hB : Region.lexB .any l.toArray = true)
    (h : wpQuiet P l.toArray (fun w' => ∃ δ : BExt w, w' = δ.wd) (fun a' => ∀ w', (∃ δ : BExt w, w' = δ.wd) → Q .normal a' w') l a) : (Code.region id l.toArray true).wp P Q a w :=
  wp_region_quiet (C := fun w' => ∃ δ : BExt w, w' = δ.wd) hm hB ⟨⟨{ w with drawn := w.drawn + 1 }, ⟨rfl, rfl, rfl, Nat.le_refl _, fun _ _ => rfl⟩⟩, rfl⟩ (by simpa using h)

/-- A callee's contract, met in such a region. -/
theorem bext_call {P : Program} {f : FuncId} {args : Array Value} {w : World} {δ : BExt w} {v : Value}
    (h : Calls P f args δ.wd fun e w' => e = .returned v ∧ Ext δ.wd w') : Calls P f args δ.wd fun e w'' => e = .returned v ∧ ∃ δ' : BExt w, w'' = δ'.wd :=
  h.mono fun _ w' ⟨he, hb⟩ => ⟨he, ⟨⟨w', δ.bel.trans (hb.bel.mono δ.bel.size)⟩, rfl⟩⟩
theorem bext_same {P : Program} {f : FuncId} {args : Array Value} {w : World} {δ : BExt w} {v : Value}
    (h : Calls P f args δ.wd fun e w' => e = .returned v ∧ δ.wd = w') : Calls P f args δ.wd fun e w'' => e = .returned v ∧ ∃ δ' : BExt w, w'' = δ'.wd :=
  h.mono fun _ _ ⟨he, hb⟩ => ⟨he, ⟨δ, hb.symm⟩⟩

theorem bcell {W w1 : World} {B : Nat} (hb : Below B W w1) : (∀ b o, b < B → w1.cell? ⟨b, o, none⟩ = W.cell? ⟨b, o, none⟩) ∧ (∀ b o, b < B → w1.frozen? ⟨b, o, none⟩ = W.frozen? ⟨b, o, none⟩) :=
  ⟨fun b o h => hb.cell (p := ⟨b, o, none⟩) h, fun b o h => hb.frozen (p := ⟨b, o, none⟩) h⟩

/-- is x from lo to hi? -/
def inB (lo hi x : Int) : Bool := decide (lo ≤ x) && decide (x ≤ hi)
theorem inB_iff {lo hi x : Int} : inB lo hi x = true ↔ lo ≤ x ∧ x ≤ hi := by simp [inB]
theorem inB_false {lo hi x : Int} : inB lo hi x = false ↔ ¬ (lo ≤ x ∧ x ≤ hi) := by rw [← inB_iff]; simp
def allB (lo hi : Int) (zs : List Int) : Bool := zs.all (inB lo hi)

/-- A slice of ints reads as the list zs. -/
structure RowI (w : World) (A : Option Addr) (n : Nat) (zs : List Int) : Prop where
  len : zs.length = n
  max : n ≤ maxLen
  at_ : ∀ k, k < n → ∃ b o, A = some ⟨b, o, none⟩ ∧ b < w.heap.size ∧ w.cell? ⟨b, o + k, none⟩ = some (.int .i64 (zs[k]?.getD 0))

theorem RowI.below {w w' : World} {A : Option Addr} {n : Nat} {zs : List Int} (h : RowI w A n zs) (hb : Below w.heap.size w w') : RowI w' A n zs :=
  ⟨h.len, h.max, fun k hk => by
    obtain ⟨b, o, hA, hlt, hc⟩ := h.at_ k hk
    exact ⟨b, o, hA, Nat.lt_of_lt_of_le hlt hb.size, (hb.cell (p := ⟨b, o + k, none⟩) hlt).trans hc⟩⟩

/-- A slice of structs of two ints reads as the list zs. -/
structure RowP (w : World) (A : Option Addr) (n : Nat) (zs : List (Int × Int)) : Prop where
  len : zs.length = n
  max : n ≤ maxLen
  at_ : ∀ k, k < n → ∃ b o, A = some ⟨b, o, none⟩ ∧ b < w.heap.size ∧ w.cell? ⟨b, o + k * 2, none⟩ = some (.int .i64 (zs[k]?.getD (0, 0)).1) ∧ w.cell? ⟨b, o + k * 2 + 1, none⟩ = some (.int .i64 (zs[k]?.getD (0, 0)).2)

theorem RowP.below {w w' : World} {A : Option Addr} {n : Nat} {zs : List (Int × Int)} (h : RowP w A n zs) (hb : Below w.heap.size w w') : RowP w' A n zs :=
  ⟨h.len, h.max, fun k hk => by
    obtain ⟨b, o, hA, hlt, hc, hc2⟩ := h.at_ k hk
    exact ⟨b, o, hA, Nat.lt_of_lt_of_le hlt hb.size, (hb.cell (p := ⟨b, o + k * 2, none⟩) hlt).trans hc, (hb.cell (p := ⟨b, o + k * 2 + 1, none⟩) hlt).trans hc2⟩⟩

theorem cell_lt {w : World} {b o : Nat} {v : Value} (h : w.cell? ⟨b, o, none⟩ = some v) : b < w.heap.size := by
  rcases Nat.lt_or_ge b w.heap.size with hlt | hge
  · exact hlt
  · simp [World.cell?, Array.getElem?_eq_none hge] at h

theorem rowI_one {w : World} {b : Nat} {x : Int} (h : w.cell? ⟨b, 0, none⟩ = some (.int .i64 x)) : RowI w (some ⟨b, 0, none⟩) 1 [x] :=
  ⟨rfl, by decide, fun k hk => ⟨b, 0, rfl, cell_lt h, by obtain rfl : k = 0 := by omega
                                                         exact h⟩⟩
theorem rowI_two {w : World} {b : Nat} {x y : Int} (h : w.cell? ⟨b, 0, none⟩ = some (.int .i64 x)) (h1 : w.cell? ⟨b, 1, none⟩ = some (.int .i64 y)) : RowI w (some ⟨b, 0, none⟩) 2 [x, y] :=
  ⟨rfl, by decide, fun k hk => ⟨b, 0, rfl, cell_lt h, by
    rcases (by omega : k = 0 ∨ k = 1) with rfl | rfl
    · exact h
    · exact h1⟩⟩

def firstOut (lo hi : Int) (zs : List Int) (n : Nat) (i : Int) : Prop := (0 ≤ i) ↔ ∃ k, k < n ∧ inB lo hi (zs[k]?.getD 0) = false

def IxPost (lo hi : Int) (zs : List Int) (n : Nat) (w : World) (e : Ending) (w' : World) : Prop := ∃ i : Int, e = .returned (.int .i64 i) ∧ firstOut lo hi zs n i ∧ w = w'

theorem firstOut_all {lo hi : Int} {zs : List Int} {n : Nat} {i : Int} (hl : zs.length = n) (h : firstOut lo hi zs n i) : decide (0 ≤ i) = !allB lo hi zs := by
  unfold firstOut at h
  cases ha : allB lo hi zs
  · have : ∃ k, k < n ∧ inB lo hi (zs[k]?.getD 0) = false := by
      simp only [allB, List.all_eq_false] at ha
      obtain ⟨x, hx, hb⟩ := ha
      obtain ⟨k, hk, rfl⟩ := List.getElem_of_mem hx
      exact ⟨k, by omega, by simpa [hk] using hb⟩
    simpa using h.2 this
  · have : ¬ 0 ≤ i := fun hi0 => by
      obtain ⟨k, hk, hb⟩ := h.1 hi0
      simp only [allB, List.all_eq_true] at ha
      have := ha zs[k] (List.getElem_mem (by omega))
      rw [List.getElem?_eq_getElem (by omega)] at hb
      simp only [Option.getD_some] at hb
      rw [this] at hb
      cases hb
    simpa using this

theorem ret_i {k : IntKind} {a b : Int} (h : a = b) : Ending.returned (.int k a) = .returned (.int k b) := by rw [h]
theorem ret_i2 {j k : IntKind} {a b c d : Int} (h : a = b) (h' : c = d) : Ending.returned (.tuple #[.int j a, .int k c]) = .returned (.tuple #[.int j b, .int k d]) := by rw [h, h']
theorem ret_i3 {j k l : IntKind} {a b c d x y : Int} (h : a = b) (h' : c = d) (h2 : x = y) : Ending.returned (.tuple #[.int j a, .int k c, .int l x]) = .returned (.tuple #[.int j b, .int k d, .int l y]) := by rw [h, h', h2]
theorem ret_b {a b : Bool} (h : a = b) : Ending.returned (.bool a) = .returned (.bool b) := by rw [h]

theorem take_snoc {α : Type} {l : List α} {k : Nat} {d : α} (h : k < l.length) : l.take (k + 1) = l.take k ++ [l[k]?.getD d] := by
  rw [List.take_succ_eq_append_getElem h]; simp [h]
end
open Go.RowKit

theorem Ext.cell_some {W W' : World} (hx : Ext W W') {b o : Nat} {v : Value} (h : W.cell? ⟨b, o, none⟩ = some v) : W'.cell? ⟨b, o, none⟩ = some v :=
  (hx.cell o (cell_lt h)).trans h
theorem Ext.lt {W W' : World} (hx : Ext W W') {b : Nat} (h : b < W.heap.size) : b < W'.heap.size := Nat.lt_of_lt_of_le h hx.bel.size
theorem Ext.frozen {W W' : World} (hx : Ext W W') {b o : Nat} {v : Value} {c : Bool} (h : W.cell? ⟨b, o, none⟩ = some v) (hf : W.frozen? ⟨b, o, none⟩ = c) : W'.frozen? ⟨b, o, none⟩ = c :=
  (hx.bel.frozen (p := ⟨b, o, none⟩) (cell_lt h)).trans hf
theorem RowI.ext {w w' : World} {A : Option Addr} {n : Nat} {zs : List Int} (h : RowI w A n zs) (hb : Ext w w') : RowI w' A n zs := h.below hb.bel
theorem RowP.ext {w w' : World} {A : Option Addr} {n : Nat} {zs : List (Int × Int)} (h : RowP w A n zs) (hb : Ext w w') : RowP w' A n zs := h.below hb.bel

theorem lay_wp {P : Program} {c : Code} {Q : Exit → Act → World → Prop} {a : Act} {X : World} (F : World → Prop) (hF : F X) (h : ∀ W, F W → Code.wp P c Q a W) : Code.wp P c Q a X := h X hF
theorem lay_calls {P : Program} {f : FuncId} {args : Array Value} {R : Ending → World → Prop} {X : World} (F : World → Prop) (hF : F X) (h : ∀ W, F W → Calls P f args W R) : Calls P f args X R := h X hF
theorem lay_list {P : Program} {ops : Array Oper} {rest : List Oper} {Q : Exit → Act → World → Prop} {a : Act} {X : World} (F : World → Prop) (hF : F X) (h : ∀ W, F W → wpList P ops Q rest a W) : wpList P ops Q rest a X := h X hF
end Go.Proofs.YtkjgcmdabelohaaGreat

namespace Go.Proofs.YtkjgcmdabelohaaGreat
open Go.RowKit

theorem Ext.below {W w w' : World} {B : Nat} (h : Ext W w) (hb : Below B w w') (hB : W.heap.size ≤ B) : Ext W w' := .of (h.bel.trans (hb.mono hB))
theorem Ext.grow {w w' : World} (h : Ext w w') (row : Option Nat) : w.grownBy w' row := ⟨h.bel.os, h.bel.tape, h.bel.output, h.bel.size, fun k hk _ => h.bel.block k hk⟩
theorem Ext.le {W w : World} (h : Ext W w) {n : Nat} (hn : n ≤ W.heap.size) : n ≤ w.heap.size := Nat.le_trans hn h.bel.size

/-- v is a slice of ints that reads as zs, and its cells are the call's own: they lie in a block from B on. -/
def OwnI (B : Nat) (w : World) (v : Value) (zs : List Int) : Prop := w.ownsRow B 3 1 v zs.length (zs.map (Value.int .i64))
/-- v is a slice of ints that reads as zs. -/
def IsI (w : World) (v : Value) (zs : List Int) : Prop := ∃ A c, v = .slice A zs.length c ∧ (A = none → c = 0) ∧ (zs.length ≤ c ∧ c ≤ maxLen) ∧ RowI w A zs.length zs

theorem IsI.ext {w w' : World} {v : Value} {zs : List Int} (h : IsI w v zs) (hx : Ext w w') : IsI w' v zs := by
  obtain ⟨A, c, rfl, h0, hc, hr⟩ := h
  exact ⟨A, c, rfl, h0, hc, hr.ext hx⟩
theorem IsI.of_row {w : World} {A : Option Addr} {n c : Nat} {zs : List Int} (h0 : A = none → c = 0) (hc : n ≤ c) (hm : c ≤ maxLen) (h : RowI w A n zs) : IsI w (.slice A n c) zs := by
  obtain rfl := h.len
  exact ⟨A, c, rfl, h0, ⟨hc, hm⟩, h⟩
theorem OwnI.nil (B : Nat) (w : World) : OwnI B w (.slice none 0 0) [] := World.ownsRow_nil w B _ 1
theorem OwnI.ext {B : Nat} {w w' : World} {v : Value} {zs : List Int} (h : OwnI B w v zs) (hx : Ext w w') : OwnI B w' v zs :=
  World.ownsRow.kept h (hx.grow none) (by cases v.ownBlock <;> simp)
theorem OwnI.mono {B B' : Nat} {w : World} {v : Value} {zs : List Int} (h : OwnI B w v zs) (hB : B' ≤ B) : OwnI B' w v zs := by
  refine ⟨h.1, ?_⟩
  rcases h.2 with hn | ⟨g, cap, cur, hv, hb, rest⟩
  · exact .inl hn
  · exact .inr ⟨g, cap, cur, hv, Nat.le_trans hB hb, rest⟩
theorem OwnI.isI {B : Nat} {w : World} {v : Value} {zs : List Int} (h : OwnI B w v zs) : IsI w v zs := by
  rcases h.2 with ⟨rfl, h0⟩ | ⟨g, cap, cur, rfl, hb, hg, hn, hm, hs, ht⟩
  · exact ⟨none, 0, by rw [h0], fun _ => rfl, ⟨by omega, by omega⟩, ⟨rfl, by omega, fun k hk => by omega⟩⟩
  · refine ⟨_, cap, rfl, by simp, ⟨hn, hm⟩, ⟨rfl, by omega, fun k hk => ⟨g, 0, rfl, (Array.getElem?_eq_some_iff.1 hg).1, ?_⟩⟩⟩
    have := World.ownsRow.cells h (g := g) rfl k (.int .i64 (zs[k]?.getD 0)) (by simp [List.getElem?_eq_getElem hk])
    simp only [Addr.add] at this
    split at this <;> simp_all
theorem IsI.len {w : World} {v : Value} {zs : List Int} (h : IsI w v zs) : zs.length ≤ maxLen := by
  obtain ⟨A, c, rfl, _, _, hr⟩ := h
  exact hr.max
theorem OwnI.made (B : Nat) (w : World) (cap : Nat) (hb : B ≤ w.heap.size) (cur : Array Value) (hm : cap ≤ maxLen) (hs : cur.size = cap) :
    OwnI B (w.alloc (.cells cur 3)) (.slice (some ⟨w.heap.size, 0, none⟩) 0 cap) [] := World.ownsRow_made w cur cap hb hm (by omega)

theorem IsI.open_ {w : World} {v : Value} {zs : List Int} (h : IsI w v zs) : ∃ A n c, v = .slice A n c ∧ (A = none → c = 0) ∧ RowI w A n zs ∧ n ≤ 9223372036854775807 := by
  obtain ⟨A, c, rfl, h0, _, hr⟩ := h
  exact ⟨A, _, c, rfl, h0, hr, by have := hr.max; simpa [maxLen] using this⟩

theorem IsI.caps {w : World} {A : Option Addr} {n c : Nat} {zs : List Int} (h : IsI w (.slice A n c) zs) : n ≤ c ∧ c ≤ 9223372036854775807 := by
  obtain ⟨_, _, he, _, hc, _⟩ := h
  cases he
  simpa [maxLen] using hc

theorem intInfo : (Tryz.prog.info? 3).map (fun i => (i.zero, i.size, i.bytes)) = some (some (.int .i64 0), 1, 8) := by kernel_rfl

theorem app_one {w : World} {ops : Array Oper} {rest : List Oper} {o : Oper} {a : Act} {Q : Exit → Act → World → Prop} (hgd : o.guard = none) (s x : Operand)
    (ho : o.op = .call { callee := .builtin .append, args := #[s, x], argTypes := #[22, 22] })
    {B : Nat} {v : Value} {zs : List Int} (b c : Nat) (y : Int) (hs : a.eval s = v) (hx : a.eval x = .slice (some ⟨b, 0, none⟩) 1 c)
    (hcell : w.cell? ⟨b, 0, none⟩ = some (.int .i64 y)) (hown : OwnI B w v zs) (hB : B ≤ w.heap.size) (hlen : zs.length ≤ 1000000000)
    (h : ∀ v' w', OwnI B w' v' (zs ++ [y]) → Below B w w' → wpList Tryz.prog ops Q rest (a.put o.dst v') w') : wpList Tryz.prog ops Q (o :: rest) a w := by
  obtain ⟨i0, hi, hz0, hz1, hz2⟩ := info_parts intInfo
  refine wpList_append_own w hgd s x 22 ho B 3 i0 (.int .i64 0) 1 8 Tryz.underlying22 hi hz0 hz1 hz2 rfl (by decide) v _ _ hs hown ⟨b, 0, none⟩ 1 c [.int .i64 y] hx rfl (fun j u hj => ?_) (by simp [Value.oneCell']) (by simp only [maxLen]; omega) (by omega) hB (fun v' w' h1 h2 _ => h v' w' (by simpa [OwnI] using h1) ?_)
  · match j with
    | 0 => simp at hj; subst hj; exact hcell
    | j + 1 => simp at hj
  · exact (Below.refl B w).grown h2 hB fun k hk => (World.ownsRow.lt hown k hk).1

theorem app_all {w : World} {ops : Array Oper} {rest : List Oper} {o : Oper} {a : Act} {Q : Exit → Act → World → Prop} (hgd : o.guard = none) (s x : Operand)
    (ho : o.op = .call { callee := .builtin .append, args := #[s, x], argTypes := #[22, 22] })
    {B : Nat} {v u : Value} {zs ys : List Int} (hs : a.eval s = v) (hx : a.eval x = u)
    (hu : IsI w u ys) (hown : OwnI B w v zs) (hB : B ≤ w.heap.size) (hlen : zs.length + ys.length ≤ 10000000000)
    (h : ∀ v' w', OwnI B w' v' (zs ++ ys) → Below B w w' → wpList Tryz.prog ops Q rest (a.put o.dst v') w') : wpList Tryz.prog ops Q (o :: rest) a w := by
  obtain ⟨i0, hi, hz0, hz1, hz2⟩ := info_parts intInfo
  obtain ⟨A, c, rfl, hc0, _, hr⟩ := hu
  match A with
  | none => 
    have h0 : ys.length = 0 := by
      rcases Nat.eq_zero_or_pos ys.length with h | h
      · exact h
      · obtain ⟨_, _, he, _⟩ := hr.at_ 0 h
        cases he
    obtain rfl := List.length_eq_zero_iff.1 h0
    obtain rfl := hc0 rfl
    refine wpList_append_own_none hgd s x 22 ho B 3 i0 1 Tryz.underlying22 hi v _ _ hs hown hx (h v w (by simpa using hown) (Below.refl B w))
  | some ad =>
    refine wpList_append_own w hgd s x 22 ho B 3 i0 (.int .i64 0) 1 8 Tryz.underlying22 hi hz0 hz1 hz2 rfl (by decide) v _ _ hs hown ad ys.length c (ys.map (Value.int .i64)) hx (by simp) (fun j u hj => ?_) (by simp [Value.oneCell']) (by simp only [maxLen]; omega) (by omega) hB (fun v' w' h1 h2 _ => h v' w' (by simpa [OwnI] using h1) ?_)
    · have hj' : j < ys.length := by
        rcases Nat.lt_or_ge j ys.length with h | h
        · exact h
        · simp [List.getElem?_eq_none h] at hj
      obtain ⟨b, o', he, hlt, hc⟩ := hr.at_ j hj'
      simp only [Option.some.injEq] at he
      subst he
      simp [List.getElem?_eq_getElem hj'] at hj hc
      subst hj
      simp only [Addr.add]
      split <;> simp_all
    · exact (Below.refl B w).grown h2 hB fun k hk => (World.ownsRow.lt hown k hk).1
end Go.Proofs.YtkjgcmdabelohaaGreat

namespace Go.Proofs.YtkjgcmdabelohaaGreat
open Go.RowKit

/-- A kind of elements: the element's type, the slice's, how many cells, and which. -/
structure EK (α : Type) where
  ty : TypeId
  st : TypeId
  k : Nat
  enc : α → List Value
  z : Value
  bytes : Nat
  und : Tryz.prog.underlying st = some (.slice ty)
  info : (Tryz.prog.info? ty).map (fun i => (i.zero, i.size, i.bytes)) = some (some z, k, bytes)
  hzs : z.cells.size = k
  pos : 0 < k
  small : bytes ≤ 1000
  len : ∀ x, (enc x).length = k
  one : ∀ x, ∀ v ∈ enc x, v.oneCell' = true

section
variable {α : Type} (K : EK α)

theorem flat_len : ∀ xs : List α, (xs.flatMap K.enc).length = xs.length * K.k
  | [] => by simp
  | x :: xs => by rw [List.flatMap_cons, List.length_append, flat_len xs, K.len, List.length_cons, Nat.succ_mul, Nat.add_comm]
theorem flat_at : ∀ (xs : List α) (j : Nat) (h : j < xs.length) (i : Nat), i < K.k → (xs.flatMap K.enc)[j * K.k + i]? = (K.enc xs[j])[i]?
  | x :: xs, 0, _, i, hi => by
    rw [List.flatMap_cons, List.getElem?_append_left (by rw [K.len]; omega)]
    simp
  | x :: xs, j + 1, h, i, hi => by
    rw [List.flatMap_cons, List.getElem?_append_right (by rw [K.len, Nat.succ_mul]; omega), K.len, show (j + 1) * K.k + i - K.k = j * K.k + i by rw [Nat.succ_mul]; omega, flat_at xs j (by simpa using h) i hi]
    simp

/-- v is a slice of the call's own (its block is from B on) that reads as xs. -/
def EK.Own (B : Nat) (w : World) (v : Value) (xs : List α) : Prop := w.ownsRow B K.ty K.k v xs.length (xs.flatMap K.enc)
/-- The slice at A reads as xs. -/
def EK.Row (w : World) (A : Option Addr) (xs : List α) : Prop := ∀ (j : Nat) (h : j < xs.length), ∃ b o, A = some ⟨b, o, none⟩ ∧ b < w.heap.size ∧ ∀ i u, (K.enc xs[j])[i]? = some u → w.cell? ⟨b, o + j * K.k + i, none⟩ = some u
/-- v is a slice that reads as xs. -/
def EK.Is (w : World) (v : Value) (xs : List α) : Prop := ∃ A c, v = .slice A xs.length c ∧ (A = none → c = 0) ∧ (xs.length ≤ c ∧ c ≤ maxLen) ∧ K.Row w A xs

variable {K}
theorem EK.Row.ext {w w' : World} {A : Option Addr} {xs : List α} (h : K.Row w A xs) (hx : Ext w w') : K.Row w' A xs := fun j hj => by
  obtain ⟨b, o, hA, hb, hc⟩ := h j hj
  exact ⟨b, o, hA, hx.lt hb, fun i u hu => hx.cell_some (hc i u hu)⟩
theorem EK.Is.ext {w w' : World} {v : Value} {xs : List α} (h : K.Is w v xs) (hx : Ext w w') : K.Is w' v xs := by
  obtain ⟨A, c, rfl, h0, hc, hr⟩ := h
  exact ⟨A, c, rfl, h0, hc, hr.ext hx⟩
theorem EK.Own.nil (B : Nat) (w : World) : K.Own B w (.slice none 0 0) [] := World.ownsRow_nil w B _ _
theorem EK.Own.ext {B : Nat} {w w' : World} {v : Value} {xs : List α} (h : K.Own B w v xs) (hx : Ext w w') : K.Own B w' v xs :=
  World.ownsRow.kept h (hx.grow none) (by cases v.ownBlock <;> simp)
theorem EK.Own.kept {B : Nat} {w w' : World} {row : Option Nat} {v : Value} {xs : List α} (h : K.Own B w v xs) (hg : w.grownBy w' row) (hne : v.ownBlock = none ∨ v.ownBlock ≠ row) : K.Own B w' v xs := World.ownsRow.kept h hg hne
theorem EK.Own.lt {B : Nat} {w : World} {v : Value} {xs : List α} (h : K.Own B w v xs) : ∀ k, v.ownBlock = some k → B ≤ k ∧ k < w.heap.size := World.ownsRow.lt h
theorem EK.Own.mono {B B' : Nat} {w : World} {v : Value} {xs : List α} (h : K.Own B w v xs) (hB : B' ≤ B) : K.Own B' w v xs := by
  refine ⟨h.1, ?_⟩
  rcases h.2 with hn | ⟨g, cap, cur, hv, hb, rest⟩
  · exact .inl hn
  · exact .inr ⟨g, cap, cur, hv, Nat.le_trans hB hb, rest⟩
theorem EK.Own.is {B : Nat} {w : World} {v : Value} {xs : List α} (h : K.Own B w v xs) : K.Is w v xs := by
  rcases h.2 with ⟨rfl, h0⟩ | ⟨g, cap, cur, rfl, hb, hg, hn, hm, hs, ht⟩
  · exact ⟨none, 0, by rw [h0], fun _ => rfl, ⟨by omega, by simp [maxLen]⟩, fun j hj => by omega⟩
  · refine ⟨_, cap, rfl, by simp, ⟨hn, hm⟩, fun j hj => ⟨g, 0, rfl, (Array.getElem?_eq_some_iff.1 hg).1, fun i u hu => ?_⟩⟩
    have hi : i < K.k := by rw [← K.len xs[j]]; exact (List.getElem?_eq_some_iff.1 hu).1
    have := World.ownsRow.cells h (g := g) rfl (j * K.k + i) u (by rw [flat_at K xs j hj i hi]; exact hu)
    simp only [Addr.add] at this
    split at this
    · rename_i h0
      rw [Nat.zero_add, h0]
      exact this
    · simpa [Nat.add_assoc] using this
theorem EK.Is.len {w : World} {v : Value} {xs : List α} (h : K.Is w v xs) : xs.length ≤ maxLen := by
  obtain ⟨A, c, rfl, _, hc, hr⟩ := h
  omega
theorem EK.Is.nil (w : World) : K.Is w (.slice none 0 0) [] := (EK.Own.nil 0 w).is
theorem EK.Is.open_ {w : World} {v : Value} {xs : List α} (h : K.Is w v xs) : ∃ A n c, v = .slice A n c ∧ xs.length = n ∧ (A = none → c = 0) ∧ K.Row w A xs ∧ n ≤ 9223372036854775807 := by
  have hl := h.len
  obtain ⟨A, c, rfl, h0, _, hr⟩ := h
  exact ⟨A, _, c, rfl, rfl, h0, hr, by simpa [maxLen] using hl⟩

theorem EK.app {w : World} {ops : Array Oper} {rest : List Oper} {o : Oper} {a : Act} {Q : Exit → Act → World → Prop} (hgd : o.guard = none) (s x : Operand)
    (ho : o.op = .call { callee := .builtin .append, args := #[s, x], argTypes := #[K.st, K.st] })
    {B : Nat} {v : Value} {xs : List α} (b c : Nat) (y : α) (hs : a.eval s = v) (hx : a.eval x = .slice (some ⟨b, 0, none⟩) 1 c)
    (hcell : ∀ i u, (K.enc y)[i]? = some u → w.cell? ⟨b, i, none⟩ = some u) (hown : K.Own B w v xs) (hB : B ≤ w.heap.size) (hlen : xs.length ≤ 1000000000)
    (h : ∀ v' w', K.Own B w' v' (xs ++ [y]) → Below B w w' → w.grownBy w' v.ownBlock → wpList Tryz.prog ops Q rest (a.put o.dst v') w') : wpList Tryz.prog ops Q (o :: rest) a w := by
  obtain ⟨i0, hi, hz0, hz1, hz2⟩ := info_parts K.info
  have hsm := K.small
  refine wpList_append_own w hgd s x K.st ho B K.ty i0 K.z K.k K.bytes K.und hi hz0 hz1 hz2 K.hzs K.pos v _ _ hs hown ⟨b, 0, none⟩ 1 c (K.enc y) hx (by rw [K.len, Nat.one_mul]) (fun j u hj => ?_) (K.one y) (by simp only [maxLen]; omega) (Nat.le_trans (Nat.mul_le_mul (show xs.length + 1 ≤ 1000000001 by omega) hsm) (by decide)) hB (fun v' w' h1 h2 _ => h v' w' (by simpa [EK.Own] using h1) ?_ h2)
  · have := hcell j u hj
    simp only [Addr.add]
    split
    · rename_i h0; subst h0; exact this
    · simpa using this
  · exact (Below.refl B w).grown h2 hB fun k hk => (World.ownsRow.lt hown k hk).1

theorem EK.app_in {F : Fence} {nn : Nat} {w : World} {ops : Array Oper} {rest : List Oper} {o : Oper} {a : Act} {Q : Exit → Act → World → Prop} (hgd : o.guard = none) (s x : Operand)
    (ho : o.op = .call { callee := .builtin .append, args := #[s, x], argTypes := #[K.st, K.st] })
    {B : Nat} {v : Value} {xs : List α} (b c : Nat) (y : α) (hs : a.eval s = v) (hx : a.eval x = .slice (some ⟨b, 0, none⟩) 1 c)
    (hcell : ∀ i u, (K.enc y)[i]? = some u → w.cell? ⟨b, i, none⟩ = some u) (hown : K.Own B w v xs) (hB : B ≤ w.heap.size) (hlen : xs.length ≤ 1000000000)
    (h : ∀ v' w', K.Own B w' v' (xs ++ [y]) → Below B w w' → w.grownBy w' v.ownBlock → wpListIn F nn Tryz.prog ops Q rest (a.put o.dst v') w') : wpListIn F nn Tryz.prog ops Q (o :: rest) a w := by
  obtain ⟨i0, hi, hz0, hz1, hz2⟩ := info_parts K.info
  have hsm := K.small
  refine wpListIn_append_own w hgd s x K.st ho B K.ty i0 K.z K.k K.bytes K.und hi hz0 hz1 hz2 K.hzs K.pos v _ _ hs hown ⟨b, 0, none⟩ 1 c (K.enc y) hx (by rw [K.len, Nat.one_mul]) (fun j u hj => ?_) (K.one y) (by simp only [maxLen]; omega) (Nat.le_trans (Nat.mul_le_mul (show xs.length + 1 ≤ 1000000001 by omega) hsm) (by decide)) hB (fun v' w' h1 h2 _ => h v' w' (by simpa [EK.Own] using h1) ?_ h2)
  · have := hcell j u hj
    simp only [Addr.add]
    split
    · rename_i h0; subst h0; exact this
    · simpa using this
  · exact (Below.refl B w).grown h2 hB fun k hk => (World.ownsRow.lt hown k hk).1

/-- A slice literal. -/
theorem EK.Own.lit {B : Nat} (w : World) (cs : Array Value) (xs : List α) (hc : cs.toList = xs.flatMap K.enc) (hB : B ≤ w.heap.size) (hm : xs.length ≤ maxLen) :
    K.Own B (w.alloc (.cells cs K.ty)) (.slice (some ⟨w.heap.size, 0, none⟩) xs.length xs.length) xs := by
  have := World.ownsRow_lit (base := B) (e := K.ty) (size := K.k) w cs xs.length hB hm (by rw [← Array.length_toList, hc, flat_len])
  rw [hc] at this
  exact this
end

/-- A block that was just made. -/
theorem cell_new {w : World} {cs : Array Value} {T : TypeId} {i : Nat} {u : Value} (h : cs.toList[i]? = some u) : (w.alloc (.cells cs T)).cell? ⟨w.heap.size, i, none⟩ = some u := by
  have h1 : (w.alloc (.cells cs T)).heap[w.heap.size]? = some (.cells cs T) := heap_alloc_new w _
  have h2 : cs[i]? = some u := by simpa using h
  unfold World.cell?
  simp only [h1]
  exact h2

/-- The kinds. -/
def intK : EK Int := ⟨3, 22, 1, fun x => [.int .i64 x], .int .i64 0, 8, Tryz.underlying22, by kernel_rfl, rfl, by decide, by decide, fun _ => rfl, by simp [Value.oneCell']⟩
theorem flat_ints (zs : List Int) : zs.flatMap intK.enc = zs.map (Value.int .i64) := by
  induction zs with
  | nil => rfl
  | cons z zs ih => rw [List.flatMap_cons, ih]; rfl
theorem intK_own {B : Nat} {w : World} {v : Value} {zs : List Int} : intK.Own B w v zs ↔ OwnI B w v zs := by
  unfold EK.Own OwnI
  rw [flat_ints]
  exact Iff.rfl
end Go.Proofs.YtkjgcmdabelohaaGreat

namespace Go.Proofs.YtkjgcmdabelohaaGreat
section
/- QuietR: A region that draws its order, in a round of a range over a function: one walk in the order of the text. Condition: no defer statement in it. -/
open Go.RowKit

section
variable {F : Fence} {n : Nat} {P : Program} {ops : Array Oper} {md : Region.Mode} {C : World → Prop}

def noDefer (o : Oper) : Bool := match o.op with
  | .defer _ => false
  | _ => true
theorem semAt_any {o : Oper} (h : noDefer o = true) (ro : Option Nat) (ρ : Operand → Value) : Oper.semAt ro ρ o = execOp ρ o := by
  cases ro with
  | none => rfl
  | some l =>
    refine Oper.semAt_some l ρ o fun c e => ?_
    simp [noDefer, e] at h

theorem wpIn_of_quietR {o : Oper} {a : Act} {K : Act → Prop} {K' : Act → World → Prop} {Q' : Exit → Act → World → Prop} {w : World} (hnd : noDefer o = true) (hw : C w) (h : ∀ a w', C w' → K a → K' a w')
    (ha : o.askedIn F P a C) (hh : o.quietIn F n P a C K) : o.wpIn F n P a w K' Q' := by
  obtain ⟨v, h1, h2⟩ := hh
  have h3 := h1 w hw
  unfold Oper.quietAtIn at h3
  unfold Oper.wpIn
  refine ⟨ha w hw, ?_⟩
  rw [semAt_any hnd]
  generalize (execOp a.eval o).run P w = r at *
  cases r with
  | ok x w' =>
    cases x <;> simp only [Oper.quietUponIn] at h3 <;> simp only [Oper.uponIn]
    case value u =>
      obtain ⟨e1, e2⟩ := h3
      rw [e1, e2]
      exact h _ _ hw h2
    case skip =>
      obtain ⟨e1, e2⟩ := h3
      rw [e1, ← e2]
      exact h _ _ hw h2
    case enter f args =>
      obtain ⟨e1, hd, hc⟩ := h3
      rw [e1]
      exact ⟨hd, hc.mono fun e w'' ⟨he, hw''⟩ => by subst he; exact h _ _ hw'' h2⟩
  | halt x w' => simp only [Oper.quietUponIn] at h3

theorem wpOpIn_of_qR {i : Nat} {a : Act} {K : Act → Prop} {K' : Act → World → Prop} {Q' : Exit → Act → World → Prop} {w : World} (hnd : ops.all noDefer = true) (hC : C w) (h : ∀ a w', C w' → K a → K' a w')
    (hh : qOpIn F n P ops C i K a) : wpOpIn F n P ops Q' i K' a w := by
  unfold qOpIn at hh
  unfold wpOpIn
  split
  · rename_i ho; simp only [ho] at hh; exact h _ _ hC hh
  · rename_i o ho
    simp only [ho] at hh
    obtain ⟨ha, hh⟩ := hh
    have ho' : noDefer o = true := by
      obtain ⟨hi, rfl⟩ := Array.getElem?_eq_some_iff.1 ho
      exact Array.all_eq_true.1 hnd i hi
    split
    · rename_i hw; simp only [hw, if_true] at hh; exact wpIn_of_quietR ho' hC h ha hh
    · rename_i hw; simp only [hw] at hh; exact ⟨ha w hC, h _ _ hC hh⟩

theorem wpAnyIn_of_qR {Q : Act → Prop} {Q' : Exit → Act → World → Prop} (hnd : ops.all noDefer = true) (hQ : ∀ a w, C w → Q a → Q' .normal a w) : ∀ (fuel : Nat) (listed : Array Bool) (a : Act) (w : World), C w →
    wpAnyQIn F n P md ops C Q fuel listed a → wpAnyIn F n P md ops Q' fuel listed a w
  | 0, _, _, _, hw, h => ⟨h.1, hQ _ _ hw h.2⟩
  | fuel + 1, _, _, _, hw, h => ⟨fun h0 => hQ _ _ hw (h.1 h0), fun i hi => wpOpIn_of_qR hnd hw (fun a' w' hw' => wpAnyIn_of_qR hnd hQ fuel _ a' w' hw') (h.2 i hi)⟩

theorem wpIn_region_quietR {id : Nat} {Q : Exit → Act → World → Prop} {a : Act} {w : World} {l : List Oper} (hnd : l.toArray.all noDefer = true) (hm : P.follows .mixedOrders = true) (hB : Region.lexB .any l.toArray = true)
    (h : wpQuietIn F n P l.toArray (fun w' => ∃ n, w' = w.drewN n) (fun a' => ∀ w', (∃ n, w' = w.drewN n) → Q .normal a' w') l a) : (Code.region id l.toArray true).wpIn F n P Q a w := by
  simp only [Region.lexB, Bool.and_eq_true] at hB
  refine wpIn_region_any hm (wpAnyIn_of_qR (C := fun w' => ∃ n, w' = w.drewN n) (Q := fun a' => ∀ w', (∃ n, w' = w.drewN n) → Q .normal a' w') hnd (fun _ w' hw' h => h w' hw') _ _ _ _ ⟨1, rfl⟩ ?_)
  have := wpAnyQIn_lex (F := F) (n := n) (C := fun w' => ∃ n, w' = w.drewN n) (md := .any) hB.1 l 0 (Array.replicate l.toArray.size false) a (by simp) (by simpa using hB.2) h
  simpa using this
end
end
open Go.RowKit

/-- A world in which all that lay below B in w lies as it lay. -/
structure BExtB (B : Nat) (w : World) where
  wd : World
  bel : Below B w wd
instance BExtB.some_ (B : Nat) (w : World) : Nonempty (BExtB B w) := ⟨⟨w, Below.refl _ _⟩⟩
@[go_sem] theorem BExtB.cell {B : Nat} {w : World} (δ : BExtB B w) (b o : Nat) (h : b < B) : δ.wd.cell? ⟨b, o, none⟩ = w.cell? ⟨b, o, none⟩ := δ.bel.cell (p := ⟨b, o, none⟩) h
@[go_sem] theorem BExtB.frozen {B : Nat} {w : World} (δ : BExtB B w) (b o : Nat) (h : b < B) : δ.wd.frozen? ⟨b, o, none⟩ = w.frozen? ⟨b, o, none⟩ := δ.bel.frozen (p := ⟨b, o, none⟩) h

section
variable {F : Fence} {n : Nat} {P : Program} {ops : Array Oper} {md : Region.Mode} {B : Nat}

/-- In every world in which what lay below B lies, the operation leaves v, and a world that lies upon that one. -/
def YQ (B : Nat) (F : Fence) (n : Nat) (P : Program) (ops : Array Oper) (o : Oper) (v : Value) (a : Act) (w : World) : Prop :=
  (∀ w3, Below B w w3 → ∀ f, o.about P w3 a.eval = some f → F.fn f) ∧
  ((Region.wanted o (yielded ops a.tmps) = true ∧ ∀ w3, Below B w w3 → o.quietAtIn F n P a (Ext w3) w3 v) ∨ (Region.wanted o (yielded ops a.tmps) = false ∧ v = undef))
theorem YQ.later {o : Oper} {v : Value} {a : Act} {w w2 : World} (h : YQ B F n P ops o v a w) (x : Below B w w2) : YQ B F n P ops o v a w2 :=
  ⟨fun w3 h3 => h.1 w3 (x.trans h3), h.2.imp (fun h => ⟨h.1, fun w3 h3 => h.2 w3 (x.trans h3)⟩) id⟩
theorem YQ.of_same {o : Oper} {v : Value} {a a' : Act} {w : World} (hy : YQ B F n P ops o v a w) (he : execOp a'.eval o = execOp a.eval o)
    (hw : Region.wanted o (yielded ops a'.tmps) = Region.wanted o (yielded ops a.tmps)) (hb : ∀ w, o.about P w a'.eval = o.about P w a.eval) : YQ B F n P ops o v a' w := by
  unfold YQ Oper.quietAtIn at *
  rw [he, hw]
  exact ⟨fun w hc f hf => hy.1 w hc f (by rw [← hb w]; exact hf), hy.2⟩
theorem Ext.belB {w w1 : World} (x : Ext w w1) (hB : B ≤ w.heap.size) : Below B w w1 := x.bel.mono hB

/-- The operation makes a block, or writes one from B on: what lay below B, lies. -/
def midO (B : Nat) (P : Program) (ops : Array Oper) (o : Oper) (K : Act → World → Prop) (a : Act) (w : World) : Prop :=
  Region.wanted o (yielded ops a.tmps) = true ∧ ∀ w1, Ext w w1 → o.about P w1 a.eval = none ∧ ∃ v w2, (execOp a.eval o).run P w1 = .ok (.value v) w2 ∧ Below B w1 w2 ∧ K (a.put o.dst v) w2

def wpAnyM (B : Nat) (F : Fence) (n : Nat) (P : Program) (md : Region.Mode) (ops : Array Oper) (isQ : Nat → Bool) (nn : Nat) (L : Array Bool → Act → World → Prop) : Nat → Array Bool → Act → World → Prop
  | 0, listed, a, w => L listed a w
  | f + 1, listed, a, w =>
    Region.ready md ops listed ≠ [] ∧ ∀ i ∈ Region.ready md ops listed, i < nn ∧ ∃ o, ops[i]? = some o ∧
      ((isQ i = true ∧ ∃ v, YQ B F n P ops o v a w ∧ wpAnyM B F n P md ops isQ nn L f (listed.setIfInBounds i true) (a.put o.dst v) w) ∨
       (isQ i = false ∧ midO B P ops o (wpAnyM B F n P md ops isQ nn L f (listed.setIfInBounds i true)) a w))

theorem wpOpIn_of_YQ {i : Nat} {o : Oper} {v : Value} {a : Act} {w w1 : World} {K' : Act → World → Prop} {Q' : Exit → Act → World → Prop} (hi : ops[i]? = some o) (hnd : noDefer o = true) (hx : Below B w w1) (hy : YQ B F n P ops o v a w)
    (h : ∀ w2, Ext w1 w2 → K' (a.put o.dst v) w2) : wpOpIn F n P ops Q' i K' a w1 := by
  unfold wpOpIn
  simp only [hi]
  rcases hy.2 with ⟨hw, hq⟩ | ⟨hw, rfl⟩
  · simp only [hw, if_true]
    have h3 := hq w1 hx
    unfold Oper.quietAtIn at h3
    unfold Oper.wpIn
    refine ⟨hy.1 w1 hx, ?_⟩
    rw [semAt_any hnd]
    generalize (execOp a.eval o).run P w1 = r at *
    cases r with
    | ok x w' =>
      cases x <;> simp only [Oper.quietUponIn] at h3 <;> simp only [Oper.uponIn]
      case value u =>
        obtain ⟨e1, e2⟩ := h3
        rw [e1, e2]
        exact h _ (Ext.refl _)
      case skip =>
        obtain ⟨e1, e2⟩ := h3
        rw [e1, ← e2]
        exact h _ (Ext.refl _)
      case enter f args =>
        obtain ⟨e1, hd, hc⟩ := h3
        rw [e1]
        exact ⟨hd, hc.mono fun e w'' ⟨he, hw''⟩ => by subst he; exact h _ hw''⟩
    | halt x w' => simp only [Oper.quietUponIn] at h3
  · simp only [hw, Bool.false_eq_true, if_false]
    exact ⟨hy.1 w1 hx, h _ (Ext.refl _)⟩

theorem wpOpIn_of_mid {i : Nat} {o : Oper} {a : Act} {w w1 : World} {K : Act → World → Prop} {Q' : Exit → Act → World → Prop} (hi : ops[i]? = some o) (hnd : noDefer o = true) (hx : Ext w w1) (hm : midO B P ops o K a w) :
    wpOpIn F n P ops Q' i (fun a2 w2 => Below B w1 w2 ∧ K a2 w2) a w1 := by
  unfold wpOpIn
  simp only [hi, hm.1, if_true]
  obtain ⟨hab, v, w2, hr, hb, hK⟩ := hm.2 w1 hx
  unfold Oper.wpIn
  refine ⟨fun f hf => (by rw [hab] at hf; cases hf), ?_⟩
  rw [semAt_any hnd, hr]
  exact ⟨hb, hK⟩
theorem midO_mono {o : Oper} {a : Act} {w : World} {K K' : Act → World → Prop} (hB : B ≤ w.heap.size) (h : ∀ a w2, Below B w w2 → K a w2 → K' a w2) (hm : midO B P ops o K a w) : midO B P ops o K' a w :=
  ⟨hm.1, fun w1 hx => let ⟨hab, v, w2, hr, h12, hK⟩ := hm.2 w1 hx; ⟨hab, v, w2, hr, h12, h _ _ ((hx.belB hB).trans h12) hK⟩⟩

theorem wpAnyIn_of_M {isQ : Nat → Bool} {nn g : Nat} {L : Array Bool → Act → World → Prop} {Q' : Exit → Act → World → Prop} (hnd : ops.all noDefer = true) (hL : ∀ listed a w w1, L listed a w → Ext w w1 → wpAnyIn F n P md ops Q' g listed a w1) :
    ∀ (f : Nat) (listed : Array Bool) (a : Act) (w w1 : World), B ≤ w.heap.size → Ext w w1 → wpAnyM B F n P md ops isQ nn L f listed a w → wpAnyIn F n P md ops Q' (f + g) listed a w1
  | 0, listed, a, w, w1, _, hx, h => by rw [Nat.zero_add]; exact hL _ _ _ _ h hx
  | f + 1, listed, a, w, w1, hB, hx, h => by
    rw [show f + 1 + g = (f + g) + 1 by omega]
    refine ⟨fun h0 => absurd h0 h.1, fun i hi => ?_⟩
    obtain ⟨_, o, ho, hc⟩ := h.2 i hi
    have hnd' : noDefer o = true := by
      obtain ⟨hi, rfl⟩ := Array.getElem?_eq_some_iff.1 ho
      exact Array.all_eq_true.1 hnd i hi
    rcases hc with ⟨_, v, hy, hK⟩ | ⟨_, hm⟩
    · exact wpOpIn_of_YQ ho hnd' (hx.belB hB) hy fun w2 h2 => wpAnyIn_of_M hnd hL f _ _ _ _ hB (hx.trans h2) hK
    · exact wpOpIn_mono (fun a' w' h' => wpAnyIn_of_M hnd hL f _ a' w' w' (Nat.le_trans (Nat.le_trans hB hx.bel.size) h'.1.size) (Ext.refl _) h'.2) (wpOpIn_of_mid ho hnd' hx hm)

theorem wpAnyM_first {isQ : Nat → Bool} {nn i : Nat} {oi : Oper} {v : Value} {L : Array Bool → Act → World → Prop} (hi : ops[i]? = some oi) (hsel : ∀ (j : Nat) (o : Oper) cs b, ops[j]? = some o → o.op ≠ .select cs b)
    (hs : Region.sinkB md ops nn = true) (hc : Region.chainB md ops nn = true) (hn : nn < ops.size) (hin : i < nn) (hik : isQ i = true)
    (hdone : ∀ listed a w, L listed a w → ∀ j ∈ Region.ready md ops listed, nn ≤ j) :
    ∀ (f : Nat) (listed : Array Bool) (a : Act) (w : World), B ≤ w.heap.size → HeadInv md ops nn listed →
      (∀ j oj, ops[j]? = some oj → j ≠ i → listed.getD j true = false → (∀ e ∈ oj.after, Region.binds md e = true → e.on ≠ i) → oi.apart ops oj = true) →
      i ∈ Region.ready md ops listed → YQ B F n P ops oi v a w →
      wpAnyM B F n P md ops isQ nn L f (listed.setIfInBounds i true) (a.put oi.dst v) w → wpAnyM B F n P md ops isQ nn L (f + 1) listed a w := by
  intro f
  induction f with
  | zero =>
    intro listed a w _ inv _ hr hy H
    have hun := (mem_ready.1 hr).1
    refine ⟨fun h => (by rw [h] at hr; cases hr), fun j hj => ?_⟩
    have hjn : j < nn := by
      rcases Nat.lt_or_ge j nn with h | h
      · exact h
      · exact absurd hj (tail_waits hs hc hn inv _ i rfl hin hun j h)
    refine ⟨hjn, ?_⟩
    by_cases hji : j = i
    · subst hji; exact ⟨oi, hi, .inl ⟨hik, v, hy, H⟩⟩
    · have := hdone _ _ _ H j (ready_mono hj hji)
      omega
  | succ f ih =>
    intro listed a w hB inv hfree hr hy H
    have hun := (mem_ready.1 hr).1
    refine ⟨fun h => (by rw [h] at hr; cases hr), fun j hj => ?_⟩
    have hjn : j < nn := by
      rcases Nat.lt_or_ge j nn with h | h
      · exact h
      · exact absurd hj (tail_waits hs hc hn inv _ i rfl hin hun j h)
    refine ⟨hjn, ?_⟩
    by_cases hji : j = i
    · subst hji; exact ⟨oi, hi, .inl ⟨hik, v, hy, H⟩⟩
    · obtain ⟨_, oj, hoj, hcase⟩ := H.2 j (ready_mono hj hji)
      obtain ⟨hjun, oj', hoj', hall⟩ := mem_ready.1 hj
      obtain rfl : oj = oj' := Option.some.inj (hoj.symm.trans hoj')
      have hnot : ∀ e ∈ oj.after, Region.binds md e = true → e.on ≠ i := fun e he hb heq => by
        have h1 := hall e he hb
        rw [heq, getD_both hun] at h1
        cases h1
      have hap := hfree j oj hoj hji hjun hnot
      obtain ⟨p1, p2, p3⟩ := Oper.apart_spec hap
      have hsi := fun cs b => hsel i oi cs b hi
      have hsj := fun cs b => hsel j oj cs b hoj
      have keep : ∀ u w2, Below B w w2 → YQ B F n P ops oi v (a.put oj.dst u) w2 := fun u w2 x =>
        (hy.later x).of_same (execOp_put oi hsi a oj.dst u p3) (wanted_put oi a oj.dst u p3) (fun w => about_put oi w a oj.dst u p3)
      have hfree' : ∀ k ok, ops[k]? = some ok → k ≠ i → (listed.setIfInBounds j true).getD k true = false →
          (∀ e ∈ ok.after, Region.binds md e = true → e.on ≠ i) → oi.apart ops ok = true := fun k ok hk hki hun hno => by
        refine hfree k ok hk hki ?_ hno
        by_cases hjk : j = k
        · subst hjk; exact hjun
        · rw [getD_set_ne true hjk] at hun; exact hun
      refine ⟨oj, hoj, hcase.imp (fun ⟨hjk, u, hyj, hK⟩ => ⟨hjk, u, ?_, ?_⟩) (fun ⟨hjk, hw, hm⟩ => ⟨hjk, ?_, fun w1 hx => ?_⟩)⟩
      · exact hyj.of_same (execOp_put oj hsj a oi.dst v p1).symm (wanted_put oj a oi.dst v p1).symm (fun w => (about_put oj w a oi.dst v p1).symm)
      · refine ih (listed.setIfInBounds j true) _ w hB (inv.set hj hjn) hfree' (ready_mono hr (Ne.symm hji)) (keep u w (Below.refl _ _)) ?_
        rw [Array.setIfInBounds_comm _ _ hji, ← Act.put_comm a v u p2]
        exact hK
      · rw [← wanted_put oj a oi.dst v p1]; exact hw
      · obtain ⟨hab, u, w2, hr2, h12, hK⟩ := hm w1 hx
        refine ⟨by rw [← about_put oj w1 a oi.dst v p1]; exact hab, u, w2, by rw [← execOp_put oj hsj a oi.dst v p1]; exact hr2, h12, ?_⟩
        refine ih (listed.setIfInBounds j true) _ w2 (Nat.le_trans (Nat.le_trans hB hx.bel.size) h12.size) (inv.set hj hjn) hfree' (ready_mono hr (Ne.symm hji)) (keep u w2 ((hx.belB hB).trans h12)) ?_
        rw [Array.setIfInBounds_comm _ _ hji, ← Act.put_comm a v u p2]
        exact hK

/-- The walk of the quiet operations, and of those that make blocks, by their numbers. -/
def wpQ (B : Nat) (F : Fence) (n : Nat) (P : Program) (ops : Array Oper) (w : World) (Q : Act → Prop) : List Nat → Act → Prop
  | [], a => Q a
  | i :: is, a => ∃ o, ops[i]? = some o ∧ ∃ v, YQ B F n P ops o v a w ∧ wpQ B F n P ops w Q is (a.put o.dst v)
def wpM (B : Nat) (P : Program) (ops : Array Oper) (Q : Act → World → Prop) : List Nat → Act → World → Prop
  | [], a, w => Q a w
  | i :: is, a, w => ∃ o, ops[i]? = some o ∧ midO B P ops o (wpM B P ops Q is) a w

theorem wpAnyIn_of_seq {Q' : Exit → Act → World → Prop} : ∀ (l : List Oper) (k : Nat) (listed : Array Bool) (a : Act) (w : World), (∀ j, l[j]? = ops[k + j]?) →
    Region.seqB md ops l.length k listed = true → wpListIn F n P ops Q' l a w → wpAnyIn F n P md ops Q' l.length listed a w
  | [], _, _, _, _, _, hB, h => ⟨by simpa [Region.seqB] using hB, h⟩
  | o :: l, k, listed, a, w, hl, hB, h => by
    have h0 : ops[k]? = some o := by simpa using (hl 0).symm
    simp only [List.length_cons, Region.seqB, Bool.and_eq_true, decide_eq_true_eq] at hB
    refine ⟨fun h1 => (by rw [hB.1] at h1; cases h1), fun i hi => ?_⟩
    rw [hB.1] at hi
    have hik : i = k := by simpa using hi
    subst hik
    have hw : wpOpIn F n P ops Q' i (wpListIn F n P ops Q' l) a w := by unfold wpOpIn; simp only [h0]; exact h
    exact wpOpIn_mono (fun a' w' h' => wpAnyIn_of_seq l (i + 1) _ a' w' (fun j => by have := hl (j + 1); simpa [Nat.add_assoc, Nat.add_comm 1 j] using this) hB.2 h') hw

def seqM (md : Region.Mode) (ops : Array Oper) (nn : Nat) : List Nat → Array Bool → Bool
  | [], listed => Region.seqB md ops (ops.size - nn) nn listed
  | i :: is, listed => decide (Region.ready md ops listed = [i]) && seqM md ops nn is (listed.setIfInBounds i true)
def lexQ (md : Region.Mode) (ops : Array Oper) (nn : Nat) (ms : List Nat) : List Nat → Array Bool → Bool
  | [], listed => seqM md ops nn ms listed
  | i :: is, listed => (Region.ready md ops listed).contains i && Region.free md ops listed i && lexQ md ops nn ms is (listed.setIfInBounds i true)

theorem wpAnyM_mid {isQ : Nat → Bool} {nn : Nat} {T : Act → World → Prop} : ∀ (ms : List Nat) (listed : Array Bool) (a : Act) (w : World), B ≤ w.heap.size → (∀ i ∈ ms, isQ i = false ∧ i < nn) →
    seqM md ops nn ms listed = true → wpM B P ops T ms a w →
    wpAnyM B F n P md ops isQ nn (fun listed' a' w' => Region.seqB md ops (ops.size - nn) nn listed' = true ∧ T a' w') ms.length listed a w
  | [], listed, a, w, _, _, hB, h => ⟨hB, h⟩
  | i :: is, listed, a, w, hw, hm, hB, h => by
    simp only [seqM, Bool.and_eq_true, decide_eq_true_eq] at hB
    refine ⟨fun h1 => (by rw [hB.1] at h1; cases h1), fun j hj => ?_⟩
    rw [hB.1] at hj
    obtain rfl : j = i := by simpa using hj
    obtain ⟨o, h0, hmid⟩ := h
    obtain ⟨h1, h2⟩ := hm j (by simp)
    refine ⟨h2, o, h0, .inr ⟨h1, midO_mono hw (fun a2 w2 hb h2 => ?_) hmid⟩⟩
    exact wpAnyM_mid is _ a2 w2 (Nat.le_trans hw hb.size) (fun k hk => hm k (by simp [hk])) hB.2 h2

theorem wpAnyM_lex {isQ : Nat → Bool} {nn : Nat} {T : Act → World → Prop} (ms : List Nat) (hms : ∀ i ∈ ms, isQ i = false ∧ i < nn) (hsel : Region.noSelect ops = true) (hs : Region.sinkB md ops nn = true) (hc : Region.chainB md ops nn = true) (hn : nn < ops.size) :
    ∀ (qs : List Nat) (listed : Array Bool) (a : Act) (w : World), B ≤ w.heap.size → (∀ i ∈ qs, isQ i = true ∧ i < nn) → HeadInv md ops nn listed →
    lexQ md ops nn ms qs listed = true → wpQ B F n P ops w (fun a' => wpM B P ops T ms a' w) qs a →
    wpAnyM B F n P md ops isQ nn (fun listed' a' w' => Region.seqB md ops (ops.size - nn) nn listed' = true ∧ T a' w') (qs.length + ms.length) listed a w
  | [], listed, a, w, hw, _, _, hB, h => by
    have := wpAnyM_mid (F := F) (n := n) (md := md) (isQ := isQ) (T := T) ms listed a w hw hms hB h
    simpa using this
  | i :: is, listed, a, w, hw, hq, inv, hB, h => by
    simp only [lexQ, Bool.and_eq_true] at hB
    obtain ⟨⟨hr, hf⟩, hB'⟩ := hB
    obtain ⟨h1, h2⟩ := hq i (by simp)
    have hr' : i ∈ Region.ready md ops listed := by simpa using hr
    obtain ⟨o, h0, v, hy, hK⟩ := h
    have := wpAnyM_first (F := F) (n := n) (P := P) (isQ := isQ) (L := fun listed' a' w' => Region.seqB md ops (ops.size - nn) nn listed' = true ∧ T a' w') h0 (Region.noSelect_spec hsel) hs hc hn h2 h1 (fun listed' a' w' hL => seqB_ready hL.1) (is.length + ms.length) listed a w hw inv (Region.free_spec h0 hf) hr' hy
      (wpAnyM_lex ms hms hsel hs hc hn is _ _ w hw (fun k hk => hq k (by simp [hk])) (inv.set hr' h2) hB' hK)
    rw [List.length_cons, show is.length + 1 + ms.length = is.length + ms.length + 1 by omega]
    exact this

def qmtB (ops : Array Oper) (nn : Nat) (qs ms : List Nat) : Bool :=
  Region.noSelect ops && ops.all noDefer && decide (nn < ops.size) && Region.sinkB .any ops nn && Region.chainB .any ops nn && decide (qs.length + ms.length = nn) && qs.all (fun i => decide (i < nn)) && ms.all (fun i => decide (i < nn) && !qs.contains i) && lexQ .any ops nn ms qs (Array.replicate ops.size false)

/-- The operations qs only read or call quietly; those of ms make blocks; the others stand behind them, one after the other. -/
theorem wpIn_region_qmt {id : Nat} {Q : Exit → Act → World → Prop} {a : Act} {w : World} {l : List Oper} (nn : Nat) (qs ms : List Nat) (hBw : B ≤ w.heap.size) (hm : P.follows .mixedOrders = true) (hB : qmtB l.toArray nn qs ms = true)
    (h : wpQ B F n P l.toArray w (fun a' => wpM B P l.toArray (fun a2 w2 => ∀ w3, Ext w2 w3 → wpListIn F n P l.toArray Q (l.drop nn) a2 w3) ms a' w) qs a) : (Code.region id l.toArray true).wpIn F n P Q a w := by
  simp only [qmtB, Bool.and_eq_true, decide_eq_true_eq] at hB
  obtain ⟨⟨⟨⟨⟨⟨⟨⟨hsel, hnd⟩, hn⟩, hs⟩, hc⟩, hlen⟩, hqs⟩, hms⟩, hlex⟩ := hB
  have hn' : nn < l.length := by simpa using hn
  have hdl : (l.drop nn).length = l.toArray.size - nn := by simp
  have inv0 : HeadInv .any l.toArray nn (Array.replicate l.toArray.size false) :=
    ⟨by simp, fun j oj _ hl => (by rw [getD_replicate_false] at hl; cases hl), fun t _ ht => getD_in (by simpa using ht) (getD_replicate_false _ _)⟩
  have H := wpAnyM_lex (F := F) (n := n) (P := P) (md := .any) (isQ := fun i => qs.contains i) (nn := nn) ms (fun i hi => by
    have := List.all_eq_true.1 hms i hi
    simp only [Bool.and_eq_true, decide_eq_true_eq, Bool.not_eq_true'] at this
    exact ⟨this.2, this.1⟩) hsel hs hc hn qs _ a w hBw (fun i hi => ⟨by simpa using hi, by simpa using List.all_eq_true.1 hqs i hi⟩) inv0 hlex h
  refine wpIn_region_any hm ?_
  have := wpAnyIn_of_M (F := F) (n := n) (P := P) (Q' := Q) (g := l.toArray.size - nn) hnd (fun listed a' w' w1 hL hx => by
    have := wpAnyIn_of_seq (F := F) (n := n) (P := P) (md := .any) (Q' := Q) (l.drop nn) nn listed a' w1 (fun j => by simp [List.getElem?_drop]) (by rw [hdl]; exact hL.1) (hL.2 w1 hx)
    rwa [hdl] at this) _ _ _ _ { w with drawn := w.drawn + 1 } hBw ((Ext.refl w).drew) H
  rw [hlen, show nn + (l.toArray.size - nn) = l.toArray.size by omega] at this
  exact this

/-- One quiet operation of the walk. -/
def pureUpon (F : Fence) (n : Nat) (P : Program) (w : World) (v : Value) : Result Next → Prop
  | .ok (.value u) w' => w' = w ∧ u = v
  | .ok .skip w' => w' = w ∧ v = undef
  | .ok (.enter f args) w' => w' = w ∧ (F.depth.isSome = true → 1 ≤ n) ∧ CallsIn F (n - 1) P f args w (fun e w'' => e = .returned v ∧ Ext w w'')
  | _ => False
def pureQ (B : Nat) (F : Fence) (n : Nat) (P : Program) (o : Oper) (a : Act) (w : World) (K : Act → Prop) : Prop := ∃ v, (∀ δ : BExtB B w, pureUpon F n P δ.wd v ((execOp a.eval o).run P δ.wd)) ∧ K (a.put o.dst v)
theorem wpQ_step {w : World} {Q : Act → Prop} {i : Nat} {is : List Nat} {o : Oper} {a : Act} (h0 : ops[i]? = some o) (hab : ∀ w3 f, o.about P w3 a.eval = some f → F.fn f)
    (h : ∀ K : Act → Prop, (∀ a, wpQ B F n P ops w Q is a → K a) → if Region.wanted o (yielded ops a.tmps) then pureQ B F n P o a w K else K (a.put o.dst undef)) : wpQ B F n P ops w Q (i :: is) a := by
  have h1 := h _ (fun _ h => h)
  by_cases hw : Region.wanted o (yielded ops a.tmps) = true
  · rw [if_pos hw] at h1
    obtain ⟨v, h2, h3⟩ := h1
    refine ⟨o, h0, v, ⟨fun w3 _ => hab w3, .inl ⟨hw, fun w3 x => ?_⟩⟩, h3⟩
    have h4 := h2 ⟨w3, x⟩
    unfold Oper.quietAtIn
    generalize (execOp a.eval o).run P w3 = r at *
    cases r with
    | ok x w' => cases x <;> simp only [pureUpon] at h4 <;> simp only [Oper.quietUponIn] <;> first | exact h4 | exact h4.elim
    | halt x w' => simp only [pureUpon] at h4
  · rw [if_neg hw] at h1
    exact ⟨o, h0, undef, ⟨fun w3 _ => hab w3, .inr ⟨by simpa using hw, rfl⟩⟩, h1⟩
theorem wpQ_nil {w : World} {Q : Act → Prop} {a : Act} (h : Q a) : wpQ B F n P ops w Q [] a := h
theorem wpM_nil {w : World} {Q : Act → World → Prop} {a : Act} (h : Q a w) : wpM B P ops Q [] a w := h

/-- One operation that makes a block. -/
def midUpon (B : Nat) (o : Oper) (a : Act) (w : World) (K : Act → World → Prop) : Result Next → Prop
  | .ok (.value v) w2 => Below B w w2 ∧ K (a.put o.dst v) w2
  | _ => False
theorem wpM_step {w : World} {Q : Act → World → Prop} {i : Nat} {is : List Nat} {o : Oper} {a : Act} (h0 : ops[i]? = some o) (hw : Region.wanted o (yielded ops a.tmps) = true) (hab : ∀ w1, o.about P w1 a.eval = none)
    (h : ∀ (δ : BExt w) (K : Act → World → Prop), (∀ a w2, wpM B P ops Q is a w2 → K a w2) → midUpon B o a δ.wd K ((execOp a.eval o).run P δ.wd)) : wpM B P ops Q (i :: is) a w := by
  refine ⟨o, h0, hw, fun w1 x => ⟨hab w1, ?_⟩⟩
  have h1 := h ⟨w1, x.bel⟩ _ (fun _ _ h => h)
  generalize (execOp a.eval o).run P w1 = r at *
  cases r with
  | ok x w' => cases x <;> simp only [midUpon] at h1; exact ⟨_, _, rfl, h1.1, h1.2⟩
  | halt x w' => simp only [midUpon] at h1
end
attribute [go_sem] pureQ pureUpon midUpon
end Go.Proofs.YtkjgcmdabelohaaGreat
