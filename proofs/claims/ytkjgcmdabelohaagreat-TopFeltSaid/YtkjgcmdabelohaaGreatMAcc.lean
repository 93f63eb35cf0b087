/- A range over a function whose body appends one element a round to a slice that lies in a box. No condition. -/
/- A region that draws its order, walked in steps: an operation that only reads or calls quietly is taken where it is ready; any other where nothing else is. Condition: no defer statement in it. -/
/- A region that draws its order: operations that read and call, and new variables that are filled: whatever order is drawn, the variables hold what they are given. No condition but the closed checks. -/
/- Elements of a slice of the call's own are read and stored in place. No condition. -/
import Derived.Test.YtkjgcmdabelohaaGreatMBase
import Derived.RangeFuncNested
import Derived.RangeFuncBound
import Derived.RangeFuncCalls
import Derived.RangeFuncLeaves
import Derived.TacticsInMore
import Derived.LoopNIn
import Derived.LoopIn
import Derived.Still
namespace Go.Proofs.YtkjgcmdabelohaaGreat
open Go.RowKit

/-- All blocks but those of D lie as they lay. -/
structure But (D : List Nat) (w w' : World) : Prop where
  os : w'.os = w.os
  tape : w'.tape = w.tape
  output : w'.output = w.output
  size : w.heap.size ≤ w'.heap.size
  block : ∀ i, i < w.heap.size → i ∉ D → w'.heap[i]? = w.heap[i]?
theorem But.refl (D : List Nat) (w : World) : But D w w := ⟨rfl, rfl, rfl, Nat.le_refl _, fun _ _ _ => rfl⟩
theorem But.ext {D : List Nat} {w a b : World} (h : But D w a) (x : Ext a b) : But D w b :=
  ⟨x.bel.os.trans h.os, x.bel.tape.trans h.tape, x.bel.output.trans h.output, Nat.le_trans h.size x.bel.size, fun i hi hd => (x.bel.block i (Nat.lt_of_lt_of_le hi h.size)).trans (h.block i hi hd)⟩
theorem But.grown {D : List Nat} {w a b : World} {row : Option Nat} (h : But D w a) (g : a.grownBy b row) (hr : ∀ r, row = some r → r ∈ D ∨ w.heap.size ≤ r) : But D w b :=
  ⟨g.os.trans h.os, g.tape.trans h.tape, g.output.trans h.output, Nat.le_trans h.size g.size, fun i hi hd => (g.block i (Nat.lt_of_lt_of_le hi h.size) (fun e => by
    rcases hr i e.symm with hr | hr
    · exact hd hr
    · omega)).trans (h.block i hi hd)⟩
theorem But.cell {D : List Nat} {w a : World} (h : But D w a) {b o : Nat} {v : Value} (hc : w.cell? ⟨b, o, none⟩ = some v) (hd : b ∉ D) : a.cell? ⟨b, o, none⟩ = some v := by
  rw [← hc]
  have := h.block b (cell_lt hc) hd
  simp [World.cell?, this]
theorem But.setCell {D : List Nat} {w a : World} (h : But D w a) {p : Addr} (hp : p.block ∈ D) (u : Value) : But D w (a.setCell p u) :=
  ⟨h.os, h.tape, h.output, by simpa using h.size, fun i hi hd => (heap_setCell_other a p i u (fun e => hd (by rw [e]; exact hp))).trans (h.block i hi hd)⟩
/-- What lay below all of D lies on. -/
theorem But.below {D : List Nat} {w0 w a : World} (h : But D w a) (x : Ext w0 w) (hD : ∀ d ∈ D, w0.heap.size ≤ d) : Ext w0 a := by
  have hb := x.bel
  exact .of ⟨h.os.trans hb.os, h.tape.trans hb.tape, h.output.trans hb.output, Nat.le_trans hb.size h.size, fun i hi => (h.block i (Nat.lt_of_lt_of_le hi hb.size) (fun hd => by have := hD i hd; omega)).trans (hb.block i hi)⟩

/-- The cells below B0 but the one at (Bx, off) hold what they held. -/
def KpX (Bx off B0 : Nat) (W W' : World) : Prop := ∀ b o v, b < B0 → (b ≠ Bx ∨ o ≠ off) → W.cell? ⟨b, o, none⟩ = some v → W'.cell? ⟨b, o, none⟩ = some v
theorem KpX.trans {Bx off B0 : Nat} {A B C : World} (h : KpX Bx off B0 A B) (k : KpX Bx off B0 B C) : KpX Bx off B0 A C := fun b o v hb hn hc => k b o v hb hn (h b o v hb hn hc)
theorem KpX.put {Bx off B0 : Nat} {W : World} {l : Nat} {o o' : Obj} (hl : W.heap[l]? = some o) (ho : o.isCells = false) : KpX Bx off B0 W (W.putObj l o') := fun b x v _ _ h =>
  cell_kept h (grownBy_putObj' W l o') (fun r e => by cases e; exact ⟨o, hl, ho⟩)
theorem KpX.ext {Bx off B0 : Nat} {W W' : World} (x : Ext W W') : KpX Bx off B0 W W' := fun _ _ _ _ _ h => x.cell_some h

theorem cell_set_other {W : World} {b o Bx off : Nat} {u : Value} (hne : b ≠ Bx ∨ o ≠ off) : (W.setCell ⟨Bx, off, none⟩ u).cell? ⟨b, o, none⟩ = W.cell? ⟨b, o, none⟩ := by
  refine World.cell?_setCell_other _ _ _ _ ?_
  intro h
  simp only [Addr.mk.injEq] at h
  rcases hne with h' | h'
  · exact h' h.1.symm
  · exact h' h.2.1.symm

theorem cell_set_same {W : World} {b o : Nat} {x u : Value} (h : W.cell? ⟨b, o, none⟩ = some x) : (W.setCell ⟨b, o, none⟩ u).cell? ⟨b, o, none⟩ = some u := World.cell?_setCell_same _ _ _ h
/-- A struct of two cells, of four, is stored. -/
theorem set2 {W : World} {b : Nat} {x0 x1 : Value} (h0 : W.cell? ⟨b, 0, none⟩ = some x0) (h1 : W.cell? ⟨b, 1, none⟩ = some x1) (u0 u1 : Value) :
    ((W.setCell ⟨b, 0, none⟩ u0).setCell ⟨b, 1, none⟩ u1).cell? ⟨b, 0, none⟩ = some u0 ∧ ((W.setCell ⟨b, 0, none⟩ u0).setCell ⟨b, 1, none⟩ u1).cell? ⟨b, 1, none⟩ = some u1 :=
  ⟨(cell_set_other (.inr (by decide))).trans (cell_set_same h0), cell_set_same ((cell_set_other (.inr (by decide))).trans h1)⟩
theorem set4 {W : World} {b : Nat} {x0 x1 x2 x3 : Value} (h0 : W.cell? ⟨b, 0, none⟩ = some x0) (h1 : W.cell? ⟨b, 1, none⟩ = some x1) (h2 : W.cell? ⟨b, 2, none⟩ = some x2) (h3 : W.cell? ⟨b, 3, none⟩ = some x3) (u0 u1 u2 u3 : Value) :
    ((((W.setCell ⟨b, 0, none⟩ u0).setCell ⟨b, 1, none⟩ u1).setCell ⟨b, 2, none⟩ u2).setCell ⟨b, 3, none⟩ u3).cell? ⟨b, 0, none⟩ = some u0 ∧ ((((W.setCell ⟨b, 0, none⟩ u0).setCell ⟨b, 1, none⟩ u1).setCell ⟨b, 2, none⟩ u2).setCell ⟨b, 3, none⟩ u3).cell? ⟨b, 1, none⟩ = some u1 ∧
    ((((W.setCell ⟨b, 0, none⟩ u0).setCell ⟨b, 1, none⟩ u1).setCell ⟨b, 2, none⟩ u2).setCell ⟨b, 3, none⟩ u3).cell? ⟨b, 2, none⟩ = some u2 ∧ ((((W.setCell ⟨b, 0, none⟩ u0).setCell ⟨b, 1, none⟩ u1).setCell ⟨b, 2, none⟩ u2).setCell ⟨b, 3, none⟩ u3).cell? ⟨b, 3, none⟩ = some u3 := by
  have ne : ∀ {i j : Nat}, i ≠ j → (b ≠ b ∨ i ≠ j) := fun h => .inr h
  refine ⟨?_, ?_, ?_, ?_⟩
  · rw [cell_set_other (ne (by decide)), cell_set_other (ne (by decide)), cell_set_other (ne (by decide)), cell_set_same h0]
  · rw [cell_set_other (ne (by decide)), cell_set_other (ne (by decide)), cell_set_same (x := x1) (by rw [cell_set_other (ne (by decide))]; exact h1)]
  · rw [cell_set_other (ne (by decide)), cell_set_same (x := x2) (by rw [cell_set_other (ne (by decide)), cell_set_other (ne (by decide))]; exact h2)]
  · exact cell_set_same (x := x3) (by rw [cell_set_other (ne (by decide)), cell_set_other (ne (by decide)), cell_set_other (ne (by decide))]; exact h3)

section
variable {α : Type} {K : EK α}

/-- In the box at (Bx, off) lies a slice of the loop's own that reads as ans; all else is as it was. -/
structure Acc (K : EK α) (W0 : World) (Bx off : Nat) (ans : List α) (W : World) : Prop where
  but : But [Bx] W0 W
  row : ∃ sv, W.cell? ⟨Bx, off, none⟩ = some sv ∧ K.Own W0.heap.size W sv ans
  fr : W.frozen? ⟨Bx, off, none⟩ = false
  oth : ∀ o v, o ≠ off → W0.cell? ⟨Bx, o, none⟩ = some v → W.cell? ⟨Bx, o, none⟩ = some v
  lt : Bx < W0.heap.size

theorem Acc.start {W0 : World} {Bx off : Nat} (hc : W0.cell? ⟨Bx, off, none⟩ = some (.slice none 0 0)) (hf : W0.frozen? ⟨Bx, off, none⟩ = false) : Acc K W0 Bx off [] W0 :=
  ⟨But.refl _ _, ⟨_, hc, EK.Own.nil _ _⟩, hf, fun _ _ _ h => h, cell_lt hc⟩
theorem Acc.cell {W0 W : World} {Bx off : Nat} {ans : List α} (h : Acc K W0 Bx off ans W) {b o : Nat} {v : Value} (hc : W0.cell? ⟨b, o, none⟩ = some v) (hne : b ≠ Bx ∨ o ≠ off) : W.cell? ⟨b, o, none⟩ = some v := by
  by_cases hb : b = Bx
  · subst hb
    exact h.oth o v (by simpa using hne) hc
  · exact h.but.cell hc (by simpa using hb)
theorem Acc.is {W0 W : World} {Bx off : Nat} {ans : List α} (h : Acc K W0 Bx off ans W) {β : Type} {K' : EK β} {v : Value} {xs : List β} (hv : K'.Is W0 v xs) (hb : ∀ a, v.ownBlock = some a → a ≠ Bx) : K'.Is W v xs := by
  obtain ⟨A, c, rfl, h0, hc, hr⟩ := hv
  refine ⟨A, c, rfl, h0, hc, fun j hj => ?_⟩
  obtain ⟨b, o, rfl, hlt, hcell⟩ := hr j hj
  exact ⟨b, o, rfl, Nat.lt_of_lt_of_le hlt h.but.size, fun i u hu => h.cell (hcell i u hu) (.inl (hb b rfl))⟩
theorem Acc.kept {W0 A B : World} {Bx off : Nat} {ans : List α} {row : Option Nat} (h : Acc K W0 Bx off ans A) (hg : A.grownBy B row) (hr : ∀ r, row = some r → W0.heap.size ≤ r ∧ ∃ o : Obj, A.heap[r]? = some o ∧ o.isCells = false) : Acc K W0 Bx off ans B := by
  obtain ⟨sv, h1, h2⟩ := h.row
  refine ⟨h.but.grown hg (fun r e => .inr (hr r e).1), ⟨sv, cell_kept h1 hg (fun r e => (hr r e).2), h2.kept hg ?_⟩, (frozen_kept h1 hg (fun r e => (hr r e).2)).trans h.fr, fun o v ho hc => cell_kept (h.oth o v ho hc) hg (fun r e => (hr r e).2), h.lt⟩
  rcases h2.2 with ⟨rfl, _⟩ | ⟨g, cap, cur, rfl, _, hh, _⟩
  · exact .inl rfl
  · refine .inr fun e => ?_
    obtain ⟨_, _, ho, hc⟩ := hr g e.symm
    rw [hh] at ho
    cases ho
    cases hc

/-- What a round leaves. -/
def AccStep (K : EK α) (W0 : World) (Bx off : Nat) (W : World) (sv : Value) (ans : List α) (W' : World) : Prop :=
  ∃ W1 W2 W3 v', Ext W W1 ∧ W1.grownBy W2 sv.ownBlock ∧ K.Own W0.heap.size W2 v' ans ∧ Ext W2 W3 ∧ Ext (W3.setCell ⟨Bx, off, none⟩ v') W'
def AccPost (K : EK α) (W0 : World) (Bx off : Nat) (W : World) (sv : Value) (ans : List α) : Exit → Act → World → Prop
  | .normal, _, W' => AccStep K W0 Bx off W sv ans W'
  | _, _, _ => False

theorem KeepsOthers.of_ext {W W' : World} (x : Ext W W') : KeepsOthers W W' :=
  ⟨x.bel.size, fun k _ hk _ => (x.bel.block k (Array.getElem?_eq_some_iff.1 hk).1).trans hk⟩

theorem AccStep.done {W0 W W' : World} {Bx off : Nat} {sv : Value} {ans ans' : List α} (h : Acc K W0 Bx off ans W) (hc : W.cell? ⟨Bx, off, none⟩ = some sv) (ho : K.Own W0.heap.size W sv ans) (s : AccStep K W0 Bx off W sv ans' W') :
    KeepsOthers W W' ∧ KpX Bx off W0.heap.size W W' ∧ Acc K W0 Bx off ans' W' := by
  obtain ⟨W1, W2, W3, v', x1, g, o2, x2, x3⟩ := s
  have hlt : ∀ r, sv.ownBlock = some r → W0.heap.size ≤ r := fun r e => (ho.lt r e).1
  have hBx := h.lt
  have ho1 := ho.ext x1
  have k1 : KeepsOthers W W1 := KeepsOthers.of_ext x1
  have k2 : KeepsOthers W1 W2 := KeepsOthers.of_grownBy g fun j _ e hj => by
    rcases ho1.2 with ⟨rfl, _⟩ | ⟨g, cap, cur, rfl, _, hh, _⟩
    · cases e
    · simp only [Value.ownBlock, Option.some.injEq] at e
      subst e
      rw [hh] at hj
      cases hj
      rfl
  have k3 : KeepsOthers W2 W3 := KeepsOthers.of_ext x2
  have k4 : KeepsOthers W3 (W3.setCell ⟨Bx, off, none⟩ v') := KeepsOthers.setCell _ _ _
  have k5 := KeepsOthers.of_ext x3
  have p1 : ∀ b o v, b < W0.heap.size → W.cell? ⟨b, o, none⟩ = some v → W3.cell? ⟨b, o, none⟩ = some v := fun b o v hb hc =>
    x2.cell_some (g.cell (x1.cell_some hc) (fun e => by have := hlt b e.symm; omega))
  have p2 : KpX Bx off W0.heap.size W W' := fun b o v hb hne hc => x3.cell_some ((cell_set_other hne).trans (p1 b o v hb hc))
  have e3 : W3.cell? ⟨Bx, off, none⟩ = some sv := p1 _ _ _ hBx hc
  have f3 : W3.frozen? ⟨Bx, off, none⟩ = false := by
    have f1 := x1.frozen hc h.fr
    have f2 : W2.frozen? ⟨Bx, off, none⟩ = false := by
      have := g.block Bx (cell_lt (x1.cell_some hc)) (fun e => by have := hlt Bx e.symm; omega)
      rw [← f1]
      simp [World.frozen?, this]
    exact x2.frozen (g.cell (x1.cell_some hc) (fun e => by have := hlt Bx e.symm; omega)) f2
  have e4 : (W3.setCell ⟨Bx, off, none⟩ v').cell? ⟨Bx, off, none⟩ = some v' := World.cell?_setCell_same _ _ _ e3
  refine ⟨(((k1.trans k2).trans k3).trans k4).trans k5, p2, ⟨((((h.but.ext x1).grown g (fun r e => .inr (hlt r e))).ext x2).setCell (by simp) v').ext x3, ⟨v', x3.cell_some e4, ?_⟩, x3.frozen e4 (by rw [World.frozen?_setCell]; exact f3), fun o v hne hc => p2 Bx o v hBx (.inr hne) (h.oth o v hne hc), hBx⟩⟩
  refine ((o2.ext x2).kept (grownBy_setCell3 W3 Bx off v') ?_).ext x3
  rcases h' : v'.ownBlock with _ | g'
  · exact .inl rfl
  · refine .inr fun e => ?_
    have := (o2.lt g' h').1
    simp only [Option.some.injEq] at e
    omega
where grownBy_setCell3 (W : World) (b o : Nat) (v : Value) : W.grownBy (W.setCell ⟨b, o, none⟩ v) (some b) :=
  ⟨rfl, rfl, rfl, by simp, fun i _ hi => heap_setCell_other W ⟨b, o, none⟩ i _ (fun e => hi (by simp [e]))⟩

theorem wpIn_rangeFunc_acc {F : Fence} {nn : Nat} {g : Operand} {ps : Array Tmp} {assign body : Code} {Q : Exit → Act → World → Prop} {a : Act} {W0 : World} {Bx off N : Nat} (f : Nat → α)
    (hro : F.round = none) (h1 : 1 ≤ nn) {gf : Nat} {lb : Array Value} (hg : a.eval g = .func (.func gf) #[] lb) (hFg : F.fn gf) (eg : ∀ args w, (callFunc gf args).run Tryz.prog w = .ok (.enter gf args) w)
    {encs : Fin N → Array Value} (hseq : SeqStopsK F (nn - 1) Tryz.prog gf lb encs (KpX Bx off W0.heap.size) (fun ys => ys.map Fin.val = List.range N) (fun _ => True) N W0) (hps : ∀ x, (encs x).size = ps.size)
    (hc : W0.cell? ⟨Bx, off, none⟩ = some (.slice none 0 0)) (hf : W0.frozen? ⟨Bx, off, none⟩ = false) (a₁ : Fin N → Act)
    (hassign : ∀ (l : Nat) (x : Fin N) (W : World) (K : Act → World → Prop), K (a₁ x) W →
      assign.wpIn (F.inRound l) (nn - 1 - 1) Tryz.prog (Exit.then K (fun _ _ _ => False)) { tmps := (ps.zip (encs x)).foldl (fun t (p, v) => t.setIfInBounds p v) a.tmps, defers := [] } W)
    (hbody : ∀ (l : Nat) (ans : List α) (x : Fin N) (W : World) (sv : Value), ans.length < N → Acc K W0 Bx off ans W → W.cell? ⟨Bx, off, none⟩ = some sv → K.Own W0.heap.size W sv ans →
      body.wpIn (F.inRound l) (nn - 1 - 1) Tryz.prog (AccPost K W0 Bx off W sv (ans ++ [f x])) (a₁ x) W)
    (hdone : ∀ (D : Nat) (W : World) (sv : Value), W0.heap.size ≤ D → Acc K W0 Bx off ((List.range N).map f) W → W.cell? ⟨Bx, off, none⟩ = some sv → K.Own W0.heap.size W sv ((List.range N).map f) → W.heap[D]? = some (.deferred (some [])) →
      Q .normal { a with defers := { target := .collected D, args := #[] } :: a.defers } W) :
    (Code.rangeFunc g ps assign body).wpIn F nn Tryz.prog Q a W0 := by
  refine wpIn_rangeFunc_ownG hro h1 hg hFg eg hseq KpX.trans (fun _ _ _ _ _ h1 h2 _ => KpX.put h1 h2) (Below.refl _ _) hps
    (fun pre W => Acc K W0 Bx off (pre.map fun x : Fin N => f x.val) W) (fun _ _ _ => False) (fun s A B row hs hg hr => hs.kept hg hr) (fun _ _ _ _ _ hs _ _ => hs) (Acc.start hc hf) a₁ hassign ?_ ?_ ?_
  · intro l pre x W hA hlen
    obtain ⟨sv, h2, h3⟩ := hA.row
    refine wpIn_mono (hbody l _ x W sv (by simpa using hlen) hA h2 h3) ?_
    intro e a' W' hp
    cases e with
    | normal =>
      obtain ⟨q1, q2, q3⟩ := AccStep.done hA h2 h3 hp
      exact ⟨q1.from _, q2, by simpa using q3⟩
    | ret => exact hp.elim
    | exit id => exact hp.elim
    | goto t => exact hp.elim
    | panic ch => exact hp.elim
    | outgrown => exact hp.elim
  · intro D xs W hD hS hA hK
    have he : (xs.map fun x => f x.val) = (List.range N).map f := by
      rw [← hS, List.map_map]; rfl
    rw [he] at hA
    obtain ⟨sv, h2, h3⟩ := hA.row
    exact hdone D W sv hD hA h2 h3 hK
  · intro D c pre W _ _ h
    exact h.elim
end

/-- A function that held ranges over functions leaves: its marks are shut. -/
def marksOf (Ds : List Nat) : List Deferred := Ds.map fun D => { target := .collected D, args := #[] }
structure PutAt (Ds : List Nat) (W W' : World) : Prop where
  os : W'.os = W.os
  tape : W'.tape = W.tape
  output : W'.output = W.output
  size : W'.heap.size = W.heap.size
  block : ∀ i, i ∉ Ds → W'.heap[i]? = W.heap[i]?

theorem leaves_marks {F : Fence} {n : Nat} {P : Program} {fn : Func} {tmps : Array Value} {R : Ending → World → Prop} : ∀ (Ds : List Nat) (W : World), Ds.Nodup → (∀ D ∈ Ds, W.heap[D]? = some (.deferred (some []))) →
    (∀ W', PutAt Ds W W' → LeavesIn F n P fn tmps R [] .returning W') → LeavesInM F n P fn tmps R (marksOf Ds) .returning W
  | [], W, _, _, h => h W ⟨rfl, rfl, rfl, rfl, fun _ _ => rfl⟩
  | D :: Ds, W, hd, hD, h => by
    refine ⟨by simp, .inl ⟨D, _, rfl, run_takeDeferred (hD D (by simp)), ?_⟩⟩
    have hn := List.nodup_cons.1 hd
    refine leaves_marks Ds _ hn.2 (fun E hE => ?_) (fun W' hW => h W' ⟨hW.os, hW.tape, hW.output, hW.size.trans (by simp), fun i hi => ?_⟩)
    · rw [World.putObj_heap_other (fun e => hn.1 (by rw [← e]; exact hE))]
      exact hD E (by simp [hE])
    · simp only [List.mem_cons, not_or] at hi
      rw [hW.block i hi.2, World.putObj_heap_other hi.1]

theorem lay_in {F : Fence} {n : Nat} {P : Program} {c : Code} {Q : Exit → Act → World → Prop} {a : Act} {X : World} (G : World → Prop) (hG : G X) (h : ∀ W, G W → Code.wpIn F n P c Q a W) : Code.wpIn F n P c Q a X := h X hG
theorem PutAt.ext {w W W' : World} {Ds : List Nat} (h : PutAt Ds W W') (x : Ext w W) (hD : ∀ d ∈ Ds, w.heap.size ≤ d) : Ext w W' := by
  have hb := x.bel
  exact .of ⟨h.os.trans hb.os, h.tape.trans hb.tape, h.output.trans hb.output, by rw [h.size]; exact hb.size, fun i hi => (h.block i fun hg => by have := hD i hg; omega).trans (hb.block i hi)⟩
theorem EK.Own.put {α : Type} {K : EK α} {B : Nat} {W W' : World} {v : Value} {xs : List α} {Ds : List Nat} (h : K.Own B W v xs) (hW : PutAt Ds W W') (hD : ∀ D ∈ Ds, W.heap[D]? = some (.deferred (some []))) : K.Own B W' v xs := by
  refine ⟨h.1, ?_⟩
  rcases h.2 with hn | ⟨g, cap, cur, hv, hb, hh, rest⟩
  · exact .inl hn
  · refine .inr ⟨g, cap, cur, hv, hb, (hW.block g fun hg => ?_).trans hh, rest⟩
    rw [hD g hg] at hh
    cases hh
/-- Cells that lay, lie: those of the blocks of S. -/
def Cells (S : Nat → Prop) (W W' : World) : Prop := W.heap.size ≤ W'.heap.size ∧ ∀ b o v, S b → W.cell? ⟨b, o, none⟩ = some v → W'.cell? ⟨b, o, none⟩ = some v
theorem EK.Is.cells {α : Type} {K : EK α} {S : Nat → Prop} {W W' : World} {v : Value} {xs : List α} (h : K.Is W v xs) (c : Cells S W W') (hS : ∀ b, b < W.heap.size → S b) : K.Is W' v xs := by
  obtain ⟨A, cp, rfl, h0, hc, hr⟩ := h
  refine ⟨A, cp, rfl, h0, hc, fun j hj => ?_⟩
  obtain ⟨b, o, hA, hb, hcell⟩ := hr j hj
  exact ⟨b, o, hA, Nat.lt_of_lt_of_le hb c.1, fun i u hu => c.2 b _ _ (hS b hb) (hcell i u hu)⟩
theorem EK.Is.blk {α : Type} {K : EK α} {w : World} {v : Value} {xs : List α} (h : K.Is w v xs) (hn : 1 ≤ xs.length) : ∀ a, v.ownBlock = some a → a < w.heap.size := fun a ha => by
  obtain ⟨A, cp, rfl, h0, hc, hr⟩ := h
  obtain ⟨b, o, rfl, hb, _⟩ := hr 0 hn
  simp only [Value.ownBlock, Option.some.injEq] at ha
  omega
theorem PutAt.cell {W W' : World} {Ds : List Nat} (hW : PutAt Ds W W') (hD : ∀ D ∈ Ds, W.heap[D]? = some (.deferred (some []))) {b o : Nat} {v : Value} (hc : W.cell? ⟨b, o, none⟩ = some v) : W'.cell? ⟨b, o, none⟩ = some v := by
  rw [← hc]
  have := hW.block b fun hg => by
    have h1 := hD b hg
    simp [World.cell?, h1] at hc
  simp [World.cell?, this]
theorem PutAt.cells {W W' : World} {Ds : List Nat} (hW : PutAt Ds W W') (hD : ∀ D ∈ Ds, W.heap[D]? = some (.deferred (some []))) : Cells (fun _ => True) W W' :=
  ⟨by rw [hW.size]; exact Nat.le_refl _, fun _ _ _ _ h => hW.cell hD h⟩
theorem mark_one {W : World} {D : Nat} (h : W.heap[D]? = some (.deferred (some []))) : ∀ D' ∈ [D], W.heap[D']? = some (.deferred (some [])) := fun D' h' => by rw [List.mem_singleton.1 h']; exact h
end Go.Proofs.YtkjgcmdabelohaaGreat

namespace Go.Proofs.YtkjgcmdabelohaaGreat
section
/- QD: A region that draws its order: operations that only read or call quietly come first, in the order of the text; those of a second list follow, one after the other, and may write the blocks of D; what waits for all of them stands behind. Condition: no defer statement in it. -/
open Go.RowKit

theorem But.trans {D : List Nat} {a b c : World} (h : But D a b) (k : But D b c) : But D a c :=
  ⟨k.os.trans h.os, k.tape.trans h.tape, k.output.trans h.output, Nat.le_trans h.size k.size, fun i hi hd => (k.block i (Nat.lt_of_lt_of_le hi h.size) hd).trans (h.block i hi hd)⟩
theorem Ext.but {D : List Nat} {a b : World} (x : Ext a b) : But D a b := (But.refl D a).ext x
theorem But.frozen {D : List Nat} {w a : World} (h : But D w a) {b o : Nat} {v : Value} {c : Bool} (hc : w.cell? ⟨b, o, none⟩ = some v) (hf : w.frozen? ⟨b, o, none⟩ = c) (hd : b ∉ D) : a.frozen? ⟨b, o, none⟩ = c := by
  rw [← hf]
  have := h.block b (cell_lt hc) hd
  simp [World.frozen?, this]

/-- A world in which all blocks of w but those of D lie as they lay. -/
structure BBut (D : List Nat) (w : World) where
  wd : World
  but : But D w wd
instance BBut.some_ (D : List Nat) (w : World) : Nonempty (BBut D w) := ⟨⟨w, But.refl _ _⟩⟩

section
variable {F : Fence} {n : Nat} {P : Program} {ops : Array Oper} {md : Region.Mode} {D : List Nat}

/-- In every world that is w but for D, the operation leaves v, and a world that lies upon that one. -/
def YD (D : List Nat) (F : Fence) (n : Nat) (P : Program) (ops : Array Oper) (o : Oper) (v : Value) (a : Act) (w : World) : Prop :=
  (∀ w3, But D w w3 → ∀ f, o.about P w3 a.eval = some f → F.fn f) ∧
  ((Region.wanted o (yielded ops a.tmps) = true ∧ ∀ w3, But D w w3 → o.quietAtIn F n P a (Ext w3) w3 v) ∨ (Region.wanted o (yielded ops a.tmps) = false ∧ v = undef))
theorem YD.later {o : Oper} {v : Value} {a : Act} {w w2 : World} (h : YD D F n P ops o v a w) (x : But D w w2) : YD D F n P ops o v a w2 :=
  ⟨fun w3 h3 => h.1 w3 (x.trans h3), h.2.imp (fun h => ⟨h.1, fun w3 h3 => h.2 w3 (x.trans h3)⟩) id⟩
theorem YD.of_same {o : Oper} {v : Value} {a a' : Act} {w : World} (hy : YD D F n P ops o v a w) (he : execOp a'.eval o = execOp a.eval o)
    (hw : Region.wanted o (yielded ops a'.tmps) = Region.wanted o (yielded ops a.tmps)) (hb : ∀ w, o.about P w a'.eval = o.about P w a.eval) : YD D F n P ops o v a' w := by
  unfold YD Oper.quietAtIn at *
  rw [he, hw]
  exact ⟨fun w hc f hf => hy.1 w hc f (by rw [← hb w]; exact hf), hy.2⟩

/-- What the operation leaves: a value, or a call's; all but D lies. -/
def doneD (D : List Nat) (F : Fence) (n : Nat) (P : Program) (w1 : World) (K : Value → World → Prop) : Result Next → Prop
  | .ok (.value v) w2 => But D w1 w2 ∧ K v w2
  | .ok (.enter f args) w2 => w2 = w1 ∧ (F.depth.isSome = true → 1 ≤ n) ∧ CallsIn F (n - 1) P f args w1 (fun e w3 => ∃ v, e = .returned v ∧ But D w1 w3 ∧ K v w3)
  | _ => False
theorem doneD_mono {w1 : World} {K K' : Value → World → Prop} (h : ∀ v w, But D w1 w → K v w → K' v w) : ∀ {r : Result Next}, doneD D F n P w1 K r → doneD D F n P w1 K' r
  | .ok (.value _) _, h1 => ⟨h1.1, h _ _ h1.1 h1.2⟩
  | .ok (.enter _ _) _, h1 => ⟨h1.1, h1.2.1, h1.2.2.mono fun _ _ ⟨v, h2, h3, h4⟩ => ⟨v, h2, h3, h _ _ h3 h4⟩⟩
  | .ok .skip _, h1 => h1.elim
  | .halt _ _, h1 => h1.elim
def midD (D : List Nat) (F : Fence) (n : Nat) (P : Program) (ops : Array Oper) (o : Oper) (K : Act → World → Prop) (a : Act) (w : World) : Prop :=
  ∀ w1, Ext w w1 → (∀ f, o.about P w1 a.eval = some f → F.fn f) ∧
    ((Region.wanted o (yielded ops a.tmps) = true ∧ doneD D F n P w1 (fun v w2 => K (a.put o.dst v) w2) ((execOp a.eval o).run P w1)) ∨
     (Region.wanted o (yielded ops a.tmps) = false ∧ K (a.put o.dst undef) w1))
theorem midD_mono {o : Oper} {a : Act} {w : World} {K K' : Act → World → Prop} (h : ∀ a w2, But D w w2 → K a w2 → K' a w2) (hm : midD D F n P ops o K a w) : midD D F n P ops o K' a w :=
  fun w1 hx => ⟨(hm w1 hx).1, (hm w1 hx).2.imp (fun ⟨h1, h2⟩ => ⟨h1, doneD_mono (fun _ _ hb hK => h _ _ (hx.but.trans hb) hK) h2⟩) (fun ⟨h1, h2⟩ => ⟨h1, h _ _ hx.but h2⟩)⟩

def wpAnyD (D : List Nat) (F : Fence) (n : Nat) (P : Program) (md : Region.Mode) (ops : Array Oper) (isQ : Nat → Bool) (nn : Nat) (L : Array Bool → Act → World → Prop) : Nat → Array Bool → Act → World → Prop
  | 0, listed, a, w => L listed a w
  | f + 1, listed, a, w =>
    Region.ready md ops listed ≠ [] ∧ ∀ i ∈ Region.ready md ops listed, i < nn ∧ ∃ o, ops[i]? = some o ∧
      ((isQ i = true ∧ ∃ v, YD D F n P ops o v a w ∧ wpAnyD D F n P md ops isQ nn L f (listed.setIfInBounds i true) (a.put o.dst v) w) ∨
       (isQ i = false ∧ midD D F n P ops o (wpAnyD D F n P md ops isQ nn L f (listed.setIfInBounds i true)) a w))

theorem wpOpIn_of_YD {i : Nat} {o : Oper} {v : Value} {a : Act} {w w1 : World} {K' : Act → World → Prop} {Q' : Exit → Act → World → Prop} (hi : ops[i]? = some o) (hnd : noDefer o = true) (hx : But D w w1) (hy : YD D F n P ops o v a w)
    (h : ∀ w2, Ext w1 w2 → K' (a.put o.dst v) w2) : wpOpIn F n P ops Q' i K' a w1 := by
  unfold wpOpIn
  simp only [hi]
  rcases hy.2 with ⟨hw, hq⟩ | ⟨hw, rfl⟩
  · simp only [hw, if_true]
    have h3 := hq w1 hx
    unfold Oper.quietAtIn at h3
    unfold Oper.wpIn
    refine ⟨hy.1 w1 hx, ?_⟩
    rw [semAt_any hnd]
    generalize (execOp a.eval o).run P w1 = r at *
    cases r with
    | ok x w' =>
      cases x <;> simp only [Oper.quietUponIn] at h3 <;> simp only [Oper.uponIn]
      case value u =>
        obtain ⟨e1, e2⟩ := h3
        rw [e1, e2]
        exact h _ (Ext.refl _)
      case skip =>
        obtain ⟨e1, e2⟩ := h3
        rw [e1, ← e2]
        exact h _ (Ext.refl _)
      case enter f args =>
        obtain ⟨e1, hd, hc⟩ := h3
        rw [e1]
        exact ⟨hd, hc.mono fun e w'' ⟨he, hw''⟩ => by subst he; exact h _ hw''⟩
    | halt x w' => simp only [Oper.quietUponIn] at h3
  · simp only [hw, Bool.false_eq_true, if_false]
    exact ⟨hy.1 w1 hx, h _ (Ext.refl _)⟩
theorem wpOpIn_of_midD {i : Nat} {o : Oper} {a : Act} {w w1 : World} {K : Act → World → Prop} {Q' : Exit → Act → World → Prop} (hi : ops[i]? = some o) (hnd : noDefer o = true) (hx : Ext w w1) (hm : midD D F n P ops o K a w) :
    wpOpIn F n P ops Q' i (fun a2 w2 => But D w1 w2 ∧ K a2 w2) a w1 := by
  unfold wpOpIn
  simp only [hi]
  obtain ⟨hab, hr⟩ := hm w1 hx
  rcases hr with ⟨hw, hr⟩ | ⟨hw, hr⟩
  · simp only [hw, if_true]
    unfold Oper.wpIn
    refine ⟨hab, ?_⟩
    rw [semAt_any hnd]
    generalize (execOp a.eval o).run P w1 = r at *
    cases r with
    | ok x w' =>
      cases x <;> simp only [doneD] at hr <;> simp only [Oper.uponIn]
      case value v => exact hr
      case enter f args =>
        obtain ⟨e1, hd, hc⟩ := hr
        rw [e1]
        exact ⟨hd, hc.mono fun e w'' ⟨v, he, hb, hK⟩ => by subst he; exact ⟨hb, hK⟩⟩
    | halt x w' => simp only [doneD] at hr
  · simp only [hw, Bool.false_eq_true, if_false]
    exact ⟨hab, But.refl _ _, hr⟩

theorem wpAnyIn_of_D {isQ : Nat → Bool} {nn g : Nat} {L : Array Bool → Act → World → Prop} {Q' : Exit → Act → World → Prop} (hnd : ops.all noDefer = true) (hL : ∀ listed a w w1, L listed a w → Ext w w1 → wpAnyIn F n P md ops Q' g listed a w1) :
    ∀ (f : Nat) (listed : Array Bool) (a : Act) (w w1 : World), Ext w w1 → wpAnyD D F n P md ops isQ nn L f listed a w → wpAnyIn F n P md ops Q' (f + g) listed a w1
  | 0, listed, a, w, w1, hx, h => by rw [Nat.zero_add]; exact hL _ _ _ _ h hx
  | f + 1, listed, a, w, w1, hx, h => by
    rw [show f + 1 + g = (f + g) + 1 by omega]
    refine ⟨fun h0 => absurd h0 h.1, fun i hi => ?_⟩
    obtain ⟨_, o, ho, hc⟩ := h.2 i hi
    have hnd' : noDefer o = true := by
      obtain ⟨hi, rfl⟩ := Array.getElem?_eq_some_iff.1 ho
      exact Array.all_eq_true.1 hnd i hi
    rcases hc with ⟨_, v, hy, hK⟩ | ⟨_, hm⟩
    · exact wpOpIn_of_YD ho hnd' hx.but hy fun w2 h2 => wpAnyIn_of_D hnd hL f _ _ _ _ (hx.trans h2) hK
    · exact wpOpIn_mono (fun a' w' h' => wpAnyIn_of_D hnd hL f _ a' w' w' (Ext.refl _) h'.2) (wpOpIn_of_midD ho hnd' hx hm)

theorem wpAnyD_first {isQ : Nat → Bool} {nn i : Nat} {oi : Oper} {v : Value} {L : Array Bool → Act → World → Prop} (hi : ops[i]? = some oi) (hsel : ∀ (j : Nat) (o : Oper) cs b, ops[j]? = some o → o.op ≠ .select cs b)
    (hs : Region.sinkB md ops nn = true) (hc : Region.chainB md ops nn = true) (hn : nn < ops.size) (hin : i < nn) (hik : isQ i = true)
    (hdone : ∀ listed a w, L listed a w → ∀ j ∈ Region.ready md ops listed, nn ≤ j) :
    ∀ (f : Nat) (listed : Array Bool) (a : Act) (w : World), HeadInv md ops nn listed →
      (∀ j oj, ops[j]? = some oj → j ≠ i → listed.getD j true = false → (∀ e ∈ oj.after, Region.binds md e = true → e.on ≠ i) → oi.apart ops oj = true) →
      i ∈ Region.ready md ops listed → YD D F n P ops oi v a w →
      wpAnyD D F n P md ops isQ nn L f (listed.setIfInBounds i true) (a.put oi.dst v) w → wpAnyD D F n P md ops isQ nn L (f + 1) listed a w := by
  intro f
  induction f with
  | zero =>
    intro listed a w inv _ hr hy H
    have hun := (mem_ready.1 hr).1
    refine ⟨fun h => (by rw [h] at hr; cases hr), fun j hj => ?_⟩
    have hjn : j < nn := by
      rcases Nat.lt_or_ge j nn with h | h
      · exact h
      · exact absurd hj (tail_waits hs hc hn inv _ i rfl hin hun j h)
    refine ⟨hjn, ?_⟩
    by_cases hji : j = i
    · subst hji; exact ⟨oi, hi, .inl ⟨hik, v, hy, H⟩⟩
    · have := hdone _ _ _ H j (ready_mono hj hji)
      omega
  | succ f ih =>
    intro listed a w inv hfree hr hy H
    have hun := (mem_ready.1 hr).1
    refine ⟨fun h => (by rw [h] at hr; cases hr), fun j hj => ?_⟩
    have hjn : j < nn := by
      rcases Nat.lt_or_ge j nn with h | h
      · exact h
      · exact absurd hj (tail_waits hs hc hn inv _ i rfl hin hun j h)
    refine ⟨hjn, ?_⟩
    by_cases hji : j = i
    · subst hji; exact ⟨oi, hi, .inl ⟨hik, v, hy, H⟩⟩
    · obtain ⟨_, oj, hoj, hcase⟩ := H.2 j (ready_mono hj hji)
      obtain ⟨hjun, oj', hoj', hall⟩ := mem_ready.1 hj
      obtain rfl : oj = oj' := Option.some.inj (hoj.symm.trans hoj')
      have hnot : ∀ e ∈ oj.after, Region.binds md e = true → e.on ≠ i := fun e he hb heq => by
        have h1 := hall e he hb
        rw [heq, getD_both hun] at h1
        cases h1
      have hap := hfree j oj hoj hji hjun hnot
      obtain ⟨p1, p2, p3⟩ := Oper.apart_spec hap
      have hsi := fun cs b => hsel i oi cs b hi
      have hsj := fun cs b => hsel j oj cs b hoj
      have keep : ∀ u w2, But D w w2 → YD D F n P ops oi v (a.put oj.dst u) w2 := fun u w2 x =>
        (hy.later x).of_same (execOp_put oi hsi a oj.dst u p3) (wanted_put oi a oj.dst u p3) (fun w => about_put oi w a oj.dst u p3)
      have hfree' : ∀ k ok, ops[k]? = some ok → k ≠ i → (listed.setIfInBounds j true).getD k true = false →
          (∀ e ∈ ok.after, Region.binds md e = true → e.on ≠ i) → oi.apart ops ok = true := fun k ok hk hki hun hno => by
        refine hfree k ok hk hki ?_ hno
        by_cases hjk : j = k
        · subst hjk; exact hjun
        · rw [getD_set_ne true hjk] at hun; exact hun
      have hgo : ∀ u w2, But D w w2 → wpAnyD D F n P md ops isQ nn L f ((listed.setIfInBounds i true).setIfInBounds j true) ((a.put oi.dst v).put oj.dst u) w2 → wpAnyD D F n P md ops isQ nn L (f + 1) (listed.setIfInBounds j true) (a.put oj.dst u) w2 := fun u w2 hb hK => by
        refine ih (listed.setIfInBounds j true) _ w2 (inv.set hj hjn) hfree' (ready_mono hr (Ne.symm hji)) (keep u w2 hb) ?_
        rw [Array.setIfInBounds_comm _ _ hji, ← Act.put_comm a v u p2]
        exact hK
      refine ⟨oj, hoj, hcase.imp (fun ⟨hjk, u, hyj, hK⟩ => ⟨hjk, u, ?_, ?_⟩) (fun ⟨hjk, hm⟩ => ⟨hjk, fun w1 hx => ⟨?_, ?_⟩⟩)⟩
      · exact hyj.of_same (execOp_put oj hsj a oi.dst v p1).symm (wanted_put oj a oi.dst v p1).symm (fun w => (about_put oj w a oi.dst v p1).symm)
      · exact hgo u w (But.refl _ _) hK
      · rw [← about_put oj w1 a oi.dst v p1]; exact (hm w1 hx).1
      · have h2 := (hm w1 hx).2
        rw [execOp_put oj hsj a oi.dst v p1, wanted_put oj a oi.dst v p1] at h2
        exact h2.imp (fun ⟨h3, h4⟩ => ⟨h3, doneD_mono (fun u w2 h12 hK => hgo u w2 (hx.but.trans h12) hK) h4⟩) (fun ⟨h3, h4⟩ => ⟨h3, hgo undef w1 hx.but h4⟩)

/-- The walk of the quiet operations, and of the others, by their numbers. -/
def wpQD (D : List Nat) (F : Fence) (n : Nat) (P : Program) (ops : Array Oper) (w : World) (Q : Act → Prop) : List Nat → Act → Prop
  | [], a => Q a
  | i :: is, a => ∃ o, ops[i]? = some o ∧ ∃ v, YD D F n P ops o v a w ∧ wpQD D F n P ops w Q is (a.put o.dst v)
def wpMD (D : List Nat) (F : Fence) (n : Nat) (P : Program) (ops : Array Oper) (Q : Act → World → Prop) : List Nat → Act → World → Prop
  | [], a, w => Q a w
  | i :: is, a, w => ∃ o, ops[i]? = some o ∧ midD D F n P ops o (wpMD D F n P ops Q is) a w

theorem wpAnyD_mid {isQ : Nat → Bool} {nn : Nat} {T : Act → World → Prop} : ∀ (ms : List Nat) (listed : Array Bool) (a : Act) (w : World), (∀ i ∈ ms, isQ i = false ∧ i < nn) →
    seqM md ops nn ms listed = true → wpMD D F n P ops T ms a w →
    wpAnyD D F n P md ops isQ nn (fun listed' a' w' => Region.seqB md ops (ops.size - nn) nn listed' = true ∧ T a' w') ms.length listed a w
  | [], listed, a, w, _, hB, h => ⟨hB, h⟩
  | i :: is, listed, a, w, hm, hB, h => by
    simp only [seqM, Bool.and_eq_true, decide_eq_true_eq] at hB
    refine ⟨fun h1 => (by rw [hB.1] at h1; cases h1), fun j hj => ?_⟩
    rw [hB.1] at hj
    obtain rfl : j = i := by simpa using hj
    obtain ⟨o, h0, hmid⟩ := h
    obtain ⟨h1, h2⟩ := hm j (by simp)
    exact ⟨h2, o, h0, .inr ⟨h1, midD_mono (fun a2 w2 _ h2 => wpAnyD_mid is _ a2 w2 (fun k hk => hm k (by simp [hk])) hB.2 h2) hmid⟩⟩

theorem wpAnyD_lex {isQ : Nat → Bool} {nn : Nat} {T : Act → World → Prop} (ms : List Nat) (hms : ∀ i ∈ ms, isQ i = false ∧ i < nn) (hsel : Region.noSelect ops = true) (hs : Region.sinkB md ops nn = true) (hc : Region.chainB md ops nn = true) (hn : nn < ops.size) :
    ∀ (qs : List Nat) (listed : Array Bool) (a : Act) (w : World), (∀ i ∈ qs, isQ i = true ∧ i < nn) → HeadInv md ops nn listed →
    lexQ md ops nn ms qs listed = true → wpQD D F n P ops w (fun a' => wpMD D F n P ops T ms a' w) qs a →
    wpAnyD D F n P md ops isQ nn (fun listed' a' w' => Region.seqB md ops (ops.size - nn) nn listed' = true ∧ T a' w') (qs.length + ms.length) listed a w
  | [], listed, a, w, _, _, hB, h => by
    have := wpAnyD_mid (F := F) (n := n) (md := md) (isQ := isQ) (T := T) ms listed a w hms hB h
    simpa using this
  | i :: is, listed, a, w, hq, inv, hB, h => by
    simp only [lexQ, Bool.and_eq_true] at hB
    obtain ⟨⟨hr, hf⟩, hB'⟩ := hB
    obtain ⟨h1, h2⟩ := hq i (by simp)
    have hr' : i ∈ Region.ready md ops listed := by simpa using hr
    obtain ⟨o, h0, v, hy, hK⟩ := h
    have := wpAnyD_first (F := F) (n := n) (P := P) (isQ := isQ) (L := fun listed' a' w' => Region.seqB md ops (ops.size - nn) nn listed' = true ∧ T a' w') h0 (Region.noSelect_spec hsel) hs hc hn h2 h1 (fun listed' a' w' hL => seqB_ready hL.1) (is.length + ms.length) listed a w inv (Region.free_spec h0 hf) hr' hy
      (wpAnyD_lex ms hms hsel hs hc hn is _ _ w (fun k hk => hq k (by simp [hk])) (inv.set hr' h2) hB' hK)
    rw [List.length_cons, show is.length + 1 + ms.length = is.length + ms.length + 1 by omega]
    exact this

/-- The operations qs only read or call quietly; those of ms follow one after the other, and write no block of w but those of D; the others stand behind all of them, one after the other. -/
theorem wpIn_region_pull {id : Nat} {Q : Exit → Act → World → Prop} {a : Act} {w : World} {l : List Oper} (D : List Nat) (nn : Nat) (qs ms : List Nat) (hm : P.follows .mixedOrders = true) (hB : qmtB l.toArray nn qs ms = true)
    (h : wpQD D F n P l.toArray w (fun a' => wpMD D F n P l.toArray (fun a2 w2 => ∀ w3, Ext w2 w3 → wpListIn F n P l.toArray Q (l.drop nn) a2 w3) ms a' w) qs a) : (Code.region id l.toArray true).wpIn F n P Q a w := by
  simp only [qmtB, Bool.and_eq_true, decide_eq_true_eq] at hB
  obtain ⟨⟨⟨⟨⟨⟨⟨⟨hsel, hnd⟩, hn⟩, hs⟩, hc⟩, hlen⟩, hqs⟩, hms⟩, hlex⟩ := hB
  have hn' : nn < l.length := by simpa using hn
  have hdl : (l.drop nn).length = l.toArray.size - nn := by simp
  have inv0 : HeadInv .any l.toArray nn (Array.replicate l.toArray.size false) :=
    ⟨by simp, fun j oj _ hl => (by rw [getD_replicate_false] at hl; cases hl), fun t _ ht => getD_in (by simpa using ht) (getD_replicate_false _ _)⟩
  have H := wpAnyD_lex (F := F) (n := n) (P := P) (md := .any) (isQ := fun i => qs.contains i) (nn := nn) ms (fun i hi => by
    have := List.all_eq_true.1 hms i hi
    simp only [Bool.and_eq_true, decide_eq_true_eq, Bool.not_eq_true'] at this
    exact ⟨this.2, this.1⟩) hsel hs hc hn qs _ a w (fun i hi => ⟨by simpa using hi, by simpa using List.all_eq_true.1 hqs i hi⟩) inv0 hlex h
  refine wpIn_region_any hm ?_
  have := wpAnyIn_of_D (F := F) (n := n) (P := P) (Q' := Q) (g := l.toArray.size - nn) hnd (fun listed a' w' w1 hL hx => by
    have := wpAnyIn_of_seq (F := F) (n := n) (P := P) (md := .any) (Q' := Q) (l.drop nn) nn listed a' w1 (fun j => by simp [List.getElem?_drop]) (by rw [hdl]; exact hL.1) (hL.2 w1 hx)
    rwa [hdl] at this) _ _ _ _ { w with drawn := w.drawn + 1 } ((Ext.refl w).drew) H
  rw [hlen, show nn + (l.toArray.size - nn) = l.toArray.size by omega] at this
  exact this

/-- One quiet operation of the walk. -/
def pureUD (F : Fence) (n : Nat) (P : Program) (w : World) (v : Value) : Result Next → Prop
  | .ok (.value u) w' => w' = w ∧ u = v
  | .ok .skip w' => w' = w ∧ v = undef
  | .ok (.enter f args) w' => w' = w ∧ (F.depth.isSome = true → 1 ≤ n) ∧ CallsIn F (n - 1) P f args w (fun e w'' => e = .returned v ∧ Ext w w'')
  | _ => False
def pureD (D : List Nat) (F : Fence) (n : Nat) (P : Program) (o : Oper) (a : Act) (w : World) (K : Act → Prop) : Prop := ∃ v, (∀ δ : BBut D w, pureUD F n P δ.wd v ((execOp a.eval o).run P δ.wd)) ∧ K (a.put o.dst v)
theorem wpQD_step {w : World} {Q : Act → Prop} {i : Nat} {is : List Nat} {o : Oper} {a : Act} (h0 : ops[i]? = some o) (hab : ∀ w3 f, o.about P w3 a.eval = some f → F.fn f)
    (h : ∀ K : Act → Prop, (∀ a, wpQD D F n P ops w Q is a → K a) → if Region.wanted o (yielded ops a.tmps) then pureD D F n P o a w K else K (a.put o.dst undef)) : wpQD D F n P ops w Q (i :: is) a := by
  have h1 := h _ (fun _ h => h)
  by_cases hw : Region.wanted o (yielded ops a.tmps) = true
  · rw [if_pos hw] at h1
    obtain ⟨v, h2, h3⟩ := h1
    refine ⟨o, h0, v, ⟨fun w3 _ => hab w3, .inl ⟨hw, fun w3 x => ?_⟩⟩, h3⟩
    have h4 := h2 ⟨w3, x⟩
    unfold Oper.quietAtIn
    generalize (execOp a.eval o).run P w3 = r at *
    cases r with
    | ok x w' => cases x <;> simp only [pureUD] at h4 <;> simp only [Oper.quietUponIn] <;> first | exact h4 | exact h4.elim
    | halt x w' => simp only [pureUD] at h4
  · rw [if_neg hw] at h1
    exact ⟨o, h0, undef, ⟨fun w3 _ => hab w3, .inr ⟨by simpa using hw, rfl⟩⟩, h1⟩
theorem wpQD_nil {w : World} {Q : Act → Prop} {a : Act} (h : Q a) : wpQD D F n P ops w Q [] a := h
theorem wpMD_nil {w : World} {Q : Act → World → Prop} {a : Act} (h : Q a w) : wpMD D F n P ops Q [] a w := h

/-- One of the others. -/
def nextD (D : List Nat) (F : Fence) (n : Nat) (P : Program) (o : Oper) (a : Act) (w : World) (K : Act → World → Prop) : Prop := doneD D F n P w (fun v w2 => K (a.put o.dst v) w2) ((execOp a.eval o).run P w)
theorem wpMD_step {w : World} {Q : Act → World → Prop} {i : Nat} {is : List Nat} {o : Oper} {a : Act} (h0 : ops[i]? = some o) (hab : ∀ w1 f, o.about P w1 a.eval = some f → F.fn f)
    (h : ∀ (δ : BExt w) (K : Act → World → Prop), (∀ a w2, wpMD D F n P ops Q is a w2 → K a w2) → if Region.wanted o (yielded ops a.tmps) then nextD D F n P o a δ.wd K else K (a.put o.dst undef) δ.wd) : wpMD D F n P ops Q (i :: is) a w := by
  refine ⟨o, h0, fun w1 x => ⟨hab w1, ?_⟩⟩
  have h1 := h ⟨w1, x.bel⟩ _ (fun _ _ h => h)
  by_cases hw : Region.wanted o (yielded ops a.tmps) = true
  · rw [if_pos hw] at h1
    exact .inl ⟨hw, h1⟩
  · rw [if_neg hw] at h1
    exact .inr ⟨by simpa using hw, h1⟩
/-- One that is taken, by what its run leaves. -/
theorem wpMD_run {w : World} {Q : Act → World → Prop} {i : Nat} {is : List Nat} {o : Oper} {a : Act} (h0 : ops[i]? = some o) (hg : o.guard = none) (hab : ∀ w1, o.about P w1 a.eval = none)
    (h : ∀ w1, Ext w w1 → ∃ v w2, (execOp a.eval o).run P w1 = .ok (.value v) w2 ∧ But D w1 w2 ∧ wpMD D F n P ops Q is (a.put o.dst v) w2) : wpMD D F n P ops Q (i :: is) a w := by
  refine ⟨o, h0, fun w1 x => ⟨(fun f hf => by rw [hab w1] at hf; cases hf), .inl ⟨by simp [Region.wanted, hg], ?_⟩⟩⟩
  obtain ⟨v, w2, hr, hb, hK⟩ := h w1 x
  rw [hr]
  exact ⟨hb, hK⟩
end
attribute [go_sem] pureD pureUD nextD doneD

theorem But.cells {D : List Nat} {w : World} {b o : Nat} {v : Value} (hc : w.cell? ⟨b, o, none⟩ = some v) (hd : b ∉ D) (δ : BBut D w) : δ.wd.cell? ⟨b, o, none⟩ = some v := δ.but.cell hc hd
theorem notin_none {b : Nat} : b ∉ (none : Option Nat).toList := by simp
theorem notin_own {b : Nat} {r : Option Nat} (h : ∀ g, r = some g → b ≠ g) : b ∉ r.toList := by
  cases r with
  | none => simp
  | some g => simpa using h g rfl

section
variable {α : Type} {K : EK α} {F : Fence} {n : Nat}
/-- An append of one element among them. -/
theorem EK.app_mid {w : World} {ops : Array Oper} {Q : Act → World → Prop} {i : Nat} {is : List Nat} {o : Oper} {a : Act} (h0 : ops[i]? = some o) (hgd : o.guard = none) (s x : Operand)
    (ho : o.op = .call { callee := .builtin .append, args := #[s, x], argTypes := #[K.st, K.st] })
    {B : Nat} {v : Value} {xs : List α} (b c : Nat) (y : α) (hs : a.eval s = v) (hx : a.eval x = .slice (some ⟨b, 0, none⟩) 1 c)
    (hcell : ∀ i u, (K.enc y)[i]? = some u → w.cell? ⟨b, i, none⟩ = some u) (hown : K.Own B w v xs) (hB : B ≤ w.heap.size) (hlen : xs.length ≤ 1000000000)
    (h : ∀ v' w1 w2, K.Own B w2 v' (xs ++ [y]) → Ext w w1 → w1.grownBy w2 v.ownBlock → wpMD v.ownBlock.toList F n Tryz.prog ops Q is (a.put o.dst v') w2) : wpMD v.ownBlock.toList F n Tryz.prog ops Q (i :: is) a w := by
  refine wpMD_run h0 hgd (fun _ => by simp [Oper.about, ho, resolve, Target.leads, Sem.run_pure]) fun w1 X => ?_
  obtain ⟨i0, hi, hz0, hz1, hz2⟩ := info_parts K.info
  have hsm := K.small
  obtain ⟨v', w2, hrun, r1, r2, _⟩ := run_append_own (P := Tryz.prog) w1 B K.st o.type K.ty i0 K.z K.k K.bytes K.und hi hz0 hz1 hz2 K.hzs K.pos v _ _ (hown.ext X) ⟨b, 0, none⟩ 1 c (K.enc y) (by rw [K.len, Nat.one_mul]) (fun j u hj => by
    have := X.cell_some (hcell j u hj)
    simp only [Addr.add]
    split
    · rename_i h0; subst h0; exact this
    · simpa using this) (K.one y) (by simp only [maxLen]; omega) (Nat.le_trans (Nat.mul_le_mul (show xs.length + 1 ≤ 1000000001 by omega) hsm) (by decide)) (Nat.le_trans hB X.bel.size)
  refine ⟨v', w2, ?_, (But.refl _ w1).grown r2 (fun r e => .inl (by rw [e]; simp)), h v' w1 w2 (by simpa [EK.Own] using r1) X r2⟩
  simp [execOp, ho, resolve, invoke, builtin, hs, hx, hrun, Result.andThen]
end
end
open Go.RowKit

section
variable {F : Fence} {n : Nat} {P : Program} {ops : Array Oper} {md : Region.Mode} {D : List Nat}

/-- The walk in steps: true: quiet. -/
def wpSD (D : List Nat) (F : Fence) (n : Nat) (P : Program) (ops : Array Oper) (T : Act → World → Prop) : List (Nat × Bool) → Act → World → Prop
  | [], a, w => T a w
  | (i, true) :: is, a, w => ∃ o, ops[i]? = some o ∧ ∃ v, YD D F n P ops o v a w ∧ wpSD D F n P ops T is (a.put o.dst v) w
  | (i, false) :: is, a, w => ∃ o, ops[i]? = some o ∧ midD D F n P ops o (wpSD D F n P ops T is) a w
def lexS (md : Region.Mode) (ops : Array Oper) (nn : Nat) : List (Nat × Bool) → Array Bool → Bool
  | [], listed => Region.seqB md ops (ops.size - nn) nn listed
  | (i, true) :: is, listed => (Region.ready md ops listed).contains i && Region.free md ops listed i && lexS md ops nn is (listed.setIfInBounds i true)
  | (i, false) :: is, listed => decide (Region.ready md ops listed = [i]) && lexS md ops nn is (listed.setIfInBounds i true)

theorem wpAnyD_steps {isQ : Nat → Bool} {nn : Nat} {T : Act → World → Prop} (hsel : Region.noSelect ops = true) (hs : Region.sinkB md ops nn = true) (hc : Region.chainB md ops nn = true) (hn : nn < ops.size) :
    ∀ (ss : List (Nat × Bool)) (listed : Array Bool) (a : Act) (w : World), (∀ s ∈ ss, isQ s.1 = s.2 ∧ s.1 < nn) → HeadInv md ops nn listed →
    lexS md ops nn ss listed = true → wpSD D F n P ops T ss a w →
    wpAnyD D F n P md ops isQ nn (fun listed' a' w' => Region.seqB md ops (ops.size - nn) nn listed' = true ∧ T a' w') ss.length listed a w
  | [], listed, a, w, _, _, hB, h => ⟨hB, h⟩
  | (i, true) :: is, listed, a, w, hq, inv, hB, h => by
    simp only [lexS, Bool.and_eq_true] at hB
    obtain ⟨⟨hr, hf⟩, hB'⟩ := hB
    obtain ⟨h1, h2⟩ := hq (i, true) (by simp)
    have hr' : i ∈ Region.ready md ops listed := by simpa using hr
    obtain ⟨o, h0, v, hy, hK⟩ := h
    exact wpAnyD_first (F := F) (n := n) (P := P) (isQ := isQ) (L := fun listed' a' w' => Region.seqB md ops (ops.size - nn) nn listed' = true ∧ T a' w') h0 (Region.noSelect_spec hsel) hs hc hn h2 h1 (fun listed' a' w' hL => seqB_ready hL.1) is.length listed a w inv (Region.free_spec h0 hf) hr' hy
      (wpAnyD_steps hsel hs hc hn is _ _ w (fun k hk => hq k (by simp [hk])) (inv.set hr' h2) hB' hK)
  | (i, false) :: is, listed, a, w, hq, inv, hB, h => by
    simp only [lexS, Bool.and_eq_true, decide_eq_true_eq] at hB
    have hi : i ∈ Region.ready md ops listed := by rw [hB.1]; simp
    obtain ⟨h1, h2⟩ := hq (i, false) (by simp)
    refine ⟨fun h1 => (by rw [hB.1] at h1; cases h1), fun j hj => ?_⟩
    rw [hB.1] at hj
    obtain rfl : j = i := by simpa using hj
    obtain ⟨o, h0, hmid⟩ := h
    exact ⟨h2, o, h0, .inr ⟨h1, midD_mono (fun a2 w2 _ h3 => wpAnyD_steps hsel hs hc hn is _ a2 w2 (fun k hk => hq k (by simp [hk])) (inv.set hi h2) hB.2 h3) hmid⟩⟩

def stepsB (ops : Array Oper) (nn : Nat) (ss : List (Nat × Bool)) : Bool :=
  Region.noSelect ops && ops.all noDefer && decide (nn < ops.size) && Region.sinkB .any ops nn && Region.chainB .any ops nn && decide (ss.length = nn) && ss.all (fun s => decide (s.1 < nn) && (ss.contains (s.1, true) == s.2)) && lexS .any ops nn ss (Array.replicate ops.size false)

theorem wpIn_region_steps {id : Nat} {Q : Exit → Act → World → Prop} {a : Act} {w : World} {l : List Oper} (D : List Nat) (nn : Nat) (ss : List (Nat × Bool)) (hm : P.follows .mixedOrders = true) (hB : stepsB l.toArray nn ss = true)
    (h : wpSD D F n P l.toArray (fun a2 w2 => ∀ w3, Ext w2 w3 → wpListIn F n P l.toArray Q (l.drop nn) a2 w3) ss a w) : (Code.region id l.toArray true).wpIn F n P Q a w := by
  simp only [stepsB, Bool.and_eq_true, decide_eq_true_eq] at hB
  obtain ⟨⟨⟨⟨⟨⟨⟨hsel, hnd⟩, hn⟩, hs⟩, hc⟩, hlen⟩, hqs⟩, hlex⟩ := hB
  have hn' : nn < l.length := by simpa using hn
  have hdl : (l.drop nn).length = l.toArray.size - nn := by simp
  have inv0 : HeadInv .any l.toArray nn (Array.replicate l.toArray.size false) :=
    ⟨by simp, fun j oj _ hl => (by rw [getD_replicate_false] at hl; cases hl), fun t _ ht => getD_in (by simpa using ht) (getD_replicate_false _ _)⟩
  have H := wpAnyD_steps (F := F) (n := n) (P := P) (md := .any) (isQ := fun i => ss.contains (i, true)) (nn := nn) hsel hs hc hn ss _ a w (fun s hs' => by
    have := List.all_eq_true.1 hqs s hs'
    simp only [Bool.and_eq_true, decide_eq_true_eq, beq_iff_eq] at this
    exact ⟨this.2, this.1⟩) inv0 hlex h
  refine wpIn_region_any hm ?_
  have := wpAnyIn_of_D (F := F) (n := n) (P := P) (Q' := Q) (g := l.toArray.size - nn) hnd (fun listed a' w' w1 hL hx => by
    have := wpAnyIn_of_seq (F := F) (n := n) (P := P) (md := .any) (Q' := Q) (l.drop nn) nn listed a' w1 (fun j => by simp [List.getElem?_drop]) (by rw [hdl]; exact hL.1) (hL.2 w1 hx)
    rwa [hdl] at this) _ _ _ _ { w with drawn := w.drawn + 1 } ((Ext.refl w).drew) H
  rw [hlen, show nn + (l.toArray.size - nn) = l.toArray.size by omega] at this
  exact this

theorem wpSD_q {w : World} {T : Act → World → Prop} {i : Nat} {is : List (Nat × Bool)} {o : Oper} {a : Act} (h0 : ops[i]? = some o) (hab : ∀ w3 f, o.about P w3 a.eval = some f → F.fn f)
    (h : ∀ K : Act → Prop, (∀ a, wpSD D F n P ops T is a w → K a) → if Region.wanted o (yielded ops a.tmps) then pureD D F n P o a w K else K (a.put o.dst undef)) : wpSD D F n P ops T ((i, true) :: is) a w := by
  have h1 := h _ (fun _ h => h)
  by_cases hw : Region.wanted o (yielded ops a.tmps) = true
  · rw [if_pos hw] at h1
    obtain ⟨v, h2, h3⟩ := h1
    refine ⟨o, h0, v, ⟨fun w3 _ => hab w3, .inl ⟨hw, fun w3 x => ?_⟩⟩, h3⟩
    have h4 := h2 ⟨w3, x⟩
    unfold Oper.quietAtIn
    generalize (execOp a.eval o).run P w3 = r at *
    cases r with
    | ok x w' => cases x <;> simp only [pureUD] at h4 <;> simp only [Oper.quietUponIn] <;> first | exact h4 | exact h4.elim
    | halt x w' => simp only [pureUD] at h4
  · rw [if_neg hw] at h1
    exact ⟨o, h0, undef, ⟨fun w3 _ => hab w3, .inr ⟨by simpa using hw, rfl⟩⟩, h1⟩
theorem wpSD_nil {w : World} {T : Act → World → Prop} {a : Act} (h : T a w) : wpSD D F n P ops T [] a w := h
theorem wpSD_m {w : World} {T : Act → World → Prop} {i : Nat} {is : List (Nat × Bool)} {o : Oper} {a : Act} (h0 : ops[i]? = some o) (hab : ∀ w1 f, o.about P w1 a.eval = some f → F.fn f)
    (h : ∀ (δ : BExt w) (K : Act → World → Prop), (∀ a w2, wpSD D F n P ops T is a w2 → K a w2) → if Region.wanted o (yielded ops a.tmps) then nextD D F n P o a δ.wd K else K (a.put o.dst undef) δ.wd) : wpSD D F n P ops T ((i, false) :: is) a w := by
  refine ⟨o, h0, fun w1 x => ⟨hab w1, ?_⟩⟩
  have h1 := h ⟨w1, x.bel⟩ _ (fun _ _ h => h)
  by_cases hw : Region.wanted o (yielded ops a.tmps) = true
  · rw [if_pos hw] at h1
    exact .inl ⟨hw, h1⟩
  · rw [if_neg hw] at h1
    exact .inr ⟨by simpa using hw, h1⟩
end

section
variable {α : Type} {K : EK α} {F : Fence} {n : Nat}
/-- An append of one element among them. -/
theorem EK.app_s {w : World} {ops : Array Oper} {T : Act → World → Prop} {i : Nat} {is : List (Nat × Bool)} {o : Oper} {a : Act} (h0 : ops[i]? = some o) (hgd : o.guard = none) (s x : Operand)
    (ho : o.op = .call { callee := .builtin .append, args := #[s, x], argTypes := #[K.st, K.st] })
    {B : Nat} {v : Value} {xs : List α} (b c : Nat) (y : α) (hs : a.eval s = v) (hx : a.eval x = .slice (some ⟨b, 0, none⟩) 1 c)
    (hcell : ∀ i u, (K.enc y)[i]? = some u → w.cell? ⟨b, i, none⟩ = some u) (hown : K.Own B w v xs) (hB : B ≤ w.heap.size) (hlen : xs.length ≤ 1000000000)
    (h : ∀ v' w1 w2, K.Own B w2 v' (xs ++ [y]) → Ext w w1 → w1.grownBy w2 v.ownBlock → wpSD v.ownBlock.toList F n Tryz.prog ops T is (a.put o.dst v') w2) : wpSD v.ownBlock.toList F n Tryz.prog ops T ((i, false) :: is) a w := by
  have := EK.app_mid (F := F) (n := n) (Q := wpSD v.ownBlock.toList F n Tryz.prog ops T is) (is := []) h0 hgd s x ho b c y hs hx hcell hown hB hlen h
  exact this
end
end Go.Proofs.YtkjgcmdabelohaaGreat

namespace Go.Proofs.YtkjgcmdabelohaaGreat
open Go.RowKit

section
variable {P : Program} {w : World}

def xUpon (P : Program) (W : World) (v : Value) : Result Next → Prop
  | .ok (.value u) W' => W' = W ∧ u = v
  | .ok .skip W' => W' = W ∧ v = undef
  | .ok (.enter f args) W' => W' = W ∧ Calls P f args W fun e W'' => e = .returned v ∧ Ext W W''
  | _ => False

def xAt (P : Program) (o : Oper) (a : Act) (W : World) (v : Value) : Prop := xUpon P W v ((execOp a.eval o).run P W)

/-- In frame a, in every world in which all that lay in w lies, operation o leaves v. -/
def Yx (P : Program) (w : World) (ops : Array Oper) (o : Oper) (v : Value) (a : Act) : Prop :=
  (Region.wanted o (yielded ops a.tmps) = true ∧ ∀ δ : BExt w, xAt P o a δ.wd v) ∨ (Region.wanted o (yielded ops a.tmps) = false ∧ v = undef)

theorem eval_same {a a' : Act} {x : Operand} (h : ∀ t, x = .tmp t → a'.tmps[t]? = a.tmps[t]?) : a'.eval x = a.eval x := by
  cases x with
  | tmp t => simp [Act.eval, h t rfl]
  | _ => rfl

theorem Yx.congr {ops : Array Oper} {o : Oper} {v : Value} {a a' : Act} (hs : ∀ cs b, o.op ≠ .select cs b) (h : ∀ t ∈ o.looksAt ops, a'.tmps[t]? = a.tmps[t]?) (hy : Yx P w ops o v a) : Yx P w ops o v a' := by
  have he : execOp a'.eval o = execOp a.eval o := execOp_congr o hs fun x hx => eval_same fun t ht => h t (by
    subst ht
    exact List.mem_append_left _ (List.mem_filterMap.2 ⟨.tmp t, by simpa using hx, rfl⟩))
  have hw : Region.wanted o (yielded ops a'.tmps) = Region.wanted o (yielded ops a.tmps) := by
    unfold Region.wanted
    cases hg : o.guard with
    | none => rfl
    | some p =>
      obtain ⟨g, b⟩ := p
      have : yielded ops a'.tmps g = yielded ops a.tmps g := by
        unfold yielded
        cases hd : (ops[g]?).bind (·.dst) with
        | none => rfl
        | some d =>
          have hm : d ∈ o.looksAt ops := List.mem_append_right _ (by simp [hg, hd])
          simp only [Option.bind_some, h d hm]
      simp only [this]
  unfold Yx xAt at *
  rw [he, hw]
  exact hy

/-- One new variable: its allocation's and its store's numbers, its slot, its type, its zero cells, what is stored. -/
structure Mk where
  ai : Nat
  si : Nat
  d : Tmp
  t : TypeId
  z : Array Value
  x : Tmp

def isEff (ms : List Mk) (i : Nat) : Bool := ms.any fun m => m.ai == i || m.si == i

/-- The frame behind the first i operations in the text's order, the new variables' passed by. -/
def Lf (ops : Array Oper) (ms : List Mk) (vs : Nat → Value) (a : Act) : Nat → Act
  | 0 => a
  | i + 1 => match ops[i]? with
    | some o => if isEff ms i then Lf ops ms vs a i else (Lf ops ms vs a i).put o.dst (vs i)
    | none => Lf ops ms vs a i

/-- The walk in the text's order. -/
def wpX (P : Program) (w : World) (ops : Array Oper) (ms : List Mk) (Q : Act → Prop) : Nat → List Oper → Act → Prop
  | _, [], a => Q a
  | k, o :: rest, a => if isEff ms k then wpX P w ops ms Q (k + 1) rest a
    else if Region.wanted o (yielded ops a.tmps) then ∃ v, (∀ δ : BExt w, xAt P o a δ.wd v) ∧ wpX P w ops ms Q (k + 1) rest (a.put o.dst v)
    else wpX P w ops ms Q (k + 1) rest (a.put o.dst undef)

theorem wpX_vals {ops : Array Oper} {ms : List Mk} {Q : Act → Prop} {a0 : Act} : ∀ (l : List Oper) (k : Nat) (vs : Nat → Value) (_ : ∀ j, l[j]? = ops[k + j]?) (_ : k + l.length = ops.size),
    wpX P w ops ms Q k l (Lf ops ms vs a0 k) → (∀ i o, i < k → ops[i]? = some o → isEff ms i = false → Yx P w ops o (vs i) (Lf ops ms vs a0 i)) →
    ∃ us : Nat → Value, (∀ i o, ops[i]? = some o → isEff ms i = false → Yx P w ops o (us i) (Lf ops ms us a0 i)) ∧ Q (Lf ops ms us a0 ops.size)
  | [], k, vs, _, hk, h, hv => ⟨vs, fun i o hi he => hv i o (by have := (Array.getElem?_eq_some_iff.1 hi).1; simp at hk; omega) hi he, by simp at hk; rw [← hk]; exact h⟩
  | o :: l, k, vs, hl, hk, h, hv => by
    have h0 : ops[k]? = some o := by simpa using (hl 0).symm
    have hl' : ∀ j, l[j]? = ops[k + 1 + j]? := fun j => by have := hl (j + 1); simpa [Nat.add_assoc, Nat.add_comm 1 j] using this
    have hk' : k + 1 + l.length = ops.size := by simp at hk; omega
    unfold wpX at h
    cases he : isEff ms k with
    | true =>
      rw [he, if_pos rfl] at h
      refine wpX_vals l (k + 1) vs hl' hk' (by simpa [Lf, h0, he] using h) (fun i o' hi ho hei => ?_)
      rcases (by omega : i < k ∨ i = k) with hlt | rfl
      · exact hv i o' hlt ho hei
      · rw [he] at hei; cases hei
    | false =>
      rw [he, if_neg (by decide)] at h
      have key : ∃ v, Yx P w ops o v (Lf ops ms vs a0 k) ∧ wpX P w ops ms Q (k + 1) l ((Lf ops ms vs a0 k).put o.dst v) := by
        by_cases hw : Region.wanted o (yielded ops (Lf ops ms vs a0 k).tmps) = true
        · rw [if_pos hw] at h
          obtain ⟨v, h1, h2⟩ := h
          exact ⟨v, .inl ⟨hw, h1⟩, h2⟩
        · rw [if_neg hw] at h
          exact ⟨undef, .inr ⟨by simpa using hw, rfl⟩, h⟩
      obtain ⟨v, hy, hn⟩ := key
      have same : ∀ i, i ≤ k → Lf ops ms (fun j => if j = k then v else vs j) a0 i = Lf ops ms vs a0 i := by
        intro i
        induction i with
        | zero => intro _; rfl
        | succ i ih =>
          intro hi
          have hne : i ≠ k := by omega
          simp only [Lf, ih (by omega), if_neg hne]
      refine wpX_vals l (k + 1) (fun j => if j = k then v else vs j) hl' hk' (by
        simp only [Lf, h0, he, same k (Nat.le_refl _)]
        simpa using hn) (fun i o' hi ho hei => ?_)
      rw [same i (by omega)]
      rcases (by omega : i < k ∨ i = k) with hlt | rfl
      · rw [if_neg (by omega)]
        exact hv i o' hlt ho hei
      · rw [if_pos rfl]
        rw [h0] at ho
        cases ho
        exact hy

theorem wpX_skip {ops : Array Oper} {ms : List Mk} {Q : Act → Prop} {k : Nat} {o : Oper} {rest : List Oper} {a : Act} (he : isEff ms k = true) (h : wpX P w ops ms Q (k + 1) rest a) : wpX P w ops ms Q k (o :: rest) a := by
  unfold wpX; rw [if_pos he]; exact h
theorem wpX_pass {ops : Array Oper} {ms : List Mk} {Q : Act → Prop} {k : Nat} {o : Oper} {rest : List Oper} {a : Act} (he : isEff ms k = false) (hw : Region.wanted o (yielded ops a.tmps) = false) (h : wpX P w ops ms Q (k + 1) rest (a.put o.dst undef)) : wpX P w ops ms Q k (o :: rest) a := by
  unfold wpX; rw [he, hw]; exact h
theorem wpX_step {ops : Array Oper} {ms : List Mk} {Q : Act → Prop} {k : Nat} {o : Oper} {rest : List Oper} {a : Act} (he : isEff ms k = false) (hw : Region.wanted o (yielded ops a.tmps) = true)
    (h : ∃ v, (∀ δ : BExt w, xAt P o a δ.wd v) ∧ wpX P w ops ms Q (k + 1) rest (a.put o.dst v)) : wpX P w ops ms Q k (o :: rest) a := by
  unfold wpX; rw [he, hw]; exact h

/-! ### The closed checks -/
def waits (o : Oper) (j : Nat) : Bool := o.after.any fun e => Region.binds .any e && e.on == j
def dstOf (ops : Array Oper) (i : Nat) : Option Tmp := (ops[i]?).bind (·.dst)
def quietOk (ops : Array Oper) (ms : List Mk) (i : Nat) : Bool := match ops[i]? with
  | some o => isEff ms i || (o.looksAt ops).all fun t => (List.range ops.size).all fun j => dstOf ops j != some t || (!isEff ms j && ((decide (j < i) && waits o j) || (decide (i < j) && ((ops[j]?).map (waits · i)).getD false)))
  | none => true
def mkOk (ops : Array Oper) (ms : List Mk) (m : Mk) : Bool :=
  (match ops[m.ai]? with
    | some o => (o.dst == some m.d) && o.guard.isNone && (match o.op with | .alloc t => t == m.t | _ => false)
    | none => false) &&
  (match ops[m.si]? with
    | some o => o.dst.isNone && o.guard.isNone && (match o.op with | .store t (.tmp d) (.tmp x) => t == m.t && d == m.d && x == m.x | _ => false) && waits o m.ai &&
        (List.range ops.size).all fun j => dstOf ops j != some m.x || (!isEff ms j && waits o j)
    | none => false)
def regionOk (ops : Array Oper) (ms : List Mk) (n : Nat) : Bool :=
  Region.noSelect ops && ((List.range ops.size).all fun i => quietOk ops ms i && ((ops[i]?).map fun o => o.after.all fun e => !Region.binds .any e || decide (e.on < i)).getD false) &&
  ((List.range ops.size).all fun i => (List.range ops.size).all fun j => decide (i = j) || dstOf ops i == none || dstOf ops i != dstOf ops j) &&
  (ms.all fun m => mkOk ops ms m) && decide (ms.Pairwise fun m m' => m.ai ≠ m'.ai ∧ m.si ≠ m'.si ∧ m.d ≠ m'.d) &&
  ((List.range ops.size).all fun i => match dstOf ops i with | some d => decide (d < n) | none => true)

theorem pw_inj {α : Type} {R : α → α → Prop} {f : α → Nat} (hR : ∀ a b, R a b → f a ≠ f b) : ∀ {l : List α}, l.Pairwise R → ∀ a ∈ l, ∀ b ∈ l, f a = f b → a = b
  | [], _, a, ha, _, _, _ => by cases ha
  | c :: l, h, a, ha, b, hb, e => by
    obtain ⟨h1, h2⟩ := List.pairwise_cons.1 h
    rcases List.mem_cons.1 ha with rfl | ha
    · rcases List.mem_cons.1 hb with rfl | hb
      · rfl
      · exact absurd e (hR _ _ (h1 b hb))
    · rcases List.mem_cons.1 hb with hbc | hb
      · exact absurd e.symm (by rw [hbc]; exact hR _ _ (h1 a ha))
      · exact pw_inj hR h2 a ha b hb e

/-- How many of the first n numbers are not listed yet. -/
def unl (listed : Array Bool) : Nat → Nat
  | 0 => 0
  | n + 1 => unl listed n + if listed.getD n true = false then 1 else 0
theorem unl_set {listed : Array Bool} {i : Nat} (hi : listed.getD i true = false) : ∀ n, unl (listed.setIfInBounds i true) n + (if i < n then 1 else 0) = unl listed n
  | 0 => by simp [unl]
  | n + 1 => by
    have ih := unl_set hi n
    have hlt : i < listed.size := by
      rcases Nat.lt_or_ge i listed.size with h | h
      · exact h
      · simp [Array.getElem?_eq_none h] at hi
    unfold unl
    by_cases hin : i = n
    · subst hin
      rw [if_pos hi, if_neg (by simp [hlt]), if_pos (by omega)]
      rw [if_neg (by omega)] at ih
      omega
    · rw [getD_set_ne true hin]
      by_cases h : i < n
      · rw [if_pos h] at ih; rw [if_pos (show i < n + 1 by omega)]; omega
      · rw [if_neg h] at ih; rw [if_neg (show ¬ i < n + 1 by omega)]; omega
theorem unl_zero {listed : Array Bool} : ∀ {n}, unl listed n = 0 → ∀ i, i < n → listed.getD i true = true
  | 0, _, i, hi => by omega
  | n + 1, h, i, hi => by
    unfold unl at h
    rcases (by omega : i < n ∨ i = n) with hlt | rfl
    · exact unl_zero (by omega) i hlt
    · cases hb : listed.getD i true with
      | true => rfl
      | false => rw [hb, if_pos rfl] at h; omega

theorem unl_le (listed : Array Bool) : ∀ n, unl listed n ≤ n
  | 0 => Nat.le_refl _
  | n + 1 => by
    have := unl_le listed n
    unfold unl
    split <;> omega
theorem repl_false (m j : Nat) : (Array.replicate m false).getD j false = false := by
  rcases Nat.lt_or_ge j m with h | h
  · simp [h]
  · simp [h]

def fin (ops : Array Oper) (ms : List Mk) (vs : Nat → Value) (a0 : Act) (m : Mk) : Value := (Lf ops ms vs a0 ops.size).tmps.getD m.x undef

structure Inv (ops : Array Oper) (ms : List Mk) (vs : Nat → Value) (a0 : Act) (w : World) (listed : Array Bool) (a : Act) (W : World) (β : Nat → Nat) : Prop where
  lsz : listed.size = ops.size
  closed : ∀ j oj, ops[j]? = some oj → listed.getD j false = true → ∀ e ∈ oj.after, Region.binds .any e = true → listed.getD e.on false = true
  size : a.tmps.size = a0.tmps.size
  dfr : a.defers = a0.defers
  bel : Below w.heap.size w W
  quiet : ∀ i o d, ops[i]? = some o → isEff ms i = false → o.dst = some d → listed.getD i false = true → a.tmps[d]? = some (vs i)
  rest : ∀ t, (∀ i o, ops[i]? = some o → listed.getD i false = true → o.dst ≠ some t) → a.tmps[t]? = a0.tmps[t]?
  slot : ∀ m ∈ ms, listed.getD m.ai false = true → a.tmps[m.d]? = some (.pointer (some ⟨β m.ai, 0, none⟩))
  blk : ∀ m ∈ ms, listed.getD m.ai false = true → w.heap.size ≤ β m.ai ∧ β m.ai < W.heap.size ∧
    W.heap[β m.ai]? = some (.cells (if listed.getD m.si false = true then (fin ops ms vs a0 m).cells else m.z) m.t (0, 0))
  inj : ∀ m ∈ ms, ∀ m' ∈ ms, listed.getD m.ai false = true → listed.getD m'.ai false = true → m.ai ≠ m'.ai → β m.ai ≠ β m'.ai

theorem Lf_size (ops : Array Oper) (ms : List Mk) (vs : Nat → Value) (a0 : Act) : ∀ n, (Lf ops ms vs a0 n).tmps.size = a0.tmps.size ∧ (Lf ops ms vs a0 n).defers = a0.defers
  | 0 => ⟨rfl, rfl⟩
  | n + 1 => by
    obtain ⟨h1, h2⟩ := Lf_size ops ms vs a0 n
    unfold Lf
    cases ho : ops[n]? with
    | none => exact ⟨h1, h2⟩
    | some o =>
      simp only
      cases he : isEff ms n with
      | true => exact ⟨h1, h2⟩
      | false =>
        cases hd : o.dst with
        | none => exact ⟨h1, h2⟩
        | some d => exact ⟨by simpa [Act.put] using h1, by simpa [Act.put] using h2⟩

theorem put_get {a : Act} {d t : Tmp} {v : Value} : (a.put (some d) v).tmps[t]? = if d = t then (if t < a.tmps.size then some v else none) else a.tmps[t]? := by
  simp only [Act.put]
  rw [Array.getElem?_setIfInBounds]
  by_cases h : d = t
  · subst h; simp
  · simp [h]

theorem Lf_get_none {ops : Array Oper} {ms : List Mk} {vs : Nat → Value} {a0 : Act} {t : Tmp} : ∀ n, (∀ i, i < n → isEff ms i = false → dstOf ops i ≠ some t) → (Lf ops ms vs a0 n).tmps[t]? = a0.tmps[t]?
  | 0, _ => rfl
  | n + 1, h => by
    have ih := Lf_get_none (ops := ops) (ms := ms) (vs := vs) (a0 := a0) (t := t) n fun i hi => h i (by omega)
    have hn := h n (by omega)
    unfold Lf
    cases ho : ops[n]? with
    | none => exact ih
    | some o =>
      simp only
      cases he : isEff ms n with
      | true => exact ih
      | false =>
        have hne := hn he
        simp only [dstOf, ho, Option.bind_some] at hne
        cases hd : o.dst with
        | none => exact ih
        | some d => rw [if_neg (by decide), put_get, if_neg (by intro e; exact hne (by rw [hd, e]))]; exact ih

theorem Lf_get_some {ops : Array Oper} {ms : List Mk} {vs : Nat → Value} {a0 : Act} {t : Tmp} {j : Nat} (hj : dstOf ops j = some t) (hje : isEff ms j = false) (hsz : t < a0.tmps.size)
    (hdis : ∀ i, i ≠ j → dstOf ops i ≠ some t) : ∀ n, j < n → (Lf ops ms vs a0 n).tmps[t]? = some (vs j)
  | 0, h => by omega
  | n + 1, h => by
    have hs := (Lf_size ops ms vs a0 n).1
    by_cases hjn : j = n
    · subst hjn
      unfold Lf
      cases ho : ops[j]? with
      | none => simp [dstOf, ho] at hj
      | some o =>
        have hd : o.dst = some t := by simpa [dstOf, ho] using hj
        simp only [hje, hd]
        rw [if_neg (by decide), put_get, if_pos rfl, if_pos (by rw [(Lf_size ops ms vs a0 j).1]; exact hsz)]
    · have ih := Lf_get_some (vs := vs) hj hje hsz hdis n (by omega)
      unfold Lf
      cases ho : ops[n]? with
      | none => exact ih
      | some o =>
        simp only
        cases he : isEff ms n with
        | true => exact ih
        | false =>
          cases hd : o.dst with
          | none => exact ih
          | some d =>
            rw [if_neg (by decide), put_get, if_neg (by
              intro e
              exact hdis n (Ne.symm hjn) (by simp [dstOf, ho, hd, e]))]
            exact ih

/-- The slots of the new variables. -/
def putAll (β : Nat → Nat) : List Mk → Act → Act
  | [], a => a
  | m :: ms, a => putAll β ms (a.put (some m.d) (.pointer (some ⟨β m.ai, 0, none⟩)))
theorem putAll_size (β : Nat → Nat) : ∀ (ms : List Mk) (a : Act), (putAll β ms a).tmps.size = a.tmps.size ∧ (putAll β ms a).defers = a.defers
  | [], a => ⟨rfl, rfl⟩
  | m :: ms, a => by
    obtain ⟨h1, h2⟩ := putAll_size β ms (a.put (some m.d) (.pointer (some ⟨β m.ai, 0, none⟩)))
    exact ⟨by rw [putAll, h1]; simp [Act.put], by rw [putAll, h2]; simp [Act.put]⟩
theorem putAll_none (β : Nat → Nat) {t : Tmp} : ∀ (ms : List Mk) (a : Act), (∀ m ∈ ms, m.d ≠ t) → (putAll β ms a).tmps[t]? = a.tmps[t]?
  | [], _, _ => rfl
  | m :: ms, a, h => by
    rw [putAll, putAll_none β ms _ fun m hm => h m (by simp [hm]), put_get, if_neg (h m (by simp))]
theorem putAll_some (β : Nat → Nat) : ∀ (ms : List Mk) (a : Act) (m : Mk), m ∈ ms → (ms.Pairwise fun m m' => m.d ≠ m'.d) → m.d < a.tmps.size → (putAll β ms a).tmps[m.d]? = some (.pointer (some ⟨β m.ai, 0, none⟩))
  | [], _, _, hm, _, _ => by cases hm
  | c :: ms, a, m, hm, hp, hsz => by
    obtain ⟨h1, h2⟩ := List.pairwise_cons.1 hp
    rw [putAll]
    rcases List.mem_cons.1 hm with rfl | hm
    · rw [putAll_none β ms _ fun m' hm' => (h1 m' hm').symm, put_get, if_pos rfl, if_pos hsz]
    · exact putAll_some β ms _ m hm h2 (by simpa [Act.put] using hsz)

theorem waits_iff {o : Oper} {j : Nat} : waits o j = true ↔ ∃ e ∈ o.after, Region.binds .any e = true ∧ e.on = j := by
  unfold waits
  rw [Array.any_eq_true']
  simp

theorem run_store_block {W : World} {g : Nat} {t : TypeId} {z : Array Value} {v : Value} (hg : W.heap[g]? = some (.cells z t (0, 0))) (hi : (P.info? t).map (·.size) = some v.cells.size) (hz : z.size = v.cells.size)
    (h1 : v.cells.all (·.oneCell') = true) {o : Oper} {a : Act} {x d : Operand} (ho : o.op = .store t d x) (hd : a.eval d = .pointer (some ⟨g, 0, none⟩)) (hx : a.eval x = v) :
    ∃ n, (execOp a.eval o).run P W = .ok n (W.setRow g v.cells) ∧ (n = .skip ∨ ∃ u, n = .value u) := by
  have hs := run_storeCells_from (P := P) g t v.cells.toList 0 z W hg (by simp; omega) (fun c hc => (Array.all_eq_true_iff_forall_mem.1 h1) c (by simpa using hc))
  have hsv : (storeVar t ⟨g, 0, none⟩ v).run P W = .ok () (W.setRow g v.cells) := by
    cases hq : P.info? t with
    | none => simp [hq] at hi
    | some i =>
      have hsz : v.cells.size = i.size := by simp [hq] at hi; omega
      simp [storeVar, sizeOf, typeInfo, hq, hsz, hs]
  unfold execOp
  simp only [ho, hd, hx, Instr.storeAt, Instr.sureAddr, Sem.run_bind, Sem.run_pure, Result.andThen_ok, hsv]
  exact ⟨_, rfl, by simp⟩

section
variable {ops : Array Oper} {ms : List Mk} {vs : Nat → Value} {a0 : Act}

structure ROk (ops : Array Oper) (ms : List Mk) (n : Nat) : Prop where
  sel : ∀ (j : Nat) (o : Oper) cs b, ops[j]? = some o → o.op ≠ .select cs b
  quiet : ∀ i o, ops[i]? = some o → isEff ms i = false → ∀ t ∈ o.looksAt ops, ∀ j, dstOf ops j = some t → isEff ms j = false ∧ ((j < i ∧ waits o j = true) ∨ (i < j ∧ ∃ oj, ops[j]? = some oj ∧ waits oj i = true))
  back : ∀ i o, ops[i]? = some o → ∀ e ∈ o.after, Region.binds .any e = true → e.on < i
  dis : ∀ i j t, dstOf ops i = some t → dstOf ops j = some t → i = j
  alc : ∀ m ∈ ms, ∃ o, ops[m.ai]? = some o ∧ o.dst = some m.d ∧ o.guard = none ∧ o.op = .alloc m.t
  sto : ∀ m ∈ ms, ∃ o, ops[m.si]? = some o ∧ o.dst = none ∧ o.guard = none ∧ o.op = .store m.t (.tmp m.d) (.tmp m.x) ∧ waits o m.ai = true ∧ ∀ j, dstOf ops j = some m.x → isEff ms j = false ∧ waits o j = true
  pw : ms.Pairwise fun m m' => m.ai ≠ m'.ai ∧ m.si ≠ m'.si ∧ m.d ≠ m'.d
  lt : ∀ i d, dstOf ops i = some d → d < n

theorem dst_lt {i : Nat} {t : Tmp} (h : dstOf ops i = some t) : i < ops.size := by
  unfold dstOf at h
  cases ho : ops[i]? with
  | none => simp [ho] at h
  | some o => exact (Array.getElem?_eq_some_iff.1 ho).1

theorem regionOk_spec {n : Nat} (h : regionOk ops ms n = true) : ROk ops ms n := by
  unfold regionOk at h
  simp only [Bool.and_eq_true, List.all_eq_true, List.mem_range, decide_eq_true_eq] at h
  obtain ⟨⟨⟨⟨⟨hsel, hq⟩, hdis⟩, hmk⟩, hpw⟩, hlt⟩ := h
  refine ⟨Region.noSelect_spec hsel, fun i o hi he t ht j hj => ?_, fun i o hi e hm hb => ?_, fun i j t hi hj => ?_, fun m hm => ?_, fun m hm => ?_, hpw, fun i d hi => ?_⟩
  · have h1 := (hq i (Array.getElem?_eq_some_iff.1 hi).1).1
    unfold quietOk at h1
    simp only [hi, he, Bool.false_or, List.all_eq_true, List.mem_range] at h1
    have h2 := h1 t ht j (dst_lt hj)
    simp only [hj, bne_self_eq_false, Bool.false_or, Bool.and_eq_true, Bool.not_eq_true', Bool.or_eq_true, decide_eq_true_eq] at h2
    refine ⟨h2.1, h2.2.imp id fun ⟨ha, hb⟩ => ⟨ha, ?_⟩⟩
    cases ho : ops[j]? with
    | none => simp [ho] at hb
    | some oj => exact ⟨oj, rfl, by simpa [ho] using hb⟩
  · have h1 := (hq i (Array.getElem?_eq_some_iff.1 hi).1).2
    simp only [hi, Option.map_some, Option.getD_some] at h1
    have h2 := (Array.all_eq_true_iff_forall_mem.1 h1) e hm
    simpa [hb] using h2
  · have h1 := hdis i (dst_lt hi) j (dst_lt hj)
    simp only [hi, hj, Bool.or_eq_true, decide_eq_true_eq, bne_self_eq_false] at h1
    rcases h1 with (h1 | h1) | h1
    · exact h1
    · simp at h1
    · cases h1
  · have h1 := hmk m hm
    unfold mkOk at h1
    simp only [Bool.and_eq_true] at h1
    obtain ⟨h1, _⟩ := h1
    cases ho : ops[m.ai]? with
    | none => simp [ho] at h1
    | some o =>
      simp only [ho, Bool.and_eq_true, beq_iff_eq, Option.isNone_iff_eq_none] at h1
      obtain ⟨⟨hd, hg⟩, hop⟩ := h1
      refine ⟨o, rfl, hd, hg, ?_⟩
      cases hop' : o.op <;> simp [hop'] at hop
      rw [hop]
  · have h1 := hmk m hm
    unfold mkOk at h1
    simp only [Bool.and_eq_true] at h1
    obtain ⟨_, h1⟩ := h1
    cases ho : ops[m.si]? with
    | none => simp [ho] at h1
    | some o =>
      simp only [ho, Bool.and_eq_true, Option.isNone_iff_eq_none, List.all_eq_true, List.mem_range] at h1
      obtain ⟨⟨⟨⟨hd, hg⟩, hop⟩, hw⟩, hx⟩ := h1
      refine ⟨o, rfl, hd, hg, ?_, hw, fun j hj => ?_⟩
      · split at hop
        · rename_i t d x heq
          simp only [Bool.and_eq_true, beq_iff_eq] at hop
          rw [heq, hop.1.1, hop.1.2, hop.2]
        · cases hop
      · have h2 := hx j (dst_lt hj)
        simpa [hj] using h2
  · have h1 := hlt i (dst_lt hi)
    simpa [hi] using h1

theorem isEff_ai {m : Mk} (hm : m ∈ ms) : isEff ms m.ai = true := List.any_eq_true.2 ⟨m, hm, by simp⟩
theorem isEff_si {m : Mk} (hm : m ∈ ms) : isEff ms m.si = true := List.any_eq_true.2 ⟨m, hm, by simp⟩
theorem isEff_iff {i : Nat} : isEff ms i = true ↔ ∃ m ∈ ms, m.ai = i ∨ m.si = i := by
  unfold isEff
  rw [List.any_eq_true]
  simp

theorem listed_set {listed : Array Bool} {i j : Nat} (h : (listed.setIfInBounds i true).getD j false = true) : j = i ∨ listed.getD j false = true := by
  by_cases hij : i = j
  · exact .inl hij.symm
  · exact .inr (by rw [getD_set_ne false hij] at h; exact h)
theorem listed_both {listed : Array Bool} {i : Nat} (h : listed.getD i true = false) : listed.getD i false = false := by
  rcases Nat.lt_or_ge i listed.size with h' | h'
  · simp [h'] at h ⊢; exact h
  · simp [Array.getElem?_eq_none h'] at h

/-- A quiet operation's step. -/
theorem Inv.quiet_step {n : Nat} {listed : Array Bool} {a : Act} {W W' : World} {β : Nat → Nat} {i : Nat} {o : Oper} (R : ROk ops ms n) (hn : n = a0.tmps.size) (h : Inv ops ms vs a0 w listed a W β) (ho : ops[i]? = some o) (he : isEff ms i = false)
    (hall : ∀ e ∈ o.after, Region.binds .any e = true → listed.getD e.on false = true) (hx : Ext W W') : Inv ops ms vs a0 w (listed.setIfInBounds i true) (a.put o.dst (vs i)) W' β := by
  have hdo : ∀ d, o.dst = some d → dstOf ops i = some d := fun d hd => by simp [dstOf, ho, hd]
  have hsz : ∀ d, o.dst = some d → d < a.tmps.size := fun d hd => by rw [h.size, ← hn]; exact R.lt i d (hdo d hd)
  have hai : ∀ m ∈ ms, m.ai ≠ i ∧ m.si ≠ i := fun m hm => ⟨fun e => (by have := isEff_ai hm; rw [e, he] at this; cases this), fun e => (by have := isEff_si hm; rw [e, he] at this; cases this)⟩
  have hput : ∀ t, o.dst ≠ some t → (a.put o.dst (vs i)).tmps[t]? = a.tmps[t]? := fun t ht => by
    cases hd : o.dst with
    | none => rfl
    | some d => rw [put_get, if_neg (by intro e; exact ht (by rw [hd, e]))]
  refine ⟨by simp [h.lsz], ?_, ?_, ?_, h.bel.trans (hx.bel.mono h.bel.size), ?_, ?_, ?_, ?_, ?_⟩
  · intro j oj hj hl e hm hb
    rcases listed_set hl with rfl | hl
    · rw [ho] at hj; cases hj
      exact getD_set_true (hall e hm hb)
    · exact getD_set_true (h.closed j oj hj hl e hm hb)
  · cases hd : o.dst <;> simp [Act.put, h.size]
  · cases hd : o.dst <;> simp [Act.put, h.dfr]
  · intro j oj d hj hje hd hl
    rcases listed_set hl with rfl | hl
    · rw [ho] at hj; cases hj
      rw [hd, put_get, if_pos rfl, if_pos (hsz d hd)]
    · by_cases hji : j = i
      · subst hji
        rw [ho] at hj; cases hj
        rw [hd, put_get, if_pos rfl, if_pos (hsz d hd)]
      · rw [hput d fun e => hji (R.dis j i d (by simp [dstOf, hj, hd]) (hdo d e))]
        exact h.quiet j oj d hj hje hd hl
  · intro t ht
    have hti : o.dst ≠ some t := ht i o ho (by
      rcases Nat.lt_or_ge i listed.size with h' | h'
      · simp [h']
      · have := (Array.getElem?_eq_some_iff.1 ho).1; rw [h.lsz] at h'; omega)
    rw [hput t hti]
    exact h.rest t fun j oj hj hl => ht j oj hj (getD_set_true hl)
  · intro m hm hl
    obtain ⟨om, hom, hdm, _, _⟩ := R.alc m hm
    have hl' : listed.getD m.ai false = true := (listed_set hl).resolve_left (hai m hm).1
    rw [hput m.d fun e => (hai m hm).1 (R.dis m.ai i m.d (by simp [dstOf, hom, hdm]) (hdo _ e))]
    exact h.slot m hm hl'
  · intro m hm hl
    have hl' : listed.getD m.ai false = true := (listed_set hl).resolve_left (hai m hm).1
    obtain ⟨b1, b2, b3⟩ := h.blk m hm hl'
    refine ⟨b1, Nat.lt_of_lt_of_le b2 hx.bel.size, ?_⟩
    rw [hx.bel.block _ b2, b3, getD_set_ne false (Ne.symm (hai m hm).2)]
  · intro m hm m' hm' hl hl' hne
    exact h.inj m hm m' hm' ((listed_set hl).resolve_left (hai m hm).1) ((listed_set hl').resolve_left (hai m' hm').1) hne

/-- An allocation's step. -/
theorem Inv.alloc_step {n : Nat} {listed : Array Bool} {a : Act} {W : World} {β : Nat → Nat} {m : Mk} (R : ROk ops ms n) (hn : n = a0.tmps.size) (h : Inv ops ms vs a0 w listed a W β) (hm : m ∈ ms)
    (hun : listed.getD m.ai false = false) (hall : ∀ o, ops[m.ai]? = some o → ∀ e ∈ o.after, Region.binds .any e = true → listed.getD e.on false = true) :
    Inv ops ms vs a0 w (listed.setIfInBounds m.ai true) (a.put (some m.d) (.pointer (some ⟨W.heap.size, 0, none⟩))) (W.alloc (.cells m.z m.t)) (fun k => if k = m.ai then W.heap.size else β k) := by
  obtain ⟨o, ho, hd, _, _⟩ := R.alc m hm
  have hdo : dstOf ops m.ai = some m.d := by simp [dstOf, ho, hd]
  have hsz : m.d < a.tmps.size := by rw [h.size, ← hn]; exact R.lt _ _ hdo
  have hlt : m.ai < listed.size := by rw [h.lsz]; exact (Array.getElem?_eq_some_iff.1 ho).1
  have inj : ∀ m' ∈ ms, m'.ai = m.ai → m' = m := fun m' hm' e => pw_inj (f := Mk.ai) (fun a b hR => hR.1) R.pw m' hm' m hm e
  have hsi : ∀ m' ∈ ms, m'.si ≠ m.ai := fun m' hm' e => by
    obtain ⟨o', ho', _, _, hop', _⟩ := R.sto m' hm'
    obtain ⟨o2, ho2, _, _, hop2⟩ := R.alc m hm
    rw [e, ho2] at ho'
    cases ho'
    rw [hop2] at hop'
    cases hop'
  have hput : ∀ t, m.d ≠ t → (a.put (some m.d) (.pointer (some ⟨W.heap.size, 0, none⟩))).tmps[t]? = a.tmps[t]? := fun t ht => by rw [put_get, if_neg ht]
  refine ⟨by simp [h.lsz], ?_, by simp [Act.put, h.size], by simp [Act.put, h.dfr], h.bel.alloc h.bel.size _, ?_, ?_, ?_, ?_, ?_⟩
  · intro j oj hj hl e he hb
    rcases listed_set hl with rfl | hl
    · exact getD_set_true (hall oj hj e he hb)
    · exact getD_set_true (h.closed j oj hj hl e he hb)
  · intro j oj d hj hje hd' hl
    have hji : j ≠ m.ai := fun e => by rw [e, isEff_ai hm] at hje; cases hje
    rw [hput d fun e => hji (R.dis j m.ai d (by simp [dstOf, hj, hd']) (by rw [hdo, e]))]
    exact h.quiet j oj d hj hje hd' ((listed_set hl).resolve_left hji)
  · intro t ht
    rw [hput t fun e => ht m.ai o ho (by simp [hlt]) (by rw [hd, e])]
    exact h.rest t fun j oj hj hl => ht j oj hj (getD_set_true hl)
  · intro m' hm' hl
    by_cases e : m'.ai = m.ai
    · rw [inj m' hm' e, put_get, if_pos rfl, if_pos hsz]
      simp
    · obtain ⟨o', ho', hd', _, _⟩ := R.alc m' hm'
      rw [hput m'.d fun e' => e (R.dis _ _ m.d (by simp [dstOf, ho', hd', e']) hdo)]
      simp only [if_neg e]
      exact h.slot m' hm' ((listed_set hl).resolve_left e)
  · intro m' hm' hl
    by_cases e : m'.ai = m.ai
    · have em := inj m' hm' e
      subst em
      have hs : listed.getD m'.si false = false := by
        cases hb : listed.getD m'.si false with
        | false => rfl
        | true =>
          obtain ⟨os, hos, _, _, _, hw, _⟩ := R.sto m' hm'
          obtain ⟨e', he', hb', hon⟩ := waits_iff.1 hw
          have := h.closed _ os hos hb e' he' hb'
          rw [hon, hun] at this
          cases this
      simp only [if_true]
      refine ⟨h.bel.size, by simp, ?_⟩
      rw [getD_set_ne false (Ne.symm (hsi m' hm')), hs]
      exact heap_alloc_new W _
    · obtain ⟨b1, b2, b3⟩ := h.blk m' hm' ((listed_set hl).resolve_left e)
      simp only [if_neg e]
      refine ⟨b1, by simp; omega, ?_⟩
      rw [Below.heap_alloc W _ _ b2, b3, getD_set_ne false (Ne.symm (hsi m' hm'))]
  · intro m1 h1 m2 h2 hl1 hl2 hne
    by_cases e1 : m1.ai = m.ai
    · have e2 : m2.ai ≠ m.ai := fun e => hne (by rw [e1, e])
      have := (h.blk m2 h2 ((listed_set hl2).resolve_left e2)).2.1
      simp only [if_pos e1, if_neg e2]
      omega
    · by_cases e2 : m2.ai = m.ai
      · have := (h.blk m1 h1 ((listed_set hl1).resolve_left e1)).2.1
        simp only [if_neg e1, if_pos e2]
        omega
      · simp only [if_neg e1, if_neg e2]
        exact h.inj m1 h1 m2 h2 ((listed_set hl1).resolve_left e1) ((listed_set hl2).resolve_left e2) hne

/-- A store's step. -/
theorem Inv.store_step {n : Nat} {listed : Array Bool} {a : Act} {W : World} {β : Nat → Nat} {m : Mk} (R : ROk ops ms n) (h : Inv ops ms vs a0 w listed a W β) (hm : m ∈ ms)
    (hai : listed.getD m.ai false = true) (hall : ∀ o, ops[m.si]? = some o → ∀ e ∈ o.after, Region.binds .any e = true → listed.getD e.on false = true) :
    Inv ops ms vs a0 w (listed.setIfInBounds m.si true) a (W.setRow (β m.ai) (fin ops ms vs a0 m).cells) β := by
  obtain ⟨o, ho, hd, _, hop, _⟩ := R.sto m hm
  have hlt : m.si < listed.size := by rw [h.lsz]; exact (Array.getElem?_eq_some_iff.1 ho).1
  obtain ⟨b1, b2, b3⟩ := h.blk m hm hai
  have hsi : ∀ m' ∈ ms, m'.ai ≠ m.si := fun m' hm' e => by
    obtain ⟨o2, ho2, _, _, hop2⟩ := R.alc m' hm'
    rw [e, ho] at ho2
    cases ho2
    rw [hop] at hop2
    cases hop2
  have hbel : Below w.heap.size W (W.setRow (β m.ai) (fin ops ms vs a0 m).cells) := ⟨rfl, rfl, rfl, by simp [World.setRow], fun k hk => setRow_other W _ k _ (by omega)⟩
  have hl_ : ∀ m' ∈ ms, (listed.setIfInBounds m.si true).getD m'.ai false = true → listed.getD m'.ai false = true := fun m' hm' hl => (listed_set hl).resolve_left (hsi m' hm')
  refine ⟨by simp [h.lsz], ?_, h.size, h.dfr, h.bel.trans hbel, ?_, ?_, fun m' hm' hl => h.slot m' hm' (hl_ m' hm' hl), ?_, fun m1 h1 m2 h2 hl1 hl2 hne => h.inj m1 h1 m2 h2 (hl_ m1 h1 hl1) (hl_ m2 h2 hl2) hne⟩
  · intro j oj hj hl e he hb
    rcases listed_set hl with rfl | hl
    · exact getD_set_true (hall oj hj e he hb)
    · exact getD_set_true (h.closed j oj hj hl e he hb)
  · intro j oj d hj hje hd' hl
    exact h.quiet j oj d hj hje hd' ((listed_set hl).resolve_left fun e => by rw [e, isEff_si hm] at hje; cases hje)
  · intro t ht
    exact h.rest t fun j oj hj hl => ht j oj hj (getD_set_true hl)
  · intro m' hm' hl
    obtain ⟨c1, c2, c3⟩ := h.blk m' hm' (hl_ m' hm' hl)
    refine ⟨c1, by simpa [World.setRow] using c2, ?_⟩
    by_cases e : m'.si = m.si
    · have em : m' = m := pw_inj (f := Mk.si) (fun a b hR => hR.2.1) R.pw m' hm' m hm e
      subst em
      rw [setRow_heap W _ _ _ _ _ b3, if_pos (by simp [hlt])]
    · have hne : m'.ai ≠ m.ai := fun e' => e (by rw [pw_inj (f := Mk.ai) (fun a b hR => hR.1) R.pw m' hm' m hm e'])
      rw [setRow_other W _ _ _ (h.inj m' hm' m hm (hl_ m' hm' hl) hai hne), c3, getD_set_ne false (Ne.symm e)]

/-- The end. -/
theorem Inv.done {n : Nat} {listed : Array Bool} {a : Act} {W : World} {β : Nat → Nat} (R : ROk ops ms n) (hn : n = a0.tmps.size) (h : Inv ops ms vs a0 w listed a W β) (hl : ∀ i, i < ops.size → listed.getD i false = true) :
    a = putAll β ms (Lf ops ms vs a0 ops.size) := by
  obtain ⟨s1, s2⟩ := Lf_size ops ms vs a0 ops.size
  obtain ⟨p1, p2⟩ := putAll_size β ms (Lf ops ms vs a0 ops.size)
  have hd : a.defers = (putAll β ms (Lf ops ms vs a0 ops.size)).defers := by rw [p2, s2, h.dfr]
  have ht : a.tmps = (putAll β ms (Lf ops ms vs a0 ops.size)).tmps := by
    apply Array.ext_getElem?
    intro t
    by_cases hmk : ∃ m ∈ ms, m.d = t
    · obtain ⟨m, hm, rfl⟩ := hmk
      obtain ⟨o, ho, hdm, _, _⟩ := R.alc m hm
      rw [h.slot m hm (hl _ (Array.getElem?_eq_some_iff.1 ho).1), putAll_some β ms _ m hm (R.pw.imp fun hR => hR.2.2) (by rw [s1, ← hn]; exact R.lt m.ai m.d (by simp [dstOf, ho, hdm]))]
    · have hno : ∀ m ∈ ms, m.d ≠ t := fun m hm e => hmk ⟨m, hm, e⟩
      rw [putAll_none β ms _ hno]
      by_cases hj : ∃ j, dstOf ops j = some t
      · obtain ⟨j, hj⟩ := hj
        have hje : isEff ms j = false := by
          cases hb : isEff ms j with
          | false => rfl
          | true =>
            obtain ⟨m, hm, e | e⟩ := isEff_iff.1 hb
            · obtain ⟨o, ho, hdm, _, _⟩ := R.alc m hm
              rw [← e] at hj
              simp [dstOf, ho, hdm] at hj
              exact absurd hj (hno m hm)
            · obtain ⟨o, ho, hdm, _⟩ := R.sto m hm
              rw [← e] at hj
              simp [dstOf, ho, hdm] at hj
        have hjl := dst_lt hj
        rw [Lf_get_some hj hje (by rw [← hn]; exact R.lt j t hj) (fun i hi e => hi (R.dis i j t e hj)) _ hjl]
        cases ho : ops[j]? with
        | none => simp [dstOf, ho] at hj
        | some o => exact h.quiet j o t ho hje (by simpa [dstOf, ho] using hj) (hl j hjl)
      · rw [Lf_get_none _ fun i _ _ e => hj ⟨i, e⟩]
        exact h.rest t fun i o hi _ e => hj ⟨i, by simp [dstOf, hi, e]⟩
  cases a
  simp only at hd ht
  rw [ht, hd]

theorem any_mk {n : Nat} {Q : Exit → Act → World → Prop} (R : ROk ops ms n) (hn : n = a0.tmps.size)
    (hal : ∀ m ∈ ms, ∀ o, ops[m.ai]? = some o → ∀ (ρ : Operand → Value) (W : World), (execOp ρ o).run P W = .ok (.value (.pointer (some ⟨W.heap.size, 0, none⟩))) (W.alloc (.cells m.z m.t)))
    (hv : ∀ i o, ops[i]? = some o → isEff ms i = false → Yx P w ops o (vs i) (Lf ops ms vs a0 i))
    (hf : ∀ m ∈ ms, (P.info? m.t).map (·.size) = some (fin ops ms vs a0 m).cells.size ∧ m.z.size = (fin ops ms vs a0 m).cells.size ∧ (fin ops ms vs a0 m).cells.all (·.oneCell') = true)
    (hQ : ∀ (β : Nat → Nat) (W : World), Below w.heap.size w W →
      (∀ m ∈ ms, w.heap.size ≤ β m.ai ∧ β m.ai < W.heap.size ∧ W.heap[β m.ai]? = some (.cells (fin ops ms vs a0 m).cells m.t (0, 0))) →
      (∀ m ∈ ms, ∀ m' ∈ ms, m.ai ≠ m'.ai → β m.ai ≠ β m'.ai) → Q .normal (putAll β ms (Lf ops ms vs a0 ops.size)) W) :
    ∀ (fuel : Nat) (listed : Array Bool) (a : Act) (W : World) (β : Nat → Nat), Inv ops ms vs a0 w listed a W β → unl listed ops.size ≤ fuel → wpAny P .any ops Q fuel listed a W := by
  have hend : ∀ (listed : Array Bool) (a : Act) (W : World) (β : Nat → Nat), Inv ops ms vs a0 w listed a W β → (∀ i, i < ops.size → listed.getD i true = true) → Q .normal a W := by
    intro listed a W β h hl
    have hl' : ∀ i, i < ops.size → listed.getD i false = true := fun i hi => by
      have := hl i hi
      have hlt : i < listed.size := by rw [h.lsz]; exact hi
      simpa [hlt] using this
    rw [h.done R hn hl']
    refine hQ β W h.bel (fun m hm => ?_) (fun m hm m' hm' hne => ?_)
    · obtain ⟨o, ho, _⟩ := R.alc m hm
      obtain ⟨o2, ho2, _⟩ := R.sto m hm
      obtain ⟨b1, b2, b3⟩ := h.blk m hm (hl' _ (Array.getElem?_eq_some_iff.1 ho).1)
      rw [if_pos (hl' _ (Array.getElem?_eq_some_iff.1 ho2).1)] at b3
      exact ⟨b1, b2, b3⟩
    · obtain ⟨o, ho, _⟩ := R.alc m hm
      obtain ⟨o2, ho2, _⟩ := R.alc m' hm'
      exact h.inj m hm m' hm' (hl' _ (Array.getElem?_eq_some_iff.1 ho).1) (hl' _ (Array.getElem?_eq_some_iff.1 ho2).1) hne
  intro fuel
  induction fuel with
  | zero =>
    intro listed a W β h hc
    have hl := unl_zero (show unl listed ops.size = 0 by omega)
    refine ⟨?_, hend listed a W β h hl⟩
    rw [List.eq_nil_iff_forall_not_mem]
    intro i hi
    obtain ⟨h0, o, ho, _⟩ := mem_ready.1 hi
    rw [hl i (Array.getElem?_eq_some_iff.1 ho).1] at h0
    cases h0
  | succ fuel ih =>
    intro listed a W β h hc
    refine ⟨fun hr => hend listed a W β h ?_, fun i hi => ?_⟩
    · -- nothing is ready: all are listed
      intro i
      induction i using Nat.strongRecOn with
      | _ i ih2 =>
        intro hi
        cases hb : listed.getD i true with
        | true => rfl
        | false =>
          have : i ∈ Region.ready .any ops listed := mem_ready.2 ⟨hb, ops[i], Array.getElem?_eq_getElem hi, fun e he hbd => by
            have hlt := R.back i ops[i] (Array.getElem?_eq_getElem hi) e he hbd
            have h1 := ih2 e.on hlt (by omega)
            have hlt2 : e.on < listed.size := by rw [h.lsz]; omega
            simpa [hlt2] using h1⟩
          rw [hr] at this
          cases this
    · obtain ⟨hun, o, ho, hall⟩ := mem_ready.1 hi
      have hlt := (Array.getElem?_eq_some_iff.1 ho).1
      have hc' : unl (listed.setIfInBounds i true) ops.size ≤ fuel := by
        have := unl_set hun ops.size
        rw [if_pos hlt] at this
        omega
      unfold wpOp
      simp only [ho]
      cases he : isEff ms i with
      | false =>
        have hy : Yx P w ops o (vs i) a := (hv i o ho he).congr (R.sel i o · · ho) fun t ht => by
          by_cases hj : ∃ j, dstOf ops j = some t
          · obtain ⟨j, hj⟩ := hj
            obtain ⟨hje, hcase⟩ := R.quiet i o ho he t ht j hj
            rcases hcase with ⟨hji, hw⟩ | ⟨hij, oj, hoj, hw⟩
            · obtain ⟨e, hem, heb, hon⟩ := waits_iff.1 hw
              have hjl := hall e hem heb
              rw [hon] at hjl
              rw [Lf_get_some hj hje (by rw [← hn]; exact R.lt j t hj) (fun k hk e => hk (R.dis k j t e hj)) _ hji]
              cases hoj : ops[j]? with
              | none => simp [dstOf, hoj] at hj
              | some oj => exact h.quiet j oj t hoj hje (by simpa [dstOf, hoj] using hj) hjl
            · rw [Lf_get_none _ fun k hk _ e => by have := R.dis k j t e hj; omega]
              refine h.rest t fun k ok hok hkl e => ?_
              have hkj : k = j := R.dis k j t (by simp [dstOf, hok, e]) hj
              subst hkj
              obtain ⟨e', hem, heb, hon⟩ := waits_iff.1 hw
              have := h.closed k oj hoj hkl e' hem heb
              rw [hon, listed_both hun] at this
              cases this
          · rw [Lf_get_none _ fun k _ _ e => hj ⟨k, e⟩]
            exact h.rest t fun k ok hok _ e => hj ⟨k, by simp [dstOf, hok, e]⟩
        rcases hy with ⟨hw, hx⟩ | ⟨hw, hu⟩
        · rw [if_pos hw]
          left
          have hx' := hx ⟨W, h.bel⟩
          unfold xAt at hx'
          unfold Oper.wp
          generalize (execOp a.eval o).run P W = r at hx'
          cases r with
          | ok nx W' =>
            cases nx <;> simp only [xUpon] at hx' <;> simp only [Oper.upon]
            case value u =>
              obtain ⟨e1, e2⟩ := hx'
              rw [e1, e2]
              exact ih _ _ _ β (h.quiet_step R hn ho he hall (Ext.refl _)) hc'
            case skip =>
              obtain ⟨e1, e2⟩ := hx'
              rw [e1, ← e2]
              exact ih _ _ _ β (h.quiet_step R hn ho he hall (Ext.refl _)) hc'
            case enter f args =>
              obtain ⟨e1, hcall⟩ := hx'
              rw [e1]
              exact hcall.mono fun e W'' ⟨he', hw''⟩ => by
                subst he'
                exact ih _ _ _ β (h.quiet_step R hn ho he hall hw'') hc'
          | halt x W' => simp only [xUpon] at hx'
        · rw [if_neg (by rw [hw]; decide), ← hu]
          exact ih _ _ _ β (h.quiet_step R hn ho he hall (Ext.refl _)) hc'
      | true =>
        obtain ⟨m, hm, hmi | hmi⟩ := isEff_iff.1 he
        · subst hmi
          obtain ⟨o', ho', hd', hg', _⟩ := R.alc m hm
          rw [ho] at ho'
          cases ho'
          rw [if_pos (by simp [Region.wanted, hg'])]
          left
          unfold Oper.wp
          rw [hal m hm o ho a.eval W]
          simp only [Oper.upon]
          rw [hd']
          exact ih _ _ _ _ (h.alloc_step R hn hm (listed_both hun) (fun o2 ho2 => by rw [ho] at ho2; cases ho2; exact hall)) hc'
        · subst hmi
          obtain ⟨o', ho', hd', hg', hop, hw, hxj⟩ := R.sto m hm
          rw [ho] at ho'
          cases ho'
          obtain ⟨e0, he0, hb0, hon0⟩ := waits_iff.1 hw
          have hail := hall e0 he0 hb0
          rw [hon0] at hail
          obtain ⟨b1, b2, b3⟩ := h.blk m hm hail
          rw [if_neg (by rw [listed_both hun]; decide)] at b3
          obtain ⟨f1, f2, f3⟩ := hf m hm
          have hed : a.eval (.tmp m.d) = .pointer (some ⟨β m.ai, 0, none⟩) := by
            have := h.slot m hm hail
            simp [Act.eval, this]
          have hex : a.eval (.tmp m.x) = fin ops ms vs a0 m := by
            unfold fin
            have hsame : a.tmps[m.x]? = (Lf ops ms vs a0 ops.size).tmps[m.x]? := by
              by_cases hj : ∃ j, dstOf ops j = some m.x
              · obtain ⟨j, hj⟩ := hj
                obtain ⟨hje, hwj⟩ := hxj j hj
                obtain ⟨e, hem, heb, hon⟩ := waits_iff.1 hwj
                have hjl := hall e hem heb
                rw [hon] at hjl
                rw [Lf_get_some hj hje (by rw [← hn]; exact R.lt j m.x hj) (fun k hk e => hk (R.dis k j m.x e hj)) _ (dst_lt hj)]
                cases hoj : ops[j]? with
                | none => simp [dstOf, hoj] at hj
                | some oj => exact h.quiet j oj m.x hoj hje (by simpa [dstOf, hoj] using hj) hjl
              · rw [Lf_get_none _ fun k _ _ e => hj ⟨k, e⟩]
                exact h.rest m.x fun k ok hok _ e => hj ⟨k, by simp [dstOf, hok, e]⟩
            simp [Act.eval, hsame]
          obtain ⟨nx, hrun, hnx⟩ := run_store_block (P := P) b3 f1 f2 f3 hop hed hex
          rw [if_pos (by simp [Region.wanted, hg'])]
          left
          unfold Oper.wp
          rw [hrun]
          have hstep := ih _ _ _ _ (h.store_step R hm hail (fun o2 ho2 => by rw [ho] at ho2; cases ho2; exact hall)) hc'
          rcases hnx with rfl | ⟨u, rfl⟩ <;> simp only [Oper.upon, hd', Act.put] <;> exact hstep

/-- THE REGION: the closed check; the walk in the text's order, the new variables' operations passed by; behind it, whatever blocks they lie in. -/
theorem wp_region_mk {id : Nat} {Q : Exit → Act → World → Prop} {l : List Oper} (ms : List Mk) (hm : P.follows .mixedOrders = true) (hok : regionOk l.toArray ms a0.tmps.size = true)
    (hal : ∀ m ∈ ms, ∀ o, l.toArray[m.ai]? = some o → ∀ (ρ : Operand → Value) (W : World), (execOp ρ o).run P W = .ok (.value (.pointer (some ⟨W.heap.size, 0, none⟩))) (W.alloc (.cells m.z m.t)))
    (h : wpX P w l.toArray ms (fun a' => (∀ m ∈ ms, (P.info? m.t).map (·.size) = some (a'.tmps.getD m.x undef).cells.size ∧ m.z.size = (a'.tmps.getD m.x undef).cells.size ∧ (a'.tmps.getD m.x undef).cells.all (·.oneCell') = true) ∧
      ∀ (β : Nat → Nat) (W : World), Below w.heap.size w W → (∀ m ∈ ms, w.heap.size ≤ β m.ai ∧ β m.ai < W.heap.size ∧ W.heap[β m.ai]? = some (.cells (a'.tmps.getD m.x undef).cells m.t (0, 0))) →
        (∀ m ∈ ms, ∀ m' ∈ ms, m.ai ≠ m'.ai → β m.ai ≠ β m'.ai) → Q .normal (putAll β ms a') W) 0 l a0) : (Code.region id l.toArray true).wp P Q a0 w := by
  obtain ⟨us, hv, hfq, hQ⟩ := wpX_vals (ops := l.toArray) l 0 (fun _ => undef) (fun j => by simp) (by simp) h (fun i o hi => absurd hi (by omega))
  refine wp_region_any hm ?_
  refine any_mk (regionOk_spec hok) rfl hal hv hfq hQ _ _ _ _ (fun _ => 0) ⟨by simp, fun j oj _ hl => ?_, rfl, rfl, ⟨rfl, rfl, rfl, Nat.le_refl _, fun _ _ => rfl⟩, fun i o d _ _ _ hl => ?_, fun t _ => rfl, fun m _ hl => ?_, fun m _ hl => ?_, fun m _ _ _ hl => ?_⟩ ?_
  · rw [repl_false] at hl; cases hl
  · rw [repl_false] at hl; cases hl
  · rw [repl_false] at hl; cases hl
  · rw [repl_false] at hl; cases hl
  · rw [repl_false] at hl; cases hl
  · exact unl_le _ _
end
attribute [go_sem] xAt xUpon
theorem wpX_nil {P : Program} {w : World} {ops : Array Oper} {ms : List Mk} {Q : Act → Prop} {k : Nat} {a : Act} (h : Q a) : wpX P w ops ms Q k [] a := h
/-- What is known of one new variable. -/
structure Made (W : World) (b : Nat) (t : TypeId) (cs : Array Value) : Prop where
  blk : W.heap[b]? = some (.cells cs t (0, 0))
theorem Made.cell {W : World} {b : Nat} {t : TypeId} {cs : Array Value} (h : Made W b t cs) (i : Nat) : W.cell? ⟨b, i, none⟩ = cs[i]? := cell_of_row W b i cs t (0, 0) h.blk
theorem Made.frozen {W : World} {b : Nat} {t : TypeId} {cs : Array Value} (h : Made W b t cs) (i : Nat) : W.frozen? ⟨b, i, none⟩ = false := frozen_of_row W b i cs t h.blk
theorem Made.lt {W : World} {b : Nat} {t : TypeId} {cs : Array Value} (h : Made W b t cs) : b < W.heap.size := (Array.getElem?_eq_some_iff.1 h.blk).1
theorem mk_one {w : World} {m : Mk} {a' : Act} {P : Act → World → Prop}
    (h : ∀ (b : Nat) (δ : BExt w), w.heap.size ≤ b → Made δ.wd b m.t (a'.tmps.getD m.x undef).cells → P (a'.put (some m.d) (.pointer (some ⟨b, 0, none⟩))) δ.wd) :
    ∀ (β : Nat → Nat) (W : World), Below w.heap.size w W → (∀ m' ∈ [m], w.heap.size ≤ β m'.ai ∧ β m'.ai < W.heap.size ∧ W.heap[β m'.ai]? = some (.cells (a'.tmps.getD m'.x undef).cells m'.t (0, 0))) →
        (∀ m' ∈ [m], ∀ m'' ∈ [m], m'.ai ≠ m''.ai → β m'.ai ≠ β m''.ai) → P (putAll β [m] a') W := by
  intro β W hW hb _
  obtain ⟨h1, _, h3⟩ := hb m (by simp)
  exact h (β m.ai) ⟨W, hW⟩ h1 ⟨h3⟩
theorem mk_two {w : World} {m n : Mk} {a' : Act} {P : Act → World → Prop} (hmn : m.ai ≠ n.ai)
    (h : ∀ (b c : Nat) (δ : BExt w), w.heap.size ≤ b → w.heap.size ≤ c → b ≠ c → Made δ.wd b m.t (a'.tmps.getD m.x undef).cells → Made δ.wd c n.t (a'.tmps.getD n.x undef).cells → P ((a'.put (some m.d) (.pointer (some ⟨b, 0, none⟩))).put (some n.d) (.pointer (some ⟨c, 0, none⟩))) δ.wd) :
    ∀ (β : Nat → Nat) (W : World), Below w.heap.size w W → (∀ m' ∈ [m, n], w.heap.size ≤ β m'.ai ∧ β m'.ai < W.heap.size ∧ W.heap[β m'.ai]? = some (.cells (a'.tmps.getD m'.x undef).cells m'.t (0, 0))) →
        (∀ m' ∈ [m, n], ∀ m'' ∈ [m, n], m'.ai ≠ m''.ai → β m'.ai ≠ β m''.ai) → P (putAll β [m, n] a') W := by
  intro β W hW hb hi
  obtain ⟨h1, _, h3⟩ := hb m (by simp)
  obtain ⟨k1, _, k3⟩ := hb n (by simp)
  exact h (β m.ai) (β n.ai) ⟨W, hW⟩ h1 k1 (hi m (by simp) n (by simp) hmn) ⟨h3⟩ ⟨k3⟩
theorem wpX_stepK {P : Program} {w : World} {ops : Array Oper} {ms : List Mk} {Q : Act → Prop} {k : Nat} {o : Oper} {rest : List Oper} {a : Act} (he : isEff ms k = false) (hw : Region.wanted o (yielded ops a.tmps) = true)
    (h : ∀ K : Act → Prop, (∀ a, wpX P w ops ms Q (k + 1) rest a → K a) → ∃ v, (∀ δ : BExt w, xAt P o a δ.wd v) ∧ K (a.put o.dst v)) : wpX P w ops ms Q k (o :: rest) a :=
  wpX_step he hw (h _ fun _ h => h)
end
end Go.Proofs.YtkjgcmdabelohaaGreat

namespace Go.Proofs.YtkjgcmdabelohaaGreat
open Go.RowKit

section
variable {α β : Type} {K : EK α} {K' : EK β}

/-- Two slices of own blocks with other elements do not share their block. -/
theorem own_ne {B B' : Nat} {w : World} {v v' : Value} {xs : List α} {ys : List β} (h : K.Own B w v xs) (h' : K'.Own B' w v' ys) (hne : K.ty ≠ K'.ty) : v.ownBlock = none ∨ v.ownBlock ≠ v'.ownBlock := by
  rcases h.2 with ⟨rfl, _⟩ | ⟨g, cap, cur, rfl, _, hg, _⟩
  · exact .inl rfl
  · rcases h'.2 with ⟨rfl, _⟩ | ⟨g', cap', cur', rfl, _, hg', _⟩
    · exact .inr (by simp [Value.ownBlock])
    · refine .inr fun e => ?_
      simp only [Value.ownBlock, Option.some.injEq] at e
      subst e
      rw [hg] at hg'
      simp only [Option.some.injEq, Obj.cells.injEq] at hg'
      exact hne hg'.2.1

theorem len_two {γ : Type} {l : List γ} (h : l.length = 2) : ∃ a b, l = [a, b] := by
  match l, h with
  | [a, b], _ => exact ⟨a, b, rfl⟩
theorem flat_set1 (hk : K.k = 1) (y : α) (u : Value) (hu : K.enc y = [u]) : ∀ (xs : List α) (j : Nat), j < xs.length → (xs.set j y).flatMap K.enc = (xs.flatMap K.enc).set j u
  | x :: xs, 0, _ => by
    obtain ⟨a, ha⟩ := List.length_eq_one_iff.1 ((K.len x).trans hk)
    simp [hu, ha]
  | x :: xs, j + 1, h => by
    obtain ⟨a, ha⟩ := List.length_eq_one_iff.1 ((K.len x).trans hk)
    have := flat_set1 hk y u hu xs j (by simpa using h)
    simp [ha, this]
theorem flat_set2 (hk : K.k = 2) (y : α) (u0 u1 : Value) (hu : K.enc y = [u0, u1]) : ∀ (xs : List α) (j : Nat), j < xs.length → (xs.set j y).flatMap K.enc = ((xs.flatMap K.enc).set (j * 2) u0).set (j * 2 + 1) u1
  | x :: xs, 0, _ => by
    obtain ⟨a, b, ha⟩ := len_two ((K.len x).trans hk)
    simp [hu, ha]
  | x :: xs, j + 1, h => by
    obtain ⟨a, b, ha⟩ := len_two ((K.len x).trans hk)
    have := flat_set2 hk y u0 u1 hu xs j (by simpa using h)
    rw [show (j + 1) * 2 = j * 2 + 1 + 1 by omega]
    simp [ha, this]

/-- The slot of an element. -/
theorem EK.Own.slot {B : Nat} {w : World} {v : Value} {xs : List α} (h : K.Own B w v xs) {j : Nat} (hj : j < xs.length) :
    ∃ g c, v = .slice (some ⟨g, 0, none⟩) xs.length c ∧ B ≤ g ∧ g < w.heap.size ∧ (∀ i u, (K.enc xs[j])[i]? = some u → w.cell? ⟨g, j * K.k + i, none⟩ = some u) ∧ ∀ o, w.frozen? ⟨g, o, none⟩ = false := by
  have h' := h
  rcases h'.2 with ⟨rfl, h0⟩ | ⟨g, cap, cur, rfl, hb, hg, hn, hm, hs, ht⟩
  · omega
  · refine ⟨g, cap, rfl, hb, (Array.getElem?_eq_some_iff.1 hg).1, fun i u hu => ?_, World.ownsRow.frozenAt h⟩
    have hi : i < K.k := by rw [← K.len xs[j]]; exact (List.getElem?_eq_some_iff.1 hu).1
    have := World.ownsRow.cells h (g := g) rfl (j * K.k + i) u (by rw [flat_at K xs j hj i hi]; exact hu)
    simp only [Addr.add] at this
    split at this
    · rename_i h0
      rw [h0]
      exact this
    · simpa using this
theorem EK.Own.put1 {B : Nat} {w : World} {g c : Nat} {xs : List α} (h : K.Own B w (.slice (some ⟨g, 0, none⟩) xs.length c) xs) {j : Nat} (hj : j < xs.length) (hk : K.k = 1) (y : α) (u : Value) (hu : K.enc y = [u]) :
    K.Own B (w.setCell ⟨g, j, none⟩ u) (.slice (some ⟨g, 0, none⟩) xs.length c) (xs.set j y) := by
  have := (World.ownsRow.stored h j u).1
  rw [← flat_set1 hk y u hu xs j hj] at this
  simpa [EK.Own] using this
theorem EK.Own.put2 {B : Nat} {w : World} {g c : Nat} {xs : List α} (h : K.Own B w (.slice (some ⟨g, 0, none⟩) xs.length c) xs) {j : Nat} (hj : j < xs.length) (hk : K.k = 2) (y : α) (u0 u1 : Value) (hu : K.enc y = [u0, u1]) :
    K.Own B ((w.setCell ⟨g, j * 2, none⟩ u0).setCell ⟨g, j * 2 + 1, none⟩ u1) (.slice (some ⟨g, 0, none⟩) xs.length c) (xs.set j y) := by
  have := (World.ownsRow.stored (World.ownsRow.stored h (j * 2) u0).1 (j * 2 + 1) u1).1
  rw [← flat_set2 hk y u0 u1 hu xs j hj] at this
  simpa [EK.Own] using this
theorem EK.Own.put1N {B : Nat} {w : World} {g c N : Nat} {xs : List α} (h : K.Own B w (.slice (some ⟨g, 0, none⟩) N c) xs) (hl : xs.length = N) {j : Nat} (hj : j < N) (hk : K.k = 1) (y : α) (u : Value) (hu : K.enc y = [u]) :
    K.Own B (w.setCell ⟨g, j, none⟩ u) (.slice (some ⟨g, 0, none⟩) N c) (xs.set j y) := by
  subst hl
  exact h.put1 hj hk y u hu
theorem EK.Own.put2N {B : Nat} {w : World} {g c N : Nat} {xs : List α} (h : K.Own B w (.slice (some ⟨g, 0, none⟩) N c) xs) (hl : xs.length = N) {j : Nat} (hj : j < N) (hk : K.k = 2) (y : α) (u0 u1 : Value) (hu : K.enc y = [u0, u1]) :
    K.Own B ((w.setCell ⟨g, j * 2, none⟩ u0).setCell ⟨g, j * 2 + 1, none⟩ u1) (.slice (some ⟨g, 0, none⟩) N c) (xs.set j y) := by
  subst hl
  exact h.put2 hj hk y u0 u1 hu
theorem grown_set (W : World) (g o : Nat) (u : Value) : W.grownBy (W.setCell ⟨g, o, none⟩ u) (some g) :=
  ⟨rfl, rfl, rfl, by simp, fun i _ hi => heap_setCell_other W ⟨g, o, none⟩ i _ (fun e => hi (by simp [e]))⟩
/-- A slice in another block stays. -/
theorem EK.Own.oth {B : Nat} {w : World} {v : Value} {xs : List α} (h : K.Own B w v xs) {g o : Nat} {u : Value} (hne : v.ownBlock = none ∨ v.ownBlock ≠ some g) : K.Own B (w.setCell ⟨g, o, none⟩ u) v xs := h.kept (grown_set w g o u) hne
end
theorem Acc.after {α : Type} {K : EK α} {W0 W W1 W2 : World} {Bx off : Nat} {ans : List α} {sv : Value} (hA : Acc K W0 Bx off ans W) (hc : W.cell? ⟨Bx, off, none⟩ = some sv) (ho : K.Own W0.heap.size W sv ans) (x : Ext W W1) (g : W1.grownBy W2 sv.ownBlock) :
    W2.cell? ⟨Bx, off, none⟩ = some sv ∧ W2.frozen? ⟨Bx, off, none⟩ = false ∧ Bx < W2.heap.size := by
  have e2 := x.cell_some hc
  have hne : ∀ r, sv.ownBlock = some r → Bx ≠ r := fun r e => by have h1 := (ho.lt r e).1; have h2 := hA.lt; omega
  have e3 := g.cell e2 (fun e => hne _ e.symm rfl)
  refine ⟨e3, ?_, cell_lt e3⟩
  rw [← x.frozen hc hA.fr]
  exact World.frozen?_of_block (g.block Bx (cell_lt e2) (fun e => hne _ e.symm rfl))
/-- A block that was made second. -/
theorem cell_new1 {w : World} {o : Obj} {cs : Array Value} {T : TypeId} {i : Nat} {u : Value} (h : cs.toList[i]? = some u) : ((w.alloc o).alloc (.cells cs T)).cell? ⟨w.heap.size + 1, i, none⟩ = some u := by
  have := cell_new (w := w.alloc o) (T := T) h
  simpa using this
/-- Blocks that are not the slice's own. -/
theorem Acc.notin {α : Type} {K : EK α} {W0 W : World} {ans : List α} {sv : Value} (ho : K.Own W0.heap.size W sv ans) {b : Nat} (hb : b < W0.heap.size ∨ W.heap.size ≤ b) : b ∉ sv.ownBlock.toList :=
  notin_own (fun g hg => by have := ho.lt g hg; omega)
end Go.Proofs.YtkjgcmdabelohaaGreat
