/- A range over a function whose body appends one element a round to a slice that lies in a box. No condition. -/
import Derived.Test.YtkjgcmdabelohaaElem
import Derived.RangeFuncNested
import Derived.RangeFuncBound
import Derived.RangeFuncCalls
import Derived.RangeFuncLeaves
import Derived.TacticsInMore
import Derived.LoopNIn
import Derived.LoopIn
namespace Go.Proofs.Ytkjgcmdabelohaa
open Go.RowKit

/-- All blocks but those of D lie as they lay. -/
structure But (D : List Nat) (w w' : World) : Prop where
  os : w'.os = w.os
  tape : w'.tape = w.tape
  output : w'.output = w.output
  size : w.heap.size ≤ w'.heap.size
  block : ∀ i, i < w.heap.size → i ∉ D → w'.heap[i]? = w.heap[i]?
theorem But.refl (D : List Nat) (w : World) : But D w w := ⟨rfl, rfl, rfl, Nat.le_refl _, fun _ _ _ => rfl⟩
theorem But.ext {D : List Nat} {w a b : World} (h : But D w a) (x : Ext a b) : But D w b :=
  ⟨x.bel.os.trans h.os, x.bel.tape.trans h.tape, x.bel.output.trans h.output, Nat.le_trans h.size x.bel.size, fun i hi hd => (x.bel.block i (Nat.lt_of_lt_of_le hi h.size)).trans (h.block i hi hd)⟩
theorem But.grown {D : List Nat} {w a b : World} {row : Option Nat} (h : But D w a) (g : a.grownBy b row) (hr : ∀ r, row = some r → r ∈ D ∨ w.heap.size ≤ r) : But D w b :=
  ⟨g.os.trans h.os, g.tape.trans h.tape, g.output.trans h.output, Nat.le_trans h.size g.size, fun i hi hd => (g.block i (Nat.lt_of_lt_of_le hi h.size) (fun e => by
    rcases hr i e.symm with hr | hr
    · exact hd hr
    · omega)).trans (h.block i hi hd)⟩
theorem But.cell {D : List Nat} {w a : World} (h : But D w a) {b o : Nat} {v : Value} (hc : w.cell? ⟨b, o, none⟩ = some v) (hd : b ∉ D) : a.cell? ⟨b, o, none⟩ = some v := by
  rw [← hc]
  have := h.block b (cell_lt hc) hd
  simp [World.cell?, this]
theorem But.setCell {D : List Nat} {w a : World} (h : But D w a) {p : Addr} (hp : p.block ∈ D) (u : Value) : But D w (a.setCell p u) :=
  ⟨h.os, h.tape, h.output, by simpa using h.size, fun i hi hd => (heap_setCell_other a p i u (fun e => hd (by rw [e]; exact hp))).trans (h.block i hi hd)⟩
/-- What lay below all of D lies on. -/
theorem But.below {D : List Nat} {w0 w a : World} (h : But D w a) (x : Ext w0 w) (hD : ∀ d ∈ D, w0.heap.size ≤ d) : Ext w0 a := by
  have hb := x.bel
  exact .of ⟨h.os.trans hb.os, h.tape.trans hb.tape, h.output.trans hb.output, Nat.le_trans hb.size h.size, fun i hi => (h.block i (Nat.lt_of_lt_of_le hi hb.size) (fun hd => by have := hD i hd; omega)).trans (hb.block i hi)⟩

/-- The cells below B0 but the one at (Bx, off) hold what they held. -/
def KpX (Bx off B0 : Nat) (W W' : World) : Prop := ∀ b o v, b < B0 → (b ≠ Bx ∨ o ≠ off) → W.cell? ⟨b, o, none⟩ = some v → W'.cell? ⟨b, o, none⟩ = some v
theorem KpX.trans {Bx off B0 : Nat} {A B C : World} (h : KpX Bx off B0 A B) (k : KpX Bx off B0 B C) : KpX Bx off B0 A C := fun b o v hb hn hc => k b o v hb hn (h b o v hb hn hc)
theorem KpX.put {Bx off B0 : Nat} {W : World} {l : Nat} {o o' : Obj} (hl : W.heap[l]? = some o) (ho : o.isCells = false) : KpX Bx off B0 W (W.putObj l o') := fun b x v _ _ h =>
  cell_kept h (grownBy_putObj' W l o') (fun r e => by cases e; exact ⟨o, hl, ho⟩)
theorem KpX.ext {Bx off B0 : Nat} {W W' : World} (x : Ext W W') : KpX Bx off B0 W W' := fun _ _ _ _ _ h => x.cell_some h

theorem cell_set_other {W : World} {b o Bx off : Nat} {u : Value} (hne : b ≠ Bx ∨ o ≠ off) : (W.setCell ⟨Bx, off, none⟩ u).cell? ⟨b, o, none⟩ = W.cell? ⟨b, o, none⟩ := by
  refine World.cell?_setCell_other _ _ _ _ ?_
  intro h
  simp only [Addr.mk.injEq] at h
  rcases hne with h' | h'
  · exact h' h.1.symm
  · exact h' h.2.1.symm

theorem cell_set_same {W : World} {b o : Nat} {x u : Value} (h : W.cell? ⟨b, o, none⟩ = some x) : (W.setCell ⟨b, o, none⟩ u).cell? ⟨b, o, none⟩ = some u := World.cell?_setCell_same _ _ _ h
/-- A struct of two cells, of four, is stored. -/
theorem set2 {W : World} {b : Nat} {x0 x1 : Value} (h0 : W.cell? ⟨b, 0, none⟩ = some x0) (h1 : W.cell? ⟨b, 1, none⟩ = some x1) (u0 u1 : Value) :
    ((W.setCell ⟨b, 0, none⟩ u0).setCell ⟨b, 1, none⟩ u1).cell? ⟨b, 0, none⟩ = some u0 ∧ ((W.setCell ⟨b, 0, none⟩ u0).setCell ⟨b, 1, none⟩ u1).cell? ⟨b, 1, none⟩ = some u1 :=
  ⟨(cell_set_other (.inr (by decide))).trans (cell_set_same h0), cell_set_same ((cell_set_other (.inr (by decide))).trans h1)⟩
theorem set4 {W : World} {b : Nat} {x0 x1 x2 x3 : Value} (h0 : W.cell? ⟨b, 0, none⟩ = some x0) (h1 : W.cell? ⟨b, 1, none⟩ = some x1) (h2 : W.cell? ⟨b, 2, none⟩ = some x2) (h3 : W.cell? ⟨b, 3, none⟩ = some x3) (u0 u1 u2 u3 : Value) :
    ((((W.setCell ⟨b, 0, none⟩ u0).setCell ⟨b, 1, none⟩ u1).setCell ⟨b, 2, none⟩ u2).setCell ⟨b, 3, none⟩ u3).cell? ⟨b, 0, none⟩ = some u0 ∧ ((((W.setCell ⟨b, 0, none⟩ u0).setCell ⟨b, 1, none⟩ u1).setCell ⟨b, 2, none⟩ u2).setCell ⟨b, 3, none⟩ u3).cell? ⟨b, 1, none⟩ = some u1 ∧
    ((((W.setCell ⟨b, 0, none⟩ u0).setCell ⟨b, 1, none⟩ u1).setCell ⟨b, 2, none⟩ u2).setCell ⟨b, 3, none⟩ u3).cell? ⟨b, 2, none⟩ = some u2 ∧ ((((W.setCell ⟨b, 0, none⟩ u0).setCell ⟨b, 1, none⟩ u1).setCell ⟨b, 2, none⟩ u2).setCell ⟨b, 3, none⟩ u3).cell? ⟨b, 3, none⟩ = some u3 := by
  have ne : ∀ {i j : Nat}, i ≠ j → (b ≠ b ∨ i ≠ j) := fun h => .inr h
  refine ⟨?_, ?_, ?_, ?_⟩
  · rw [cell_set_other (ne (by decide)), cell_set_other (ne (by decide)), cell_set_other (ne (by decide)), cell_set_same h0]
  · rw [cell_set_other (ne (by decide)), cell_set_other (ne (by decide)), cell_set_same (x := x1) (by rw [cell_set_other (ne (by decide))]; exact h1)]
  · rw [cell_set_other (ne (by decide)), cell_set_same (x := x2) (by rw [cell_set_other (ne (by decide)), cell_set_other (ne (by decide))]; exact h2)]
  · exact cell_set_same (x := x3) (by rw [cell_set_other (ne (by decide)), cell_set_other (ne (by decide)), cell_set_other (ne (by decide))]; exact h3)

section
variable {α : Type} {K : EK α}

/-- In the box at (Bx, off) lies a slice of the loop's own that reads as ans; all else is as it was. -/
structure Acc (K : EK α) (W0 : World) (Bx off : Nat) (ans : List α) (W : World) : Prop where
  but : But [Bx] W0 W
  row : ∃ sv, W.cell? ⟨Bx, off, none⟩ = some sv ∧ K.Own W0.heap.size W sv ans
  fr : W.frozen? ⟨Bx, off, none⟩ = false
  oth : ∀ o v, o ≠ off → W0.cell? ⟨Bx, o, none⟩ = some v → W.cell? ⟨Bx, o, none⟩ = some v
  lt : Bx < W0.heap.size

theorem Acc.start {W0 : World} {Bx off : Nat} (hc : W0.cell? ⟨Bx, off, none⟩ = some (.slice none 0 0)) (hf : W0.frozen? ⟨Bx, off, none⟩ = false) : Acc K W0 Bx off [] W0 :=
  ⟨But.refl _ _, ⟨_, hc, EK.Own.nil _ _⟩, hf, fun _ _ _ h => h, cell_lt hc⟩
theorem Acc.cell {W0 W : World} {Bx off : Nat} {ans : List α} (h : Acc K W0 Bx off ans W) {b o : Nat} {v : Value} (hc : W0.cell? ⟨b, o, none⟩ = some v) (hne : b ≠ Bx ∨ o ≠ off) : W.cell? ⟨b, o, none⟩ = some v := by
  by_cases hb : b = Bx
  · subst hb
    exact h.oth o v (by simpa using hne) hc
  · exact h.but.cell hc (by simpa using hb)
theorem Acc.is {W0 W : World} {Bx off : Nat} {ans : List α} (h : Acc K W0 Bx off ans W) {β : Type} {K' : EK β} {v : Value} {xs : List β} (hv : K'.Is W0 v xs) (hb : ∀ a, v.ownBlock = some a → a ≠ Bx) : K'.Is W v xs := by
  obtain ⟨A, c, rfl, h0, hc, hr⟩ := hv
  refine ⟨A, c, rfl, h0, hc, fun j hj => ?_⟩
  obtain ⟨b, o, rfl, hlt, hcell⟩ := hr j hj
  exact ⟨b, o, rfl, Nat.lt_of_lt_of_le hlt h.but.size, fun i u hu => h.cell (hcell i u hu) (.inl (hb b rfl))⟩
theorem Acc.kept {W0 A B : World} {Bx off : Nat} {ans : List α} {row : Option Nat} (h : Acc K W0 Bx off ans A) (hg : A.grownBy B row) (hr : ∀ r, row = some r → W0.heap.size ≤ r ∧ ∃ o : Obj, A.heap[r]? = some o ∧ o.isCells = false) : Acc K W0 Bx off ans B := by
  obtain ⟨sv, h1, h2⟩ := h.row
  refine ⟨h.but.grown hg (fun r e => .inr (hr r e).1), ⟨sv, cell_kept h1 hg (fun r e => (hr r e).2), h2.kept hg ?_⟩, (frozen_kept h1 hg (fun r e => (hr r e).2)).trans h.fr, fun o v ho hc => cell_kept (h.oth o v ho hc) hg (fun r e => (hr r e).2), h.lt⟩
  rcases h2.2 with ⟨rfl, _⟩ | ⟨g, cap, cur, rfl, _, hh, _⟩
  · exact .inl rfl
  · refine .inr fun e => ?_
    obtain ⟨_, _, ho, hc⟩ := hr g e.symm
    rw [hh] at ho
    cases ho
    cases hc

/-- What a round leaves. -/
def AccStep (K : EK α) (W0 : World) (Bx off : Nat) (W : World) (sv : Value) (ans : List α) (W' : World) : Prop :=
  ∃ W1 W2 W3 v', Ext W W1 ∧ W1.grownBy W2 sv.ownBlock ∧ K.Own W0.heap.size W2 v' ans ∧ Ext W2 W3 ∧ Ext (W3.setCell ⟨Bx, off, none⟩ v') W'
def AccPost (K : EK α) (W0 : World) (Bx off : Nat) (W : World) (sv : Value) (ans : List α) : Exit → Act → World → Prop
  | .normal, _, W' => AccStep K W0 Bx off W sv ans W'
  | _, _, _ => False

theorem KeepsOthers.of_ext {W W' : World} (x : Ext W W') : KeepsOthers W W' :=
  ⟨x.bel.size, fun k _ hk _ => (x.bel.block k (Array.getElem?_eq_some_iff.1 hk).1).trans hk⟩

theorem AccStep.done {W0 W W' : World} {Bx off : Nat} {sv : Value} {ans ans' : List α} (h : Acc K W0 Bx off ans W) (hc : W.cell? ⟨Bx, off, none⟩ = some sv) (ho : K.Own W0.heap.size W sv ans) (s : AccStep K W0 Bx off W sv ans' W') :
    KeepsOthers W W' ∧ KpX Bx off W0.heap.size W W' ∧ Acc K W0 Bx off ans' W' := by
  obtain ⟨W1, W2, W3, v', x1, g, o2, x2, x3⟩ := s
  have hlt : ∀ r, sv.ownBlock = some r → W0.heap.size ≤ r := fun r e => (ho.lt r e).1
  have hBx := h.lt
  have ho1 := ho.ext x1
  have k1 : KeepsOthers W W1 := KeepsOthers.of_ext x1
  have k2 : KeepsOthers W1 W2 := KeepsOthers.of_grownBy g fun j _ e hj => by
    rcases ho1.2 with ⟨rfl, _⟩ | ⟨g, cap, cur, rfl, _, hh, _⟩
    · cases e
    · simp only [Value.ownBlock, Option.some.injEq] at e
      subst e
      rw [hh] at hj
      cases hj
      rfl
  have k3 : KeepsOthers W2 W3 := KeepsOthers.of_ext x2
  have k4 : KeepsOthers W3 (W3.setCell ⟨Bx, off, none⟩ v') := KeepsOthers.setCell _ _ _
  have k5 := KeepsOthers.of_ext x3
  have p1 : ∀ b o v, b < W0.heap.size → W.cell? ⟨b, o, none⟩ = some v → W3.cell? ⟨b, o, none⟩ = some v := fun b o v hb hc =>
    x2.cell_some (g.cell (x1.cell_some hc) (fun e => by have := hlt b e.symm; omega))
  have p2 : KpX Bx off W0.heap.size W W' := fun b o v hb hne hc => x3.cell_some ((cell_set_other hne).trans (p1 b o v hb hc))
  have e3 : W3.cell? ⟨Bx, off, none⟩ = some sv := p1 _ _ _ hBx hc
  have f3 : W3.frozen? ⟨Bx, off, none⟩ = false := by
    have f1 := x1.frozen hc h.fr
    have f2 : W2.frozen? ⟨Bx, off, none⟩ = false := by
      have := g.block Bx (cell_lt (x1.cell_some hc)) (fun e => by have := hlt Bx e.symm; omega)
      rw [← f1]
      simp [World.frozen?, this]
    exact x2.frozen (g.cell (x1.cell_some hc) (fun e => by have := hlt Bx e.symm; omega)) f2
  have e4 : (W3.setCell ⟨Bx, off, none⟩ v').cell? ⟨Bx, off, none⟩ = some v' := World.cell?_setCell_same _ _ _ e3
  refine ⟨(((k1.trans k2).trans k3).trans k4).trans k5, p2, ⟨((((h.but.ext x1).grown g (fun r e => .inr (hlt r e))).ext x2).setCell (by simp) v').ext x3, ⟨v', x3.cell_some e4, ?_⟩, x3.frozen e4 (by rw [World.frozen?_setCell]; exact f3), fun o v hne hc => p2 Bx o v hBx (.inr hne) (h.oth o v hne hc), hBx⟩⟩
  refine ((o2.ext x2).kept (grownBy_setCell3 W3 Bx off v') ?_).ext x3
  rcases h' : v'.ownBlock with _ | g'
  · exact .inl rfl
  · refine .inr fun e => ?_
    have := (o2.lt g' h').1
    simp only [Option.some.injEq] at e
    omega
where grownBy_setCell3 (W : World) (b o : Nat) (v : Value) : W.grownBy (W.setCell ⟨b, o, none⟩ v) (some b) :=
  ⟨rfl, rfl, rfl, by simp, fun i _ hi => heap_setCell_other W ⟨b, o, none⟩ i _ (fun e => hi (by simp [e]))⟩

theorem wpIn_rangeFunc_acc {F : Fence} {nn : Nat} {g : Operand} {ps : Array Tmp} {assign body : Code} {Q : Exit → Act → World → Prop} {a : Act} {W0 : World} {Bx off N : Nat} (f : Nat → α)
    (hro : F.round = none) (h1 : 1 ≤ nn) {gf : Nat} {lb : Array Value} (hg : a.eval g = .func (.func gf) #[] lb) (hFg : F.fn gf) (eg : ∀ args w, (callFunc gf args).run Try.prog w = .ok (.enter gf args) w)
    {encs : Fin N → Array Value} (hseq : SeqStopsK F (nn - 1) Try.prog gf lb encs (KpX Bx off W0.heap.size) (fun ys => ys.map Fin.val = List.range N) (fun _ => True) N W0) (hps : ∀ x, (encs x).size = ps.size)
    (hc : W0.cell? ⟨Bx, off, none⟩ = some (.slice none 0 0)) (hf : W0.frozen? ⟨Bx, off, none⟩ = false) (a₁ : Fin N → Act)
    (hassign : ∀ (l : Nat) (x : Fin N) (W : World) (K : Act → World → Prop), K (a₁ x) W →
      assign.wpIn (F.inRound l) (nn - 1 - 1) Try.prog (Exit.then K (fun _ _ _ => False)) { tmps := (ps.zip (encs x)).foldl (fun t (p, v) => t.setIfInBounds p v) a.tmps, defers := [] } W)
    (hbody : ∀ (l : Nat) (ans : List α) (x : Fin N) (W : World) (sv : Value), ans.length < N → Acc K W0 Bx off ans W → W.cell? ⟨Bx, off, none⟩ = some sv → K.Own W0.heap.size W sv ans →
      body.wpIn (F.inRound l) (nn - 1 - 1) Try.prog (AccPost K W0 Bx off W sv (ans ++ [f x])) (a₁ x) W)
    (hdone : ∀ (D : Nat) (W : World) (sv : Value), W0.heap.size ≤ D → Acc K W0 Bx off ((List.range N).map f) W → W.cell? ⟨Bx, off, none⟩ = some sv → K.Own W0.heap.size W sv ((List.range N).map f) → W.heap[D]? = some (.deferred (some [])) →
      Q .normal { a with defers := { target := .collected D, args := #[] } :: a.defers } W) :
    (Code.rangeFunc g ps assign body).wpIn F nn Try.prog Q a W0 := by
  refine wpIn_rangeFunc_ownG hro h1 hg hFg eg hseq KpX.trans (fun _ _ _ _ _ h1 h2 _ => KpX.put h1 h2) (Below.refl _ _) hps
    (fun pre W => Acc K W0 Bx off (pre.map fun x : Fin N => f x.val) W) (fun _ _ _ => False) (fun s A B row hs hg hr => hs.kept hg hr) (fun _ _ _ _ _ hs _ _ => hs) (Acc.start hc hf) a₁ hassign ?_ ?_ ?_
  · intro l pre x W hA hlen
    obtain ⟨sv, h2, h3⟩ := hA.row
    refine wpIn_mono (hbody l _ x W sv (by simpa using hlen) hA h2 h3) ?_
    intro e a' W' hp
    cases e with
    | normal =>
      obtain ⟨q1, q2, q3⟩ := AccStep.done hA h2 h3 hp
      exact ⟨q1.from _, q2, by simpa using q3⟩
    | ret => exact hp.elim
    | exit id => exact hp.elim
    | goto t => exact hp.elim
    | panic ch => exact hp.elim
    | outgrown => exact hp.elim
  · intro D xs W hD hS hA hK
    have he : (xs.map fun x => f x.val) = (List.range N).map f := by
      rw [← hS, List.map_map]; rfl
    rw [he] at hA
    obtain ⟨sv, h2, h3⟩ := hA.row
    exact hdone D W sv hD hA h2 h3 hK
  · intro D c pre W _ _ h
    exact h.elim
end

/-- A function that held ranges over functions leaves: its marks are shut. -/
def marksOf (Ds : List Nat) : List Deferred := Ds.map fun D => { target := .collected D, args := #[] }
structure PutAt (Ds : List Nat) (W W' : World) : Prop where
  os : W'.os = W.os
  tape : W'.tape = W.tape
  output : W'.output = W.output
  size : W'.heap.size = W.heap.size
  block : ∀ i, i ∉ Ds → W'.heap[i]? = W.heap[i]?

theorem leaves_marks {F : Fence} {n : Nat} {P : Program} {fn : Func} {tmps : Array Value} {R : Ending → World → Prop} : ∀ (Ds : List Nat) (W : World), Ds.Nodup → (∀ D ∈ Ds, W.heap[D]? = some (.deferred (some []))) →
    (∀ W', PutAt Ds W W' → LeavesIn F n P fn tmps R [] .returning W') → LeavesInM F n P fn tmps R (marksOf Ds) .returning W
  | [], W, _, _, h => h W ⟨rfl, rfl, rfl, rfl, fun _ _ => rfl⟩
  | D :: Ds, W, hd, hD, h => by
    refine ⟨by simp, .inl ⟨D, _, rfl, run_takeDeferred (hD D (by simp)), ?_⟩⟩
    have hn := List.nodup_cons.1 hd
    refine leaves_marks Ds _ hn.2 (fun E hE => ?_) (fun W' hW => h W' ⟨hW.os, hW.tape, hW.output, hW.size.trans (by simp), fun i hi => ?_⟩)
    · rw [World.putObj_heap_other (fun e => hn.1 (by rw [← e]; exact hE))]
      exact hD E (by simp [hE])
    · simp only [List.mem_cons, not_or] at hi
      rw [hW.block i hi.2, World.putObj_heap_other hi.1]

theorem lay_in {F : Fence} {n : Nat} {P : Program} {c : Code} {Q : Exit → Act → World → Prop} {a : Act} {X : World} (G : World → Prop) (hG : G X) (h : ∀ W, G W → Code.wpIn F n P c Q a W) : Code.wpIn F n P c Q a X := h X hG
theorem PutAt.ext {w W W' : World} {Ds : List Nat} (h : PutAt Ds W W') (x : Ext w W) (hD : ∀ d ∈ Ds, w.heap.size ≤ d) : Ext w W' := by
  have hb := x.bel
  exact .of ⟨h.os.trans hb.os, h.tape.trans hb.tape, h.output.trans hb.output, by rw [h.size]; exact hb.size, fun i hi => (h.block i fun hg => by have := hD i hg; omega).trans (hb.block i hi)⟩
theorem EK.Own.put {α : Type} {K : EK α} {B : Nat} {W W' : World} {v : Value} {xs : List α} {Ds : List Nat} (h : K.Own B W v xs) (hW : PutAt Ds W W') (hD : ∀ D ∈ Ds, W.heap[D]? = some (.deferred (some []))) : K.Own B W' v xs := by
  refine ⟨h.1, ?_⟩
  rcases h.2 with hn | ⟨g, cap, cur, hv, hb, hh, rest⟩
  · exact .inl hn
  · refine .inr ⟨g, cap, cur, hv, hb, (hW.block g fun hg => ?_).trans hh, rest⟩
    rw [hD g hg] at hh
    cases hh
/-- Cells that lay, lie: those of the blocks of S. -/
def Cells (S : Nat → Prop) (W W' : World) : Prop := W.heap.size ≤ W'.heap.size ∧ ∀ b o v, S b → W.cell? ⟨b, o, none⟩ = some v → W'.cell? ⟨b, o, none⟩ = some v
theorem EK.Is.cells {α : Type} {K : EK α} {S : Nat → Prop} {W W' : World} {v : Value} {xs : List α} (h : K.Is W v xs) (c : Cells S W W') (hS : ∀ b, b < W.heap.size → S b) : K.Is W' v xs := by
  obtain ⟨A, cp, rfl, h0, hc, hr⟩ := h
  refine ⟨A, cp, rfl, h0, hc, fun j hj => ?_⟩
  obtain ⟨b, o, hA, hb, hcell⟩ := hr j hj
  exact ⟨b, o, hA, Nat.lt_of_lt_of_le hb c.1, fun i u hu => c.2 b _ _ (hS b hb) (hcell i u hu)⟩
theorem EK.Is.blk {α : Type} {K : EK α} {w : World} {v : Value} {xs : List α} (h : K.Is w v xs) (hn : 1 ≤ xs.length) : ∀ a, v.ownBlock = some a → a < w.heap.size := fun a ha => by
  obtain ⟨A, cp, rfl, h0, hc, hr⟩ := h
  obtain ⟨b, o, rfl, hb, _⟩ := hr 0 hn
  simp only [Value.ownBlock, Option.some.injEq] at ha
  omega
theorem PutAt.cell {W W' : World} {Ds : List Nat} (hW : PutAt Ds W W') (hD : ∀ D ∈ Ds, W.heap[D]? = some (.deferred (some []))) {b o : Nat} {v : Value} (hc : W.cell? ⟨b, o, none⟩ = some v) : W'.cell? ⟨b, o, none⟩ = some v := by
  rw [← hc]
  have := hW.block b fun hg => by
    have h1 := hD b hg
    simp [World.cell?, h1] at hc
  simp [World.cell?, this]
theorem PutAt.cells {W W' : World} {Ds : List Nat} (hW : PutAt Ds W W') (hD : ∀ D ∈ Ds, W.heap[D]? = some (.deferred (some []))) : Cells (fun _ => True) W W' :=
  ⟨by rw [hW.size]; exact Nat.le_refl _, fun _ _ _ _ h => hW.cell hD h⟩
theorem mark_one {W : World} {D : Nat} (h : W.heap[D]? = some (.deferred (some []))) : ∀ D' ∈ [D], W.heap[D']? = some (.deferred (some [])) := fun D' h' => by rw [List.mem_singleton.1 h']; exact h
end Go.Proofs.Ytkjgcmdabelohaa
