/- pattern.search from one program to another with the same phases, modulo the period, with no mirror and no way back: the move that leaves all where it is. Condition: the benches lie there. -/
import Derived.Test.YtkjgcmdabelohaaLay
import Derived.Test.YtkjgcmdabelohaaProg
import Derived.Test.YtkjgcmdabelohaaElem
import Derived.BigGuardPart
import Derived.Test.YtkjgcmdabelohaaQS
import Derived.Test.YtkjgcmdabelohaaPOff
import Derived.Scope
namespace Go.Proofs.Ytkjgcmdabelohaa
section
/- RfQ: RfQ: Ranges over functions that go on reading where the round was left (the generic part of GSegs). No condition. -/
section
/- RfQ: Ranges over functions that go on reading where the round was left: the contract of the function keeps what lay in both ways. No condition. -/
section
/- RfSt: Ranges over functions whose body turns the cells of a few boxes, and may return. No condition. -/
open Go.RowKit

def CellsAt (cs : List (Nat × Nat × Value)) (W : World) : Prop := ∀ t ∈ cs, W.cell? ⟨t.1, t.2.1, none⟩ = some t.2.2 ∧ W.frozen? ⟨t.1, t.2.1, none⟩ = false
def KpD (D : List Nat) (B0 : Nat) (W W' : World) : Prop := ∀ b o v, b < B0 → b ∉ D → W.cell? ⟨b, o, none⟩ = some v → W'.cell? ⟨b, o, none⟩ = some v
theorem KpD.trans {D : List Nat} {B0 : Nat} {A B C : World} (h : KpD D B0 A B) (k : KpD D B0 B C) : KpD D B0 A C := fun b o v hb hn hc => k b o v hb hn (h b o v hb hn hc)
theorem KpD.put {D : List Nat} {B0 : Nat} {W : World} {l : Nat} {o o' : Obj} (hl : W.heap[l]? = some o) (ho : o.isCells = false) : KpD D B0 W (W.putObj l o') := fun _ _ _ _ _ h =>
  cell_kept h (grownBy_putObj' W l o') (fun r e => by cases e; exact ⟨o, hl, ho⟩)
theorem But.kpD {D : List Nat} {W W' : World} (h : But D W W') (B0 : Nat) : KpD D B0 W W' := fun _ _ _ _ hn hc => h.cell hc hn
theorem CellsAt.grown {cs : List (Nat × Nat × Value)} {A B : World} {row : Option Nat} (h : CellsAt cs A) (hg : A.grownBy B row) (hr : ∀ r, row = some r → ∃ o : Obj, A.heap[r]? = some o ∧ o.isCells = false) : CellsAt cs B := fun t ht => by
  obtain ⟨h1, h2⟩ := h t ht
  exact ⟨cell_kept h1 hg hr, (frozen_kept h1 hg hr).trans h2⟩
theorem CellsAt.ext {cs : List (Nat × Nat × Value)} {A B : World} (h : CellsAt cs A) (x : Ext A B) : CellsAt cs B := h.grown (x.grow none) (fun r e => by cases e)

/-- All but the boxes D lies as it lay; these cells hold what they hold. -/
structure StAt (D : List Nat) (W0 : World) (cs : List (Nat × Nat × Value)) (W : World) : Prop where
  but : But D W0 W
  cells : CellsAt cs W
theorem StAt.grown {D : List Nat} {W0 A B : World} {cs : List (Nat × Nat × Value)} {row : Option Nat} (h : StAt D W0 cs A) (hg : A.grownBy B row) (hr : ∀ r, row = some r → W0.heap.size ≤ r ∧ ∃ o : Obj, A.heap[r]? = some o ∧ o.isCells = false) : StAt D W0 cs B :=
  ⟨h.but.grown hg (fun r e => .inr (hr r e).1), h.cells.grown hg (fun r e => (hr r e).2)⟩
theorem StAt.ext {D : List Nat} {W0 A B : World} {cs : List (Nat × Nat × Value)} (h : StAt D W0 cs A) (x : Ext A B) : StAt D W0 cs B := ⟨h.but.ext x, h.cells.ext x⟩

/-- How a round is left. -/
def StPost {σ : Type} (D : List Nat) (cells : σ → List (Nat × Nat × Value)) (X : World → Prop) (W : World) (r : Option σ) : Exit → Act → World → Prop
  | .normal, _, W' => ∃ s, r = some s ∧ But D W W' ∧ CellsAt (cells s) W'
  | .ret, _, W' => r = none ∧ But D W W' ∧ X W'
  | _, _, _ => False

theorem But.keepsFrom {D : List Nat} {W W' : World} {B : Nat} (h : But D W W') (hD : ∀ d ∈ D, d < B) : KeepsFrom B W W' :=
  ⟨h.size, fun k o hk ho _ => (h.block k (Array.getElem?_eq_some_iff.1 ho).1 (fun hd => by have := hD k hd; omega)).trans ho⟩

/-- The rounds so far. -/
def StI {σ : Type} {N : Nat} (D : List Nat) (cells : σ → List (Nat × Nat × Value)) (f : σ → Nat → Option σ) (s0 : σ) (w : World) (pre : List (Fin N)) (W : World) : Prop :=
  ∃ s, (pre.map Fin.val).foldlM f s0 = some s ∧ StAt D w (cells s) W
def StX {σ : Type} {N : Nat} (D : List Nat) (f : σ → Nat → Option σ) (s0 : σ) (X : World → Prop) (w : World) (c : Code) (pre : List (Fin N)) (W : World) : Prop :=
  c = .ret ∧ (pre.map Fin.val).foldlM f s0 = none ∧ But D w W ∧ X W

section
variable {σ : Type} {N : Nat} {D : List Nat} {cells : σ → List (Nat × Nat × Value)} {f : σ → Nat → Option σ} {s0 : σ} {X : World → Prop} {w : World}

theorem foldM_snoc (pre : List (Fin N)) (x : Fin N) : ((pre ++ [x]).map Fin.val).foldlM f s0 = ((pre.map Fin.val).foldlM f s0).bind fun s => f s x.val := by
  rw [List.map_append, List.foldlM_append]
  cases (pre.map Fin.val).foldlM f s0 with
  | none => rfl
  | some s =>
    show (List.foldlM f s (List.map Fin.val [x])) = f s x.val
    simp
theorem foldM_stop {c : Nat} (hc : c ≤ N) (h : (List.range c).foldlM f s0 = none) : (List.range N).foldlM f s0 = none := by
  obtain ⟨d, rfl⟩ := Nat.exists_eq_add_of_le hc
  rw [List.range_add, List.foldlM_append, h]
  rfl
theorem StI.own : OwnFrom w.heap.size (StI (N := N) D cells f s0 w) := fun _ _ _ _ hs hg hr => by
  obtain ⟨s, h1, h2⟩ := hs
  exact ⟨s, h1, h2.grown hg hr⟩
theorem StX.own (hX : OwnFrom w.heap.size (fun (_ : Unit) W => X W)) (c : Code) : OwnFrom w.heap.size (StX (N := N) D f s0 X w c) := fun _ _ _ _ hs hg hr => by
  obtain ⟨h1, h2, h3, h4⟩ := hs
  exact ⟨h1, h2, h3.grown hg (fun r e => .inr (hr r e).1), hX () _ _ _ h4 hg hr⟩
theorem StI.step {pre : List (Fin N)} {x : Fin N} {s : σ} {W : World} (hD : ∀ d ∈ D, d < w.heap.size) (h1 : (pre.map Fin.val).foldlM f s0 = some s) (h2 : But D w W) : ∀ (e : Exit) (a : Act) (W' : World), StPost D cells X W (f s x.val) e a W' →
    ownPostG w.heap.size (KpD D w.heap.size) (StI (N := N) D cells f s0 w) (StX D f s0 X w) (pre ++ [x]) W e a W'
  | .normal, _, W', ⟨s', h3, h4, h5⟩ => ⟨h4.keepsFrom hD, h4.kpD _, s', by rw [foldM_snoc, h1]; exact h3, h2.trans h4, h5⟩
  | .ret, _, W', ⟨h3, h4, h5⟩ => ⟨h4.keepsFrom hD, rfl, by rw [foldM_snoc, h1]; exact h3, h2.trans h4, h5⟩
  | .exit _, _, _, h => h.elim
  | .goto _, _, _, h => h.elim
  | .panic _, _, _, h => h.elim
  | .outgrown, _, _, h => h.elim

variable {F : Fence} {nn : Nat} {g : Operand} {ps : Array Tmp} {assign body : Code} {Q : Exit → Act → World → Prop} {a : Act}

def Upto (N : Nat) (ys : List (Fin N)) : Prop := ∃ c, c ≤ N ∧ ys.map Fin.val = List.range c

theorem wpIn_rangeFunc_st (cells : σ → List (Nat × Nat × Value)) (f : σ → Nat → Option σ) (s0 : σ) (X : World → Prop) (D : List Nat) (hro : F.round = none) (h1 : 1 ≤ nn) {gf : Nat} {lb : Array Value} (hg : a.eval g = .func (.func gf) #[] lb) (hFg : F.fn gf) (eg : ∀ args w, (callFunc gf args).run Try.prog w = .ok (.enter gf args) w)
    {encs : Fin N → Array Value} (hseq : SeqStopsK F (nn - 1) Try.prog gf lb encs (KpD D w.heap.size) (fun ys => ys.map Fin.val = List.range N) (Upto N) N w) (hps : ∀ x, (encs x).size = ps.size)
    (hD : ∀ d ∈ D, d < w.heap.size) (h0 : CellsAt (cells s0) w) (hX : OwnFrom w.heap.size (fun (_ : Unit) W => X W)) (Ax : Fin N → Act → World → Prop) (hAx : ∀ x a', OwnFrom w.heap.size (fun (_ : Unit) W => Ax x a' W))
    (hassign : ∀ (l : Nat) (x : Fin N) (W : World) (K : Act → World → Prop), w.heap.size ≤ W.heap.size → (∀ a' W', Ext W W' → Ax x a' W' → K a' W') →
      assign.wpIn (F.inRound l) (nn - 1 - 1) Try.prog (Exit.then K (fun _ _ _ => False)) { tmps := (ps.zip (encs x)).foldl (fun t (p, v) => t.setIfInBounds p v) a.tmps, defers := [] } W)
    (hbody : ∀ (l : Nat) (s : σ) (x : Fin N) (a' : Act) (W : World), w.heap.size ≤ l → (∃ r, W.heap[l]? = some (.loop r)) → StAt D w (cells s) W → Ax x a' W →
      body.wpIn (F.inRound l) (nn - 1 - 1) Try.prog (StPost D cells X W (f s x.val)) a' W)
    (hdone : ∀ (M : Nat) (s : σ) (W : World), w.heap.size ≤ M → (List.range N).foldlM f s0 = some s → StAt D w (cells s) W → W.heap[M]? = some (.deferred (some [])) → Q .normal { a with defers := { target := .collected M, args := #[] } :: a.defers } W)
    (hstop : ∀ (M : Nat) (W : World), w.heap.size ≤ M → (List.range N).foldlM f s0 = none → But D w W → X W → W.heap[M]? = some (.deferred (some [])) → Q .ret { a with defers := { target := .collected M, args := #[] } :: a.defers } W) :
    (Code.rangeFunc g ps assign body).wpIn F nn Try.prog Q a w := by
  refine wpIn_rangeFunc_ownH hro h1 hg hFg eg hseq KpD.trans (fun _ _ _ _ _ h1 h2 _ => KpD.put h1 h2) (Below.refl _ _) hps
    (StI D cells f s0 w) (StX D f s0 X w) StI.own (StX.own hX) ⟨s0, rfl, But.refl _ _, h0⟩ Ax hAx ?_ ?_ ?_ ?_
  · intro l pre x W K hI hK
    obtain ⟨s, h2, h3⟩ := hI
    exact hassign l x W K h3.but.size fun a' W' hx hax => hK a' W' ((KeepsOthers.of_ext hx).from _) (fun _ _ _ _ _ h => hx.cell_some h) ⟨s, h2, h3.ext hx⟩ hax
  · intro l pre x a' W hl hr hI hax _
    obtain ⟨s, h2, h3⟩ := hI
    exact wpIn_mono (hbody l s x a' W hl hr h3 hax) (StI.step hD h2 h3.but)
  · intro M xs W hM hS hI hmark
    obtain ⟨s, h2, h3⟩ := hI
    exact hdone M s W hM (by rw [← hS]; exact h2) h3 hmark
  · intro M c pre W hM hS hI hmark
    obtain ⟨rfl, h2, h3, h4⟩ := hI
    obtain ⟨c, hc, hp⟩ := hS
    exact wpIn_ret (hstop M W hM (foldM_stop hc (by rw [← hp]; exact h2)) h3 h4 hmark)

/-- The same within a round of another one. -/
theorem wpIn_rangeFunc_stN (cells : σ → List (Nat × Nat × Value)) (f : σ → Nat → Option σ) (s0 : σ) (X : World → Prop) (D : List Nat) {l₀ : Nat} {r₀ : Loop} (hro : F.round = some l₀) (hl₀ : w.heap[l₀]? = some (.loop r₀)) (h1 : 1 ≤ nn) {gf : Nat} {lb : Array Value} (hg : a.eval g = .func (.func gf) #[] lb) (hFg : F.fn gf) (eg : ∀ args w, (callFunc gf args).run Try.prog w = .ok (.enter gf args) w)
    {encs : Fin N → Array Value} (hseq : SeqStopsK F (nn - 1) Try.prog gf lb encs (KpD D w.heap.size) (fun ys => ys.map Fin.val = List.range N) (Upto N) N w) (hps : ∀ x, (encs x).size = ps.size)
    (hD : ∀ d ∈ D, d < w.heap.size) (h0 : CellsAt (cells s0) w) (hX : OwnFrom w.heap.size (fun (_ : Unit) W => X W)) (Ax : Fin N → Act → World → Prop) (hAx : ∀ x a', OwnFrom w.heap.size (fun (_ : Unit) W => Ax x a' W))
    (hassign : ∀ (l : Nat) (x : Fin N) (W : World) (K : Act → World → Prop), w.heap.size ≤ W.heap.size → (∀ a' W', Ext W W' → Ax x a' W' → K a' W') →
      assign.wpIn (F.inRound l) (nn - 1 - 1) Try.prog (Exit.then K (fun _ _ _ => False)) { tmps := (ps.zip (encs x)).foldl (fun t (p, v) => t.setIfInBounds p v) a.tmps, defers := [] } W)
    (hbody : ∀ (l : Nat) (s : σ) (x : Fin N) (a' : Act) (W : World), w.heap.size ≤ l → (∃ r, W.heap[l]? = some (.loop r)) → StAt D w (cells s) W → Ax x a' W →
      body.wpIn (F.inRound l) (nn - 1 - 1) Try.prog (StPost D cells X W (f s x.val)) a' W)
    (hdone : ∀ (s : σ) (W : World), (List.range N).foldlM f s0 = some s → StAt D w (cells s) W → Q .normal a W)
    (hstop : ∀ (W : World), (List.range N).foldlM f s0 = none → But D w W → X W → Q .ret a W) :
    (Code.rangeFunc g ps assign body).wpIn F nn Try.prog Q a w := by
  refine wpIn_rangeFunc_ownN hro hl₀ h1 hg hFg eg hseq KpD.trans (fun _ _ _ _ _ h1 h2 _ => KpD.put h1 h2) (Below.refl _ _) hps
    (StI D cells f s0 w) (StX D f s0 X w) StI.own (StX.own hX) ⟨s0, rfl, But.refl _ _, h0⟩ Ax hAx ?_ ?_ ?_ ?_
  · intro l pre x W K hI hK
    obtain ⟨s, h2, h3⟩ := hI
    exact hassign l x W K h3.but.size fun a' W' hx hax => hK a' W' ((KeepsOthers.of_ext hx).from _) (fun _ _ _ _ _ h => hx.cell_some h) ⟨s, h2, h3.ext hx⟩ hax
  · intro l pre x a' W hl hr hI hax _
    obtain ⟨s, h2, h3⟩ := hI
    exact wpIn_mono (hbody l s x a' W hl hr h3 hax) (StI.step hD h2 h3.but)
  · intro xs W hS hI
    obtain ⟨s, h2, h3⟩ := hI
    exact hdone s W (by rw [← hS]; exact h2) h3
  · intro c pre W hS hI
    obtain ⟨rfl, h2, h3, h4⟩ := hI
    obtain ⟨c, hc, hp⟩ := hS
    exact wpIn_ret (hstop W (foldM_stop hc (by rw [← hp]; exact h2)) h3 h4)
end
end
open Go.RowKit

/-- A function that yields the elements 0, 1, .. N - 1, in order; it is told that what it reads lies on, even where the round was left. -/
def SeqSt {N : Nat} (F : Fence) (n : Nat) (P : Program) (gf : Nat) (lb : Array Value) (encs : Fin N → Array Value) (D : List Nat) (w : World) : Prop :=
  ∀ (l : Nat) (J : Nat → World → Prop) (Jx : World → Prop) (W : World), Below w.heap.size w W → (∀ c A B, J c A → Ext A B → J c B) → (∀ A B, Jx A → Ext A B → Jx B) →
    (∀ (x : Fin N) (W1 : World), J x.val W1 → YieldAt F (n - 1) P l (encs x) W1 fun e W' =>
      KpD D w.heap.size W1 W' ∧ ((e = .returned (.bool true) ∧ J (x.val + 1) W') ∨ (e = .returned (.bool false) ∧ Jx W'))) →
    J 0 W → CallsIn F n P gf (#[.func (.yield l) #[] #[]] ++ lb) W fun e W' => (∃ v, e = .returned v) ∧ (J N W' ∨ Jx W')

section
variable {σ : Type} {N : Nat} {D : List Nat} {cells : σ → List (Nat × Nat × Value)} {f : σ → Nat → Option σ} {s0 : σ} {X : World → Prop} {w : World}
variable {F : Fence} {nn : Nat} {g : Operand} {ps : Array Tmp} {assign body : Code} {Q : Exit → Act → World → Prop} {a : Act}

theorem foldM_succ {c : Nat} {s : σ} (h : (List.range c).foldlM f s0 = some s) : (List.range (c + 1)).foldlM f s0 = f s c := by
  rw [List.range_succ, List.foldlM_append, h]
  show List.foldlM f s [c] = f s c
  simp

/-- The rounds, whatever the loop's record is. -/
theorem range_core {gf : Nat} {lb : Array Value} {encs : Fin N → Array Value} {W1 : World} {l fn dd : Nat} {a' : Act} {G : World → Prop} {rec : LoopState → Option Code → Loop}
    (hrec : rec = fun st pe => { state := st, pending := pe, fn := fn, tmps := a.tmps, params := ps, assign := assign, body := body, defers := dd }) (hfn : F.fn fn)
    (hseq : SeqSt F (nn - 1) Try.prog gf lb encs D w) (hps : ∀ x, (encs x).size = ps.size) (hD : ∀ d ∈ D, d < w.heap.size) (hb : Below w.heap.size w W1) (hl : w.heap.size ≤ l) (hl1 : W1.heap[l]? = some (.loop (rec .ready none)))
    (h0 : StAt D w (cells s0) W1) (hG1 : G W1) (hGb : ∀ A B, G A → But D A B → G B) (hGp : ∀ A o', G A → G (A.putObj l o'))
    (hX : OwnFrom w.heap.size (fun (_ : Unit) W => X W)) (Ax : Fin N → Act → World → Prop) (hAx : ∀ x a', OwnFrom w.heap.size (fun (_ : Unit) W => Ax x a' W))
    (hassign : ∀ (x : Fin N) (W : World) (K : Act → World → Prop), w.heap.size ≤ W.heap.size → (∀ a' W', Ext W W' → Ax x a' W' → K a' W') →
      assign.wpIn (F.inRound l) (nn - 1 - 1) Try.prog (Exit.then K (fun _ _ _ => False)) { tmps := (ps.zip (encs x)).foldl (fun t (p, v) => t.setIfInBounds p v) a.tmps, defers := [] } W)
    (hbody : ∀ (s : σ) (x : Fin N) (a' : Act) (W : World), (List.range x.val).foldlM f s0 = some s → (∃ r, W.heap[l]? = some (.loop r)) → StAt D w (cells s) W → Ax x a' W →
      body.wpIn (F.inRound l) (nn - 1 - 1) Try.prog (StPost D cells X W (f s x.val)) a' W)
    (hdone : ∀ (s : σ) (W : World), (List.range N).foldlM f s0 = some s → StAt D w (cells s) W → G W → Q .normal a' W)
    (hstop : ∀ (W : World), (List.range N).foldlM f s0 = none → But D w W → X W → G W → Q .ret a' W) :
    CallsIn F (nn - 1) Try.prog gf (#[.func (.yield l) #[] #[]] ++ lb) W1 (rangePost F nn Try.prog l Q a') := by
  have put : ∀ (A : World) (o o' : Obj) (cs : List (Nat × Nat × Value)), A.heap[l]? = some o → o.isCells = false → StAt D w cs A → StAt D w cs (A.putObj l o') := fun A o o' cs ho hc h =>
    h.grown (grownBy_putObj' A l o') (fun r e => by cases e; exact ⟨hl, o, ho, hc⟩)
  have hlD : l ∉ D := fun h => by have := hD l h; omega
  have rl : ∀ st pe, (Obj.loop (rec st pe)).isCells = false := fun _ _ => rfl
  refine (hseq l (fun c W => ∃ s, (List.range c).foldlM f s0 = some s ∧ StAt D w (cells s) W ∧ G W ∧ W.heap[l]? = some (.loop (rec .ready none)))
    (fun W => (List.range N).foldlM f s0 = none ∧ But D w W ∧ X W ∧ G W ∧ W.heap[l]? = some (.loop (rec .done (some .ret)))) W1 hb ?_ ?_ ?_ ⟨s0, rfl, h0, hG1, hl1⟩).mono ?_
  · rintro c A B ⟨s, h1, h2, h3, h4⟩ x
    exact ⟨s, h1, h2.ext x, hGb _ _ h3 x.but, (x.bel.block l (Array.getElem?_eq_some_iff.1 h4).1).trans h4⟩
  · rintro A B ⟨h1, h2, h3, h4, h5⟩ x
    exact ⟨h1, h2.ext x, hX () _ _ none h3 (x.grow none) (fun r e => by cases e), hGb _ _ h4 x.but, (x.bel.block l (Array.getElem?_eq_some_iff.1 h5).1).trans h5⟩
  · rintro x W ⟨s, h1, h2, h3, h4⟩
    have hy := run_yield (P := Try.prog) (args := encs x) h4 (by rw [hrec]; exact hps x)
    rw [hrec] at hy
    refine ⟨fn, _, assign, body, hy, roundIn_of_wpIn hfn (hassign x W _ h2.but.size ?_)⟩
    clear hy
    intro a1 Wa xa hax
    have h4a := (xa.bel.block l (Array.getElem?_eq_some_iff.1 h4).1).trans h4
    refine ⟨_, run_beginRound h4a (by rw [hrec]), ?_⟩
    have h2b := put Wa _ (.loop { rec .ready none with state := .busy }) _ h4a (rl _ _) (h2.ext xa)
    have h4b : (Wa.putObj l (.loop { rec .ready none with state := .busy })).heap[l]? = some (.loop { rec .ready none with state := .busy }) := World.putObj_heap_same (Array.getElem?_eq_some_iff.1 h4a).1
    have hGb' := hGp _ (.loop { rec .ready none with state := .busy }) (hGb _ _ h3 xa.but)
    refine wpIn_mono (hbody s x a1 _ h1 ⟨_, h4b⟩ h2b ((hAx x a1).putObj (s := ()) _ hax hl h4a (rl _ _))) ?_
    have k1 : KpD D w.heap.size W (Wa.putObj l (.loop { rec .ready none with state := .busy })) := KpD.trans (fun _ _ _ _ _ h => xa.cell_some h) (KpD.put h4a (rl _ _))
    rintro e a3 W3 hp
    cases e with
    | normal =>
      obtain ⟨s', e1, e2, e3⟩ := hp
      have h4c := (e2.block l (Array.getElem?_eq_some_iff.1 h4b).1 hlD).trans h4b
      have hr := run_endRound (P := Try.prog) none h4c
      refine ⟨_, _, hr, k1.trans ((e2.kpD _).trans (KpD.put h4c rfl)), .inl ⟨rfl, s', by rw [foldM_succ h1, e1], ?_, hGp _ _ (hGb _ _ hGb' e2), ?_⟩⟩
      · exact put W3 _ _ _ h4c rfl ⟨h2b.but.trans e2, e3⟩
      · rw [World.putObj_heap_same (Array.getElem?_eq_some_iff.1 h4c).1, hrec]
        rfl
    | ret =>
      obtain ⟨e1, e2, e3⟩ := hp
      have h4c := (e2.block l (Array.getElem?_eq_some_iff.1 h4b).1 hlD).trans h4b
      have hr := run_endRound (P := Try.prog) (some .ret) h4c
      refine ⟨_, _, hr, k1.trans ((e2.kpD _).trans (KpD.put h4c rfl)), .inr ⟨rfl, foldM_stop (c := x.val + 1) x.isLt (by rw [foldM_succ h1, e1]), ?_, hX.putObj (s := ()) _ e3 hl h4c rfl, hGp _ _ (hGb _ _ hGb' e2), ?_⟩⟩
      · exact (h2b.but.trans e2).grown (grownBy_putObj' _ l _) (fun r e => by cases e; exact .inr hl)
      · rw [World.putObj_heap_same (Array.getElem?_eq_some_iff.1 h4c).1, hrec]
        rfl
    | exit id => exact hp.elim
    | goto t => exact hp.elim
    | panic ch => exact hp.elim
    | outgrown => exact hp.elim
  · rintro e W2 ⟨⟨v, rfl⟩, (⟨s, h1, h2, h3, h4⟩ | ⟨h1, h2, h3, h4, h5⟩)⟩
    · exact ⟨none, _, by have := run_endLoop (P := Try.prog) h4 (by rw [hrec]; simp); rw [hrec] at this; exact this, hdone s _ h1 (put W2 _ _ _ h4 (rl _ _) h2) (hGp _ _ h3)⟩
    · exact ⟨some .ret, _, by have := run_endLoop (P := Try.prog) h5 (by rw [hrec]; simp); rw [hrec] at this; exact this,
        wpIn_ret (hstop _ h1 (h2.grown (grownBy_putObj' _ l _) (fun r e => by cases e; exact .inr hl)) (hX.putObj (s := ()) _ h3 hl h5 (rl _ _)) (hGp _ _ h4))⟩

theorem wpIn_range_out (cells : σ → List (Nat × Nat × Value)) (f : σ → Nat → Option σ) (s0 : σ) (X : World → Prop) (D : List Nat) (hro : F.round = none) (h1 : 1 ≤ nn) {gf : Nat} {lb : Array Value} (hg : a.eval g = .func (.func gf) #[] lb) (hFg : F.fn gf) (eg : ∀ args w, (callFunc gf args).run Try.prog w = .ok (.enter gf args) w)
    {encs : Fin N → Array Value} (hseq : SeqSt F (nn - 1) Try.prog gf lb encs D w) (hps : ∀ x, (encs x).size = ps.size)
    (hD : ∀ d ∈ D, d < w.heap.size) (h0 : CellsAt (cells s0) w) (hX : OwnFrom w.heap.size (fun (_ : Unit) W => X W)) (Ax : Fin N → Act → World → Prop) (hAx : ∀ x a', OwnFrom w.heap.size (fun (_ : Unit) W => Ax x a' W))
    (hassign : ∀ (l : Nat) (x : Fin N) (W : World) (K : Act → World → Prop), w.heap.size ≤ W.heap.size → (∀ a' W', Ext W W' → Ax x a' W' → K a' W') →
      assign.wpIn (F.inRound l) (nn - 1 - 1) Try.prog (Exit.then K (fun _ _ _ => False)) { tmps := (ps.zip (encs x)).foldl (fun t (p, v) => t.setIfInBounds p v) a.tmps, defers := [] } W)
    (hbody : ∀ (l : Nat) (s : σ) (x : Fin N) (a' : Act) (W : World), w.heap.size ≤ l → (List.range x.val).foldlM f s0 = some s → (∃ r, W.heap[l]? = some (.loop r)) → StAt D w (cells s) W → Ax x a' W →
      body.wpIn (F.inRound l) (nn - 1 - 1) Try.prog (StPost D cells X W (f s x.val)) a' W)
    (hdone : ∀ (M : Nat) (s : σ) (W : World), w.heap.size ≤ M → (List.range N).foldlM f s0 = some s → StAt D w (cells s) W → W.heap[M]? = some (.deferred (some [])) → Q .normal { a with defers := { target := .collected M, args := #[] } :: a.defers } W)
    (hstop : ∀ (M : Nat) (W : World), w.heap.size ≤ M → (List.range N).foldlM f s0 = none → But D w W → X W → W.heap[M]? = some (.deferred (some [])) → Q .ret { a with defers := { target := .collected M, args := #[] } :: a.defers } W) :
    (Code.rangeFunc g ps assign body).wpIn F nn Try.prog Q a w := by
  refine wpIn_rangeFunc ?_
  intro fn hfn
  rw [hro]
  obtain ⟨rec, hrec⟩ : ∃ rec : LoopState → Option Code → Loop, rec = fun st pe => { state := st, pending := pe, fn := fn, tmps := a.tmps, params := ps, assign := assign, body := body, defers := w.heap.size } := ⟨_, rfl⟩
  obtain ⟨W1, hW1⟩ : ∃ W1, (w.alloc (.deferred (some []))).alloc (.loop (rec .ready none)) = W1 := ⟨_, rfl⟩
  have hL1 : W1.heap[w.heap.size + 1]? = some (.loop (rec .ready none)) := by
    rw [← hW1]; have := World.alloc_heap_new (w.alloc (.deferred (some []))) (.loop (rec .ready none)); rwa [World.size_alloc] at this
  have hK1 : W1.heap[w.heap.size]? = some (.deferred (some [])) := by
    rw [← hW1]; exact (Below.heap_alloc _ _ _ (by simp)).trans (World.alloc_heap_new w _)
  have hx1 : Ext w W1 := by rw [← hW1]; exact ((Ext.refl w).alloc _).alloc _
  have hnd : w.heap.size ∉ D := fun h => by have := hD _ h; omega
  refine ⟨w.heap.size + 1, [{ target := .collected w.heap.size, args := #[] }], W1, { target := .fn (.func gf) lb, args := #[.func (.yield (w.heap.size + 1)) #[] #[]] }, W1, gf,
    #[.func (.yield (w.heap.size + 1)) #[] #[]] ++ lb, W1, ?_, ?_, ?_, ?_, fun _ => h1, ?_⟩
  · rw [← hW1, hrec]; exact run_enterLoop_outer _ _ _ _ _
  · simp only [resolve, hg]
    simp [go_sem]
  · intro f' hf'; simp [Target.leads] at hf'; subst hf'; exact hFg
  · simp [invoke, go_sem, eg]
  · exact range_core (G := fun W => W.heap[w.heap.size]? = some (.deferred (some []))) hrec hfn hseq hps hD hx1.bel (Nat.le_succ _) hL1 ⟨hx1.but, h0.ext hx1⟩ hK1
      (fun A B hA hb => (hb.block _ (Array.getElem?_eq_some_iff.1 hA).1 hnd).trans hA) (fun A o' hA => (World.putObj_heap_other (by omega)).trans hA) hX Ax hAx (hassign _)
      (fun s x a' W hf hr hs hax => hbody _ s x a' W (Nat.le_succ _) hf hr hs hax) (fun s W h2 h3 h4 => hdone _ s W (Nat.le_refl _) h2 h3 h4) (fun W h2 h3 h4 h5 => hstop _ W (Nat.le_refl _) h2 h3 h4 h5)

/-- Within a round of another one. -/
theorem wpIn_range_inn (cells : σ → List (Nat × Nat × Value)) (f : σ → Nat → Option σ) (s0 : σ) (X : World → Prop) (D : List Nat) {l₀ : Nat} {r₀ : Loop} (hro : F.round = some l₀) (hl₀ : w.heap[l₀]? = some (.loop r₀)) (h1 : 1 ≤ nn) {gf : Nat} {lb : Array Value} (hg : a.eval g = .func (.func gf) #[] lb) (hFg : F.fn gf) (eg : ∀ args w, (callFunc gf args).run Try.prog w = .ok (.enter gf args) w)
    {encs : Fin N → Array Value} (hseq : SeqSt F (nn - 1) Try.prog gf lb encs D w) (hps : ∀ x, (encs x).size = ps.size)
    (hD : ∀ d ∈ D, d < w.heap.size) (h0 : CellsAt (cells s0) w) (hX : OwnFrom w.heap.size (fun (_ : Unit) W => X W)) (Ax : Fin N → Act → World → Prop) (hAx : ∀ x a', OwnFrom w.heap.size (fun (_ : Unit) W => Ax x a' W))
    (hassign : ∀ (l : Nat) (x : Fin N) (W : World) (K : Act → World → Prop), w.heap.size ≤ W.heap.size → (∀ a' W', Ext W W' → Ax x a' W' → K a' W') →
      assign.wpIn (F.inRound l) (nn - 1 - 1) Try.prog (Exit.then K (fun _ _ _ => False)) { tmps := (ps.zip (encs x)).foldl (fun t (p, v) => t.setIfInBounds p v) a.tmps, defers := [] } W)
    (hbody : ∀ (l : Nat) (s : σ) (x : Fin N) (a' : Act) (W : World), w.heap.size ≤ l → (List.range x.val).foldlM f s0 = some s → (∃ r, W.heap[l]? = some (.loop r)) → StAt D w (cells s) W → Ax x a' W →
      body.wpIn (F.inRound l) (nn - 1 - 1) Try.prog (StPost D cells X W (f s x.val)) a' W)
    (hdone : ∀ (s : σ) (W : World), (List.range N).foldlM f s0 = some s → StAt D w (cells s) W → Q .normal a W)
    (hstop : ∀ (W : World), (List.range N).foldlM f s0 = none → But D w W → X W → Q .ret a W) :
    (Code.rangeFunc g ps assign body).wpIn F nn Try.prog Q a w := by
  refine wpIn_rangeFunc ?_
  intro fn hfn
  rw [hro]
  obtain ⟨rec, hrec⟩ : ∃ rec : LoopState → Option Code → Loop, rec = fun st pe => { state := st, pending := pe, fn := fn, tmps := a.tmps, params := ps, assign := assign, body := body, defers := r₀.defers } := ⟨_, rfl⟩
  obtain ⟨W1, hW1⟩ : ∃ W1, w.alloc (.loop (rec .ready none)) = W1 := ⟨_, rfl⟩
  have hL1 : W1.heap[w.heap.size]? = some (.loop (rec .ready none)) := by rw [← hW1]; exact World.alloc_heap_new w _
  have hx1 : Ext w W1 := by rw [← hW1]; exact (Ext.refl w).alloc _
  refine ⟨w.heap.size, [], W1, { target := .fn (.func gf) lb, args := #[.func (.yield w.heap.size) #[] #[]] }, W1, gf,
    #[.func (.yield w.heap.size) #[] #[]] ++ lb, W1, ?_, ?_, ?_, ?_, fun _ => h1, ?_⟩
  · rw [← hW1, hrec]; exact run_enterLoop_inner hl₀ _ _ _ _ _
  · simp only [resolve, hg]
    simp [go_sem]
  · intro f' hf'; simp [Target.leads] at hf'; subst hf'; exact hFg
  · simp [invoke, go_sem, eg]
  · exact range_core (G := fun _ => True) hrec hfn hseq hps hD hx1.bel (Nat.le_refl _) hL1 ⟨hx1.but, h0.ext hx1⟩ trivial
      (fun _ _ _ _ => trivial) (fun _ _ _ => trivial) hX Ax hAx (hassign _)
      (fun s x a' W hf hr hs hax => hbody _ s x a' W (Nat.le_refl _) hf hr hs hax) (fun s W h2 h3 _ => hdone s W h2 h3) (fun W h2 h3 h4 _ => hstop W h2 h3 h4)
end
end
end
section
/- PPhs: pattern.phases: an iterator. Condition: the bench lies there, in a block that no box is. -/
open Go.RowKit

/-- A bench's cells. -/
def BenchCs (b : Nat) (w : World) (p : PrT) (v : PrV) (lv : Value) (per : Int) : Prop := ∀ (i : Nat) (x : Value), (benchC p v lv per p.sh.length).toList[i]? = some x → w.cell? ⟨b, i, none⟩ = some x
theorem BenchAt.cs {b : Nat} {w : World} {p : PrT} {v : PrV} {lv : Value} (h : BenchAt b w p v lv) : BenchCs b w p v lv (periodV (liftL p.ros p.rub)) := fun _ _ hx => h.box.cell hx
set_option maxRecDepth 100000 in
set_option maxHeartbeats 4000000 in
theorem phase_cells (b : Nat) (p : PrT) (v : PrV) (lv : Value) (per : Int) (j : Int) (w : World) (h : BenchCs b w p v lv per) (hg : Nums p) (hj : -20000 ≤ j ∧ j ≤ 20000) :
    Calls Try.prog 38 #[.pointer (some ⟨b, 0, none⟩), .int .i64 j] w fun e w' => e = .returned (.int .i64 (phaseZ p j)) ∧ Ext w w' := by
  have hc1 := hg.c1
  have hc2 := hg.c2
  have hn1 := hg.n1
  have hn2 := hg.n2
  obtain ⟨hj1, hj2⟩ := hj
  have HM := Lib.hid fun (x n : Int) (W : World) (h1 : 1 ≤ n) (h2 : n ≤ 1000000) => modulo_any x n W h1 h2
  have k7 := h 7 _ rfl
  have k8 := h 8 _ rfl
  have lk := cell_lt k8
  obtain ⟨c, hc⟩ : ∃ c, c = p.sh.length := ⟨_, rfl⟩
  obtain ⟨n, hn⟩ : ∃ n, n = p.ros.length := ⟨_, rfl⟩
  obtain ⟨a, ha, hac⟩ := emod_nat j (n := c) (by omega)
  have kc := h _ _ (benchC_sum (k := c) (m := p.sh.length) (by omega))
  have ka := h _ _ (benchC_sum (k := a) (m := p.sh.length) (by omega))
  rw [sumV, if_pos (by omega)] at kc ka
  have hsb := sumTo_bd (sh := p.sh) (B := 95) (by omega) (fun i => by have := hg.sh i; omega)
  have b1 := hsb c
  have b2 := hsb a
  obtain ⟨sc, hsc⟩ : ∃ z, z = sumTo p.sh c := ⟨_, rfl⟩
  obtain ⟨sa, hsa⟩ : ∃ z, z = sumTo p.sh a := ⟨_, rfl⟩
  rw [← hsc] at kc b1
  rw [← hsa] at ka b2
  rw [← hc] at k8 hc1 hc2
  rw [← hn] at k7 hn1 hn2
  obtain ⟨d, hd⟩ : ∃ d, j - (a : Int) = (c : Int) * d := ⟨j / (c : Int), by have := Int.mul_ediv_add_emod j (c : Int); omega⟩
  have hcz : (c : Int) ≠ 0 := by omega
  have e2 : (j - (a : Int)).tdiv (c : Int) = d := by rw [hd]; exact Int.mul_tdiv_cancel_left d hcz
  have e2' : (j - (a : Int)) / (c : Int) = d := by rw [hd]; exact Int.mul_ediv_cancel_left d hcz
  have hdb : -21000 ≤ d ∧ d ≤ 21000 := by
    have h1 : (c : Int) * d = j - a := hd.symm
    constructor
    · by_cases h0 : d < 0
      · have := Int.mul_le_mul_of_nonpos_right (show (1 : Int) ≤ c by omega) (show d ≤ 0 by omega)
        omega
      · omega
    · by_cases h0 : 0 < d
      · have := Int.mul_le_mul_of_nonneg_right (show (1 : Int) ≤ c by omega) (show 0 ≤ d by omega)
        omega
      · omega
  have HPZ := Lib.hid (show phaseZ p j = (d * sc + sa) % (n : Int) by
    unfold phaseZ
    rw [← hc, ← hn, ha, e2', ← hsc, Int.toNat_natCast, ← hsa])
  have hds : -25200000 ≤ d * sc ∧ d * sc ≤ 25200000 := by
    have hc' : sc ≤ 1200 := by
      have : (95 : Int) * (c : Int) ≤ 95 * 12 := by omega
      omega
    have h1 : d * sc ≤ 21000 * sc := Int.mul_le_mul_of_nonneg_right hdb.2 b1.1
    have h2 : -21000 * sc ≤ d * sc := Int.mul_le_mul_of_nonneg_right hdb.1 b1.1
    omega
  obtain ⟨d1, d2⟩ := hds
  obtain ⟨db1, db2⟩ := hdb
  have hsa2 : 0 ≤ sa ∧ sa ≤ 1200 := by
    have : (95 : Int) * (a : Int) ≤ 95 * 12 := by omega
    omega
  obtain ⟨s1, s2⟩ := hsa2
  have w1 : IntKind.i64.wrap (j - (a : Int)) = j - (a : Int) := IntWalk.i64_in _ (by omega)
  have w2 : IntKind.i64.wrap d = d := IntWalk.i64_in _ (by omega)
  have w3 : IntKind.i64.wrap (d * sc) = d * sc := IntWalk.i64_in _ (by omega)
  have w4 : IntKind.i64.wrap (d * sc + sa) = d * sc + sa := IntWalk.i64_in _ (by omega)
  have HM1 := Lib.hid fun W : World => (show Calls Try.prog 37 #[.int .i64 j, .int .i64 (c : Int)] W fun e w' => e = .returned (.int .i64 (a : Int)) ∧ W = w' from ha ▸ HM.out j c W (by omega) (by omega))
  have HM2 := Lib.hid fun W : World => (show Calls Try.prog 37 #[.int .i64 (d * sc + sa), .int .i64 (n : Int)] W fun e w' => e = .returned (.int .i64 (phaseZ p j)) ∧ W = w' from HPZ.out ▸ HM.out _ n W (by omega) (by omega))
  generalize phaseZ p j = z at *
  have a13 : (a : Int) < 13 := by omega
  have c13 : (c : Int) < 13 := by omega
  have hc0n : ¬ c = 0 := by omega
  clear hd ha hsc hsa hsb hc hn h hg HM HPZ b1 b2 hcz
  go_enter Try.func38, Try.ntmps38
  go_wp2_with (go_at_call 37; refine (HM1.out _).mono ?_; rintro e w' ⟨rfl, rfl⟩)
  go_quiet ((go_at_call 37; with_reducible exact quiet_sameP (HM2.out _)))
  go_wp2_with fail
  go_ret
  exact ⟨rfl, (Ext.refl w).drewN _⟩


attribute [local go_sem] Oper.semAt_some

/-- Which cuts, and their phases. -/
def phsEnc (p : PrT) (N : Nat) (x : Fin N) : Array Value := #[.int .i64 (x.val : Int), .int .i64 (phaseZ p (x.val : Int))]

theorem phases_in (F : Fence) (n : Nat) (h5 : F.fn 88) (hro : F.round = none) (b : Nat) (fr nn : Int) (w : World) :
    CallsIn F n Try.prog 88 #[.pointer (some ⟨b, 0, none⟩), .int .i64 fr, .int .i64 nn] w fun e w' => e = .returned (.func (.func 109) #[] #[.pointer (some ⟨w.heap.size + 1 + 1, 0, none⟩), .pointer (some ⟨w.heap.size + 1, 0, none⟩), .pointer (some ⟨w.heap.size, 0, none⟩)]) ∧
      w' = ((w.alloc (.cells #[.pointer (some ⟨b, 0, none⟩)] 89)).alloc (.cells #[.int .i64 fr] 3)).alloc (.cells #[.int .i64 nn] 3) := by
  refine callsIn_of_wp Try.func88 rfl h5 ?_ hro
  simp only [Try.ntmps88, List.size_toArray, List.length_cons, List.length_nil, Nat.reduceAdd, Nat.reduceSub, Array.replicate_succ, Array.replicate_zero, List.push_toArray, List.append_toArray, List.nil_append, List.cons_append]
  gi_wp2
  go_ret
  exact ⟨rfl, rfl⟩

/-- What the iterator reads. -/
structure PhsAt (w : World) (D : List Nat) (b b3 b4 b5 N : Nat) (p : PrT) (v : PrV) (lv : Value) (per : Int) : Prop where
  c3 : w.cell? ⟨b3, 0, none⟩ = some (.pointer (some ⟨b, 0, none⟩))
  c4 : w.cell? ⟨b4, 0, none⟩ = some (.int .i64 0)
  c5 : w.cell? ⟨b5, 0, none⟩ = some (.int .i64 (N : Int))
  cs : BenchCs b w p v lv per
  nD : b ∉ D ∧ b3 ∉ D ∧ b4 ∉ D ∧ b5 ∉ D
theorem PhsAt.keep {w W W' : World} {D : List Nat} {b b3 b4 b5 N : Nat} {p : PrT} {v : PrV} {lv : Value} {per : Int} (h : PhsAt W D b b3 b4 b5 N p v lv per) (hk : KpD D w.heap.size W W') (h1 : b < w.heap.size) (h3 : b3 < w.heap.size) (h4 : b4 < w.heap.size) (h5 : b5 < w.heap.size) : PhsAt W' D b b3 b4 b5 N p v lv per :=
  ⟨hk _ _ _ h3 h.nD.2.1 h.c3, hk _ _ _ h4 h.nD.2.2.1 h.c4, hk _ _ _ h5 h.nD.2.2.2 h.c5, fun i x hx => hk _ _ _ h1 h.nD.1 (h.cs i x hx), h.nD⟩
theorem PhsAt.ext {W W' : World} {D : List Nat} {b b3 b4 b5 N : Nat} {p : PrT} {v : PrV} {lv : Value} {per : Int} (h : PhsAt W D b b3 b4 b5 N p v lv per) (x : Ext W W') : PhsAt W' D b b3 b4 b5 N p v lv per :=
  ⟨x.cell_some h.c3, x.cell_some h.c4, x.cell_some h.c5, fun i y hy => x.cell_some (h.cs i y hy), h.nD⟩

set_option maxRecDepth 100000 in
set_option maxHeartbeats 8000000 in
theorem phs1_in (nn : Nat) (hnn : 1 ≤ nn) (l B0 : Nat) (D : List Nat) (b b3 b4 b5 N : Nat) (p : PrT) (v : PrV) (lv : Value) (per : Int) (hg : Nums p) (hN : N ≤ 2000) (J : Nat → World → Prop) (Jx : World → Prop)
    (hJE : ∀ c A B, J c A → Ext A B → J c B) (hXE : ∀ A B, Jx A → Ext A B → Jx B)
    (hY : ∀ (x : Fin N) (W1 : World), J x.val W1 → YieldAt Fence.wide (nn - 1) Try.prog l (phsEnc p N x) W1 fun e W' => KpD D B0 W1 W' ∧ ((e = .returned (.bool true) ∧ J (x.val + 1) W') ∨ (e = .returned (.bool false) ∧ Jx W')))
    (W : World) (hP : PhsAt W D b b3 b4 b5 N p v lv per) (h1 : b < B0) (h3 : b3 < B0) (h4 : b4 < B0) (h5 : b5 < B0) (h0 : J 0 W) :
    CallsIn Fence.wide nn Try.prog 109 #[.func (.yield l) #[] #[], .pointer (some ⟨b5, 0, none⟩), .pointer (some ⟨b4, 0, none⟩), .pointer (some ⟨b3, 0, none⟩)] W fun e W' => (∃ v, e = .returned v) ∧ (J N W' ∨ Jx W') := by
  have HY := Lib.hid hY
  have HJE := Lib.hid hJE
  have HXE := Lib.hid hXE
  have HKP := Lib.hid fun (W' : World) (hk : KpD D B0 W W') => (show PhsAt W' D b b3 b4 b5 N p v lv per from
    ⟨hk _ _ _ h3 hP.nD.2.1 hP.c3, hk _ _ _ h4 hP.nD.2.2.1 hP.c4, hk _ _ _ h5 hP.nD.2.2.2 hP.c5, fun i x hx => hk _ _ _ h1 hP.nD.1 (hP.cs i x hx), hP.nD⟩)
  have HPC := Lib.hid fun (j : Nat) (hj : j < N) (W' : World) (h : BenchCs b W' p v lv per) => phase_cells b p v lv per (j : Int) W' h hg (by omega)
  have c5 := hP.c5
  have l5 := cell_lt c5
  have HJ0 := Lib.hid h0
  clear hY hJE hXE hP h0 hg
  refine callsIn_of_wp Try.func109 rfl trivial ?_ rfl
  simp only [Try.ntmps109, List.size_toArray, List.length_cons, List.length_nil, Nat.reduceAdd, Nat.reduceSub, Array.replicate_succ, Array.replicate_zero, List.push_toArray, List.append_toArray, List.nil_append, List.cons_append]
  gi_wp2
  clear c5 l5
  gi_loopw [7] (fun iv wr => ∃ i : Nat, i ≤ N ∧ iv = .int .i64 i ∧ J i wr ∧ KpD D B0 W wr) (fun iv _ => N - (intOf iv).toNat)
  case atStart => exact ⟨0, by omega, rfl, HJ0.out, fun _ _ _ _ _ h => h⟩
  case round =>
    obtain ⟨i, hi, rfl, hj, hkp⟩ := hrel
    have HKR := Lib.hid hkp
    have HJR := Lib.hid hj
    by_cases hlt : i < N
    · have hp := HKP.out wr hkp
      have e3 := hp.c3
      have e4 := hp.c4
      have HCS := Lib.hid hp.cs
      have q3 := But.cells (D := []) e3 (by simp)
      have q4 := But.cells (D := []) e4 (by simp)
      have l3 := cell_lt e3
      have l4 := cell_lt e4
      have hii : (i : Int) < (N : Int) := by omega
      have wi : IntKind.i64.wrap (i : Int) = (i : Int) := IntWalk.i64_in _ (by omega)
      have HPI := Lib.hid fun (W' : World) (x : Ext wr W') => HPC.out i hlt W' (fun k x' hx' => x.cell_some (HCS.out k x' hx'))
      clear hp hj hkp e3 e4
      gi_wp2
      refine wpIn_region_steps [] 9 [(0, true), (1, true), (2, true), (3, true), (4, true), (5, true), (6, true), (7, true), (8, true)] (by kernel_rfl) (by decide +kernel) ?_
      iterate 8 (refine wpSD_q (by rfl) (fun _ _ _ => trivial) (fun K hK => ?_); go_simp; refine hK _ ?_; clear hK K)
      refine wpSD_q (by rfl) (fun _ _ _ => trivial) (fun K hK => ?_)
      go_simp
      refine ⟨.int .i64 (phaseZ p (i : Int)), fun δ => callsIn_wide.2 (HPI.out δ.wd (ext_but0 δ.but)), hK _ ?_⟩
      clear hK K
      refine wpSD_nil ?_
      intro W3 x3
      have HJ3 := Lib.hid (HJE.out _ _ _ HJR.out x3)
      have HK3 := Lib.hid (show KpD D B0 W W3 from HKR.out.trans (fun _ _ _ _ _ h => x3.cell_some h))
      obtain ⟨fn, tmps, assign, body, hy, hR⟩ := HY.out ⟨i, hlt⟩ W3 HJ3.out
      simp only [phsEnc] at hy
      have HR := Lib.hid hR
      clear hR q3 q4 x3 l3 l4
      simp only [List.drop_succ_cons, List.drop_zero]
      gi_wp2
      refine HR.out.mono ?_
      rintro e W4 ⟨hk4, ⟨rfl, h4⟩ | ⟨rfl, h4⟩⟩
      · have HJ4 := Lib.hid h4
        have HK4 := Lib.hid (HK3.out.trans hk4)
        clear h4 hk4
        gi_wp2
        go_roundw
        case rel => exact ⟨i + 1, by omega, by simp, HJ4.out, HK4.out⟩
        case measure => simp [intOf]; omega
      · have HJ4 := Lib.hid h4
        clear h4 hk4
        gi_wp2
        refine bodyPost_ret (results_none rfl _ _ _) rfl ?_
        exact ⟨⟨_, rfl⟩, .inr HJ4.out⟩
    · obtain rfl : i = N := by omega
      clear hj hkp
      gi_wp2
      go_end0
      exact ⟨⟨_, rfl⟩, .inl HJR.out⟩

theorem phs_seq (nn : Nat) (hnn : 1 ≤ nn) (D : List Nat) (b b3 b4 b5 N : Nat) (p : PrT) (v : PrV) (lv : Value) (per : Int) (hg : Nums p) (hN : N ≤ 2000) (w : World) (hP : PhsAt w D b b3 b4 b5 N p v lv per) (h1 : b < w.heap.size) :
    SeqSt Fence.wide nn Try.prog 109 #[.pointer (some ⟨b5, 0, none⟩), .pointer (some ⟨b4, 0, none⟩), .pointer (some ⟨b3, 0, none⟩)] (phsEnc p N) D w := fun l J Jx W hW hJE hXE hY h0 =>
  phs1_in nn hnn l w.heap.size D b b3 b4 b5 N p v lv per hg hN J Jx hJE hXE hY W (hP.ext (.of hW)) h1 (cell_lt hP.c3) (cell_lt hP.c4) (cell_lt hP.c5) h0
end
section
/- PSort1: A scope in a fence; slices.SortStableFunc of one move. No condition. -/
open Go.RowKit

section
variable {P : Program} {b : Frame} {a : Act} {k : List Item} {cs : List Frame} {w : World}
theorem stepR_scope {c : Code} : step P (lone (b.atR a (.code (.scope c) :: k)) cs w) = .next (lone (b.atR a (.code c :: .inScope c :: k)) cs w) :=
  step_lone_go (by simp [stepG, stepG.exec, Frame.atR])
theorem stepR_inScope {c : Code} : step P (lone (b.atR a (.inScope c :: k)) cs w) = .next (lone (b.atR a k) cs w) :=
  step_lone_go (by simp [stepG, stepG.exec, Frame.atR])
end
theorem wpIn_scope {F : Fence} {n : Nat} {P : Program} {Q : Exit → Act → World → Prop} {a : Act} {w : World} {c : Code} (h : c.wpIn F n P (Exit.noGoto Q) a w) : (Code.scope c).wpIn F n P Q a w := by
  intro b k cs hro hb hr
  have h0 : (lone (b.atR a (.code (.scope c) :: k)) cs w).fenced P F := fenced_calm hb hr rfl
  obtain ⟨e, a₁, w₁, hq, harr⟩ := h b (.inScope c :: k) cs hro hb hr
  cases e with
  | normal => exact ⟨.normal, a₁, w₁, hq, .head h0 stepR_scope (StepsIn.trans harr (.one (fenced_calm hb hr rfl) stepR_inScope))⟩
  | exit id =>
    have hx : exitTo id (.inScope c :: k) = exitTo id k := by simp [exitTo]
    exact ⟨_, a₁, w₁, hq, fun k' hk => .head h0 stepR_scope (harr.1 k' (by rw [hx]; exact hk)), fun hr' hk => let ⟨k₁, h1, h2⟩ := harr.2 hr' (by rw [hx]; exact hk); ⟨k₁, h1, .head h0 stepR_scope h2⟩⟩
  | goto l => exact hq.elim
  | ret => exact ⟨_, a₁, w₁, hq, .of_steps (.one h0 stepR_scope) harr⟩
  | panic ch => exact ⟨_, a₁, w₁, hq, .of_steps (.one h0 stepR_scope) harr⟩
  | outgrown => exact ⟨_, a₁, w₁, hq, .of_steps (.one h0 stepR_scope) harr⟩

theorem insert1_any (A : Option Addr) (n c : Nat) (fv : Value) (w : World) : Calls Try.prog 125 #[.slice A n c, .int .i64 0, .int .i64 1, fv] w fun e w' => (∃ v, e = .returned v) ∧ Ext w w' := by
  go_enter Try.func125, Try.ntmps125
  go_wp2_with fail
  go_loopw [8] (fun iv W => iv = .int .i64 1 ∧ W = w) (fun _ _ => 0)
  case atStart => exact ⟨rfl, rfl⟩
  case round =>
    obtain ⟨rfl, rfl⟩ := hrel
    go_wp2_with fail
    go_end0
    exact ⟨⟨_, rfl⟩, Ext.refl _⟩
set_option maxRecDepth 100000 in
theorem stable1_any (A : Option Addr) (c : Nat) (fv : Value) (w : World) : Calls Try.prog 110 #[.slice A 1 c, .int .i64 1, fv] w fun e w' => (∃ v, e = .returned v) ∧ Ext w w' := by
  have HI := Lib.hid fun W : World => insert1_any A 1 c fv W
  obtain ⟨wo, rfl⟩ : ∃ z, z = w := ⟨_, rfl⟩
  go_enter Try.func110, Try.ntmps110
  go_wp2_with fail
  go_loopw [7, 8] (fun av bv W => av = .int .i64 0 ∧ bv = .int .i64 20 ∧ W = wo) (fun _ _ _ => 0)
  case atStart => exact ⟨rfl, rfl, rfl⟩
  case round =>
    obtain ⟨rfl, rfl, rfl⟩ := hrel
    go_wp2_with fail
    refine (HI.out _).mono ?_
    rintro e W1 ⟨⟨v, rfl⟩, x1⟩
    have HX := Lib.hid x1
    clear x1
    go_wp2_with fail
    go_loopw [6] (fun av W => av = .int .i64 20 ∧ Ext wr W) (fun _ _ => 0)
    case atStart => exact ⟨rfl, HX.out⟩
    case round =>
      obtain ⟨rfl, hx⟩ := hrel
      have HX2 := Lib.hid hx
      clear hx
      go_wp2_with fail
      go_end0
      exact ⟨⟨_, rfl⟩, HX2.out⟩
theorem sort1_any (A : Option Addr) (c : Nat) (fv : Value) (w : World) : Calls Try.prog 89 #[.slice A 1 c, fv] w fun e w' => (∃ v, e = .returned v) ∧ Ext w w' := by
  have HI := Lib.hid fun W : World => stable1_any A c fv W
  go_enter Try.func89, Try.ntmps89
  go_wp2_with fail
  refine (HI.out _).mono ?_
  rintro e W1 ⟨⟨v, rfl⟩, x1⟩
  have HX := Lib.hid x1
  clear x1
  go_wp2_with fail
  go_end0
  exact ⟨⟨_, rfl⟩, HX.out⟩
end
open Go.RowKit

/-- Two programs whose cuts have the same shapes. -/
structure AlikeP (p q : PrT) (t : Nat) : Prop where
  gp : Good p
  gq : Good q
  tp : LeastT (liftL p.ros p.rub) t
  tq : LeastT (liftL q.ros q.rub) t
  len : p.ros.length = q.ros.length
  clo : closN p t = closN q t
  off : offO p q false = some 0
  ph : ∀ j : Int, (PH p.sh j - PH q.sh j) % (t : Int) = 0
theorem closN_bd {p : PrT} {t : Nat} (hg : Good p) (ht : LeastT (liftL p.ros p.rub) t) : 1 ≤ closN p t ∧ closN p t ≤ 1200 := by
  obtain ⟨m1, m2, -, -⟩ := motN_is (t := t) hg.nums.c1
  have hc2 := hg.nums.c2
  have ht1 := ht.pos
  have ht2 : t ≤ 96 := by
    have := ht.le (by rw [liftL_len]; have := hg.nums.n1; omega)
    rw [liftL_len] at this
    have := hg.nums.n2
    omega
  have hgp : 1 ≤ Nat.gcd t (turnN p t) := Nat.gcd_pos_of_pos_left _ (by omega)
  have hd : 1 ≤ t / Nat.gcd t (turnN p t) := Nat.div_pos (Nat.gcd_le_left _ (by omega)) hgp
  have hd2 : t / Nat.gcd t (turnN p t) ≤ 96 := Nat.le_trans (Nat.div_le_self _ _) ht2
  unfold closN
  have h1 := Nat.mul_le_mul m1 hd
  have h2 := Nat.mul_le_mul (show motN p.sh t ≤ 12 by omega) hd2
  omega
def moveK : EK (Int × Int × Bool × Bool) := ⟨71, 154, 4, fun x => [.int .i64 x.1, .int .i64 x.2.1, .bool x.2.2.1, .bool x.2.2.2], .agg #[.int .i64 0, .int .i64 0, .bool false, .bool false], 24, Try.underlying154, by kernel_rfl, rfl, by decide, by decide, fun _ => rfl, by simp [Value.oneCell']⟩
abbrev sameFn (fb eb : Nat) : Value := .func (.func 58) #[] #[.pointer (some ⟨fb, 0, none⟩), .pointer (some ⟨eb, 0, none⟩)]

/-- The four kinds of moves that leave the cuts where they are. -/
def mvCells : Array Value := #[.int .i64 0, .int .i64 0, .bool false, .bool false, .int .i64 0, .int .i64 0, .bool false, .bool true, .int .i64 0, .int .i64 0, .bool true, .bool false, .int .i64 0, .int .i64 0, .bool true, .bool true]
theorem notin_lt {a b : Nat} (h : a < b) : a ∉ [b] := fun e => by rw [List.mem_singleton] at e; omega
theorem notin_gt {a b : Nat} (h : b < a) : a ∉ [b] := fun e => by rw [List.mem_singleton] at e; omega
def mv0 (b : Nat) : List (Nat × Nat × Value) := [(b, 0, .int .i64 0), (b, 1, .int .i64 0), (b, 2, .bool false), (b, 3, .bool false)]
theorem mv0_of {b : Nat} {W : World} (h : BoxAt b #[.int .i64 0, .int .i64 0, .bool false, .bool false] 71 W) : CellsAt (mv0 b) W := by
  intro t ht
  simp only [mv0, List.mem_cons, List.not_mem_nil, or_false] at ht
  rcases ht with rfl | rfl | rfl | rfl
  · exact ⟨h.cell (i := 0) rfl, frozen_of_row W b 0 _ _ h⟩
  · exact ⟨h.cell (i := 1) rfl, frozen_of_row W b 1 _ _ h⟩
  · exact ⟨h.cell (i := 2) rfl, frozen_of_row W b 2 _ _ h⟩
  · exact ⟨h.cell (i := 3) rfl, frozen_of_row W b 3 _ _ h⟩
theorem fold_unit : ∀ l : List Nat, l.foldlM (fun (_ : Unit) (_ : Nat) => some ()) () = some ()
  | [] => rfl
  | _ :: l => by rw [List.foldlM_cons]; exact fold_unit l
/-- A range over a function whose body leaves some cells as they are. -/
theorem range_const {F : Fence} {nn N : Nat} {g : Operand} {ps : Array Tmp} {assign body : Code} {Q : Exit → Act → World → Prop} {a : Act} {w : World} (cs : List (Nat × Nat × Value)) (D : List Nat) (hro : F.round = none) (h1 : 1 ≤ nn) {gf : Nat} {lb : Array Value} (hg : a.eval g = .func (.func gf) #[] lb) (hFg : F.fn gf) (eg : ∀ args w, (callFunc gf args).run Try.prog w = .ok (.enter gf args) w)
    {encs : Fin N → Array Value} (hseq : SeqSt F (nn - 1) Try.prog gf lb encs D w) (hps : ∀ x, (encs x).size = ps.size)
    (hD : ∀ d ∈ D, d < w.heap.size) (h0 : CellsAt cs w) (ga : Fin N → Act)
    (hassign : ∀ (l : Nat) (x : Fin N) (W : World) (K : Act → World → Prop), w.heap.size ≤ W.heap.size → (∀ a' W', Ext W W' → a' = ga x → K a' W') →
      assign.wpIn (F.inRound l) (nn - 1 - 1) Try.prog (Exit.then K (fun _ _ _ => False)) { tmps := (ps.zip (encs x)).foldl (fun t (p, v) => t.setIfInBounds p v) a.tmps, defers := [] } W)
    (hbody : ∀ (l : Nat) (x : Fin N) (W : World), w.heap.size ≤ l → (∃ r, W.heap[l]? = some (.loop r)) → StAt D w cs W →
      body.wpIn (F.inRound l) (nn - 1 - 1) Try.prog (StPost D (fun _ : Unit => cs) (fun _ => False) W (some ())) (ga x) W)
    (hdone : ∀ (M : Nat) (W : World), w.heap.size ≤ M → StAt D w cs W → W.heap[M]? = some (.deferred (some [])) → Q .normal { a with defers := { target := .collected M, args := #[] } :: a.defers } W) :
    (Code.rangeFunc g ps assign body).wpIn F nn Try.prog Q a w :=
  wpIn_range_out (N := N) (fun _ : Unit => cs) (fun _ _ => some ()) () (fun _ => False) D hro h1 hg hFg eg hseq hps hD h0 (fun _ _ _ _ hs _ _ => hs) (fun x a' _ => a' = ga x) (fun _ _ _ _ _ _ h _ _ => h) hassign
    (fun l s x a' W hl _ hr hst hax => by subst hax; exact hbody l x W hl hr hst)
    (fun M s W hM _ hst hmk => hdone M W hM hst hmk)
    (fun M W _ hf => by rw [fold_unit] at hf; cases hf)
theorem StAt.setFar {D : List Nat} {W0 A : World} {cs : List (Nat × Nat × Value)} {b o : Nat} {v : Value} (h : StAt D W0 cs A) (hb : W0.heap.size ≤ b) (hne : ∀ t ∈ cs, t.1 ≠ b) : StAt D W0 cs (A.setCell ⟨b, o, none⟩ v) :=
  ⟨h.but.grown (grown_set A b o v) (fun r e => by cases e; exact .inr hb), fun t ht => by
    obtain ⟨h1, h2⟩ := h.cells t ht
    exact ⟨(cell_set_other (.inl (hne t ht))).trans h1, (World.frozen?_setCell ..).trans h2⟩⟩
theorem mv0_fn {b o : Nat} {v : Value} {t : Nat × Nat × Value} (ht : t ∈ mv0 b) (hv : (b, o, v) ∈ mv0 b) : t.1 = b ∧ (t.2.1 = o → t.2.2 = v) := by
  simp only [mv0, List.mem_cons, List.not_mem_nil, or_false, Prod.mk.injEq] at hv ht
  rcases ht with rfl | rfl | rfl | rfl <;> rcases hv with ⟨-, rfl, rfl⟩ | ⟨-, rfl, rfl⟩ | ⟨-, rfl, rfl⟩ | ⟨-, rfl, rfl⟩ <;> simp
theorem mv0_put {b o : Nat} {v : Value} {W : World} (h : CellsAt (mv0 b) W) (hv : (b, o, v) ∈ mv0 b) : CellsAt (mv0 b) (W.setCell ⟨b, o, none⟩ v) := by
  intro t ht
  obtain ⟨h1, h2⟩ := h t ht
  refine ⟨?_, (World.frozen?_setCell ..).trans h2⟩
  obtain ⟨e1, e2⟩ := mv0_fn ht hv
  obtain ⟨t1, t2, t3⟩ := t
  simp only at e1 e2 h1 ⊢
  subst e1
  by_cases ho : t2 = o
  · subst ho
    rw [e2 rfl]
    exact cell_set_same h1
  · exact (cell_set_other (.inr ho)).trans h1
theorem lay_callsI {F : Fence} {n : Nat} {P : Program} {f : FuncId} {args : Array Value} {W0 : World} {R : Ending → World → Prop} (X : World → Prop) (hX : X W0) (h : ∀ W, X W → CallsIn F n P f args W R) : CallsIn F n P f args W0 R := h W0 hX
theorem lay_rounds {F : Fence} {n m : Nat} {P : Program} {c : Code} {Q : Exit → Act → World → Prop} {a : Act} {W0 : World} (X : World → Prop) (hX : X W0) (h : ∀ W, X W → Code.roundsIn F n P c Q m a W) : Code.roundsIn F n P c Q m a W0 := h W0 hX
set_option maxHeartbeats 1000000 in
/-- The closure of pattern.Same keeps the first move. -/
theorem same1_any (fb eb : Nat) (w : World) (hf : BoxAt fb #[.int .i64 0, .int .i64 0, .bool false, .bool false] 71 w) (he : BoxAt eb #[.int .i64 6] 28 w) (hne : fb ≠ eb) :
    Calls Try.prog 58 #[.agg #[.int .i64 0, .int .i64 0, .bool false, .bool false], .pointer (some ⟨fb, 0, none⟩), .pointer (some ⟨eb, 0, none⟩)] w fun e w' => e = .returned (.bool false) ∧
      BoxAt fb #[.int .i64 0, .int .i64 0, .bool false, .bool false] 71 w' ∧ BoxAt eb #[.int .i64 0] 28 w' ∧ But [fb, eb] w w' := by
  have a0 := hf.cell (i := 0) rfl
  have a1 := hf.cell (i := 1) rfl
  have a2 := hf.cell (i := 2) rfl
  have a3 := hf.cell (i := 3) rfl
  have f0 := frozen_of_row _ _ 0 _ _ hf
  have f1 := frozen_of_row _ _ 1 _ _ hf
  have f2 := frozen_of_row _ _ 2 _ _ hf
  have f3 := frozen_of_row _ _ 3 _ _ hf
  have c0 := he.cell (i := 0) rfl
  have g0 := frozen_of_row _ _ 0 _ _ he
  have la := cell_lt a0
  have lc := cell_lt c0
  have HF := Lib.hid hf
  have HE := Lib.hid he
  have hne2 : ¬ eb = fb := fun e => hne e.symm
  clear hf he
  go_enter Try.func58, Try.ntmps58
  go_wp2_with fail
  go_ret
  refine ⟨rfl, ?_, ?_, ?_⟩
  · have h := (((HF.out.setCell 0 (.int .i64 0)).setCell 1 (.int .i64 0)).setCell 2 (.bool false)).setCell 3 (.bool false)
    exact (h.setOther (p := ⟨eb, 0, none⟩) hne (.int .i64 0)).ext ((Ext.refl _).alloc _)
  · have h := (((HE.out.setOther (p := ⟨fb, 0, none⟩) hne2 (.int .i64 0)).setOther (p := ⟨fb, 1, none⟩) hne2 (.int .i64 0)).setOther (p := ⟨fb, 2, none⟩) hne2 (.bool false)).setOther (p := ⟨fb, 3, none⟩) hne2 (.bool false)
    exact (h.setCell 0 (.int .i64 0)).ext ((Ext.refl _).alloc _)
  · exact (((((But.refl [fb, eb] w).setCell (p := ⟨fb, 0, none⟩) (by simp) _).setCell (p := ⟨fb, 1, none⟩) (by simp) _).setCell (p := ⟨fb, 2, none⟩) (by simp) _).setCell (p := ⟨fb, 3, none⟩) (by simp) _ |>.setCell (p := ⟨eb, 0, none⟩) (by simp) _).ext ((Ext.refl _).alloc _)
attribute [local go_sem] Oper.semAt_some
set_option maxRecDepth 100000 in
set_option maxHeartbeats 16000000 in
theorem search_alike (b1 b2 fb eb : Nat) (p q : PrT) (v u : PrV) (lv lu : Value) (t : Nat) (w : World) (h1 : BenchAt b1 w p v lv) (h2 : BenchAt b2 w q u lu) (hA : AlikeP p q t)
    (hfb : BoxAt fb #[.int .i64 0, .int .i64 0, .bool false, .bool false] 71 w) (heb : BoxAt eb #[.int .i64 6] 28 w) (hfe : fb ≠ eb) :
    Calls Try.prog 57 #[.pointer (some ⟨b1, 0, none⟩), .pointer (some ⟨b2, 0, none⟩), .int .u8 0, sameFn fb eb] w fun e w' => (∃ v, e = .returned v) ∧
      BoxAt fb #[.int .i64 0, .int .i64 0, .bool false, .bool false] 71 w' ∧ BoxAt eb #[.int .i64 0] 28 w' ∧ But [fb, eb] w w' := by
  have HFB := Lib.hid hfb
  have HEB := Lib.hid heb
  have HB1 := Lib.hid h1
  have HB2 := Lib.hid h2
  have HA := Lib.hid hA
  have HPV1 := Lib.hid (hA.tp.perV hA.gp)
  have HPV2 := Lib.hid (hA.tq.perV hA.gq)
  have HC1 := Lib.hid fun (W : World) (x : Ext w W) => closes_any b1 p v lv t W (h1.ext x) hA.gp hA.tp
  have HC2 := Lib.hid fun (W : World) (x : Ext w W) => (show Calls Try.prog 59 #[.pointer (some ⟨b2, 0, none⟩)] W fun e w' => e = .returned (.int .i64 ((closN p t : Nat) : Int)) ∧ Ext W w' from hA.clo ▸ closes_any b2 q u lu t W (h2.ext x) hA.gq hA.tq)
  have HO1 := Lib.hid fun (W : World) (x : Ext w W) => (show Calls Try.prog 87 #[.pointer (some ⟨b1, 0, none⟩), .pointer (some ⟨b2, 0, none⟩), .bool false] W fun e w' => e = .returned (.tuple #[.int .i64 0, .bool true]) ∧ Ext W w' from by
    have := offset_any b1 b2 p q v u lv lu false t W (h1.ext x) (h2.ext x) hA.gp hA.gq hA.tp hA.len
    rw [offN, hA.off] at this
    simpa using this)
  have HO2 := Lib.hid fun (W : World) (x : Ext w W) => offset_any b1 b2 p q v u lv lu true t W (h1.ext x) (h2.ext x) hA.gp hA.gq hA.tp hA.len
  obtain ⟨z1, z2⟩ := closN_bd hA.gp hA.tp
  obtain ⟨N, hN⟩ : ∃ N, N = closN p t := ⟨_, rfl⟩
  rw [← hN] at HC1 HC2 z1 z2
  obtain ⟨ov, hov⟩ : ∃ z, z = offN p q true t := ⟨_, rfl⟩
  obtain ⟨ob, hob⟩ : ∃ z, z = (offO p q true).isSome := ⟨_, rfl⟩
  rw [← hov, ← hob] at HO2
  obtain ⟨n, hn⟩ : ∃ n, n = p.ros.length := ⟨_, rfl⟩
  have HN := Lib.hid hn
  have HNQ := Lib.hid (show q.ros.length = n by rw [hn, hA.len])
  have HSO := Lib.hid fun (A : Option Addr) (c : Nat) (fv : Value) (W : World) => sort1_any A c fv W
  have HSA1 := Lib.hid fun (W : World) (x1 : BoxAt fb #[.int .i64 0, .int .i64 0, .bool false, .bool false] 71 W) (x2 : BoxAt eb #[.int .i64 6] 28 W) => same1_any fb eb W x1 x2 hfe
  clear h1 h2 hA hN hov hob hn hfb heb
  have F1 : Fence.wide.fn 59 := trivial
  have F2 : Fence.wide.fn 87 := trivial
  have F3 : Fence.wide.fn 88 := trivial
  have F4 : Fence.wide.fn 89 := trivial
  refine (callsIn_wide (n := 6)).1 ?_
  refine callsIn_of_wp_marks Try.func57 rfl trivial ?_ rfl
  simp only [Try.ntmps57, List.size_toArray, List.length_cons, List.length_nil, Nat.reduceAdd, Nat.reduceSub, Array.replicate_succ, Array.replicate_zero, List.push_toArray, List.append_toArray, List.nil_append, List.cons_append]
  gi_wp2
  refine lay_callsI (fun W => BoxAt w.heap.size #[.pointer (some ⟨b1, 0, none⟩)] 89 W ∧ BoxAt (w.heap.size + 1) #[.pointer (some ⟨b2, 0, none⟩)] 89 W ∧ Ext w W) ⟨(BoxAt.new w _ _).ext ((Ext.refl _).alloc _), ?_, by (repeat' (first | with_reducible exact Ext.refl _ | with_reducible apply Ext.alloc | with_reducible apply Ext.drew | with_reducible apply Ext.drewN | with_reducible refine Ext.setCell ?_ ?_ _ | with_reducible apply Ext.step | with_reducible assumption | with_reducible exact Nat.le_refl _ | (simp; done) | (simp; omega)))⟩ ?_
  · have := BoxAt.new (w.alloc (.cells #[.pointer (some ⟨b1, 0, none⟩)] 89)) #[.pointer (some ⟨b2, 0, none⟩)] 89
    simpa using this
  rintro W0 ⟨bx4, bx5, x0⟩
  refine (callsIn_wide.2 (HC1.out _ x0)).mono ?_
  rintro e W1 ⟨rfl, x1⟩
  have HX1 := Lib.hid (x0.trans x1)
  have HB4 := Lib.hid (bx4.ext x1)
  have HB5 := Lib.hid (bx5.ext x1)
  clear x0 x1 bx4 bx5
  have c4 := HB4.out.cell (i := 0) rfl
  have c5 := HB5.out.cell (i := 0) rfl
  have k7 : W1.cell? ⟨b1, 7, none⟩ = some (.int .i64 (n : Int)) := by rw [HN.out]; exact (HB1.out.box.ext HX1.out).cell (i := 7) rfl
  have j7 : W1.cell? ⟨b2, 7, none⟩ = some (.int .i64 (n : Int)) := by rw [← HNQ.out]; exact (HB2.out.box.ext HX1.out).cell (i := 7) rfl
  have k9 : W1.cell? ⟨b1, 9, none⟩ = some (.int .i64 (t : Int)) := by rw [← HPV1.out]; exact (HB1.out.box.ext HX1.out).cell (i := 9) rfl
  have j9 : W1.cell? ⟨b2, 9, none⟩ = some (.int .i64 (t : Int)) := by rw [← HPV2.out]; exact (HB2.out.box.ext HX1.out).cell (i := 9) rfl
  have y4 := But.cells (D := []) c4 (by simp)
  have y5 := But.cells (D := []) c5 (by simp)
  have y7 := But.cells (D := []) k7 (by simp)
  have y8 := But.cells (D := []) j7 (by simp)
  have y9 := But.cells (D := []) k9 (by simp)
  have yA := But.cells (D := []) j9 (by simp)
  have l4 := cell_lt c4
  have l5 := cell_lt c5
  have l7 := cell_lt k7
  have l8 := cell_lt j7
  clear c4 c5 k7 j7 k9 j9
  gi_wp2
  refine wpIn_region_steps [] 25 [(0, true), (1, true), (2, true), (3, true), (4, true), (5, true), (6, true), (7, true), (8, true), (9, true), (10, true), (11, true), (12, true), (13, true), (14, true), (15, true), (16, true), (17, true), (18, true), (19, true), (20, true), (21, true), (22, true), (23, true), (24, true)] (by kernel_rfl) (by decide +kernel) ?_
  iterate 23 (refine wpSD_q (by rfl) (fun _ _ _ => trivial) (fun K hK => ?_); go_simp; refine hK _ ?_; clear hK K)
  refine wpSD_q (by rfl) (fun _ _ _ => trivial) (fun K hK => ?_)
  go_simp
  refine ⟨.int .i64 (N : Int), fun δ => callsIn_wide.2 (HC2.out δ.wd (HX1.out.trans (ext_but0 δ.but))), hK _ ?_⟩
  clear hK K
  refine wpSD_q (by rfl) (fun _ _ _ => trivial) (fun K hK => ?_)
  go_simp
  refine hK _ ?_
  clear hK K
  refine wpSD_nil ?_
  intro W2 x2
  have HX2 := Lib.hid (HX1.out.trans x2)
  have HB42 := Lib.hid (HB4.out.ext x2)
  have HB52 := Lib.hid (HB5.out.ext x2)
  clear x2 y4 y5 y7 y8 y9 yA l4 l5 l7 l8
  have c4 := HB42.out.cell (i := 0) rfl
  have c5 := HB52.out.cell (i := 0) rfl
  have l4 := cell_lt c4
  have l5 := cell_lt c5
  simp only [List.drop_succ_cons, List.drop_zero]
  gi_wp2
  refine (callsIn_wide.2 (HO1.out _ HX2.out)).mono ?_
  rintro e W3 ⟨rfl, x3⟩
  have HX3 := Lib.hid (HX2.out.trans x3)
  have HB43 := Lib.hid (HB42.out.ext x3)
  have HB53 := Lib.hid (HB52.out.ext x3)
  clear x3 c4 c5 l4 l5
  have c4 := HB43.out.cell (i := 0) rfl
  have c5 := HB53.out.cell (i := 0) rfl
  have l4 := cell_lt c4
  have l5 := cell_lt c5
  gi_wp2
  refine lay_callsI (fun W => BoxAt W3.heap.size #[.int .i64 0] 3 W ∧ Ext W3 W) ⟨BoxAt.new W3 _ _, (Ext.refl _).alloc _⟩ ?_
  rintro W4 ⟨bx9, x4⟩
  refine (callsIn_wide.2 (HO2.out _ (HX3.out.trans x4))).mono ?_
  rintro e W5 ⟨rfl, x5⟩
  have HX5 := Lib.hid (HX3.out.trans (x4.trans x5))
  have HB44 := Lib.hid (HB43.out.ext (x4.trans x5))
  have HB54 := Lib.hid (HB53.out.ext (x4.trans x5))
  have HB9 := Lib.hid (bx9.ext x5)
  clear x4 x5 bx9 c4 c5 l4 l5
  gi_wp2
  have hNi : (0 : Int) < (N : Int) := by omega
  refine lay_in (fun W => BoxAt W5.heap.size #[.int .i64 ov] 3 W ∧ Ext W5 W) ⟨BoxAt.new W5 _ _, (Ext.refl _).alloc _⟩ ?_
  rintro W6 ⟨bx11, x6⟩
  have HX6 := Lib.hid (HX5.out.trans x6)
  have HB46 := Lib.hid (HB44.out.ext x6)
  have HB56 := Lib.hid (HB54.out.ext x6)
  have HB96 := Lib.hid (HB9.out.ext x6)
  have HB11 := Lib.hid bx11
  clear x6 bx11
  refine wpIn_loop_rounds 1 ?_
  rw [roundsIn_succ]
  gi_wp2
  refine wpIn_scope ?_
  gi_wp2
  refine wpIn_label ?_
  gi_wp2
  refine lay_in (fun W => BoxAt W6.heap.size #[.int .i64 0] 3 W ∧ BoxAt (W6.heap.size + 1) mvCells 71 W ∧ Ext W6 W) ⟨(BoxAt.new W6 _ _).ext ((Ext.refl _).alloc _), ?_, by (repeat' (first | with_reducible exact Ext.refl _ | with_reducible apply Ext.alloc | with_reducible apply Ext.drew | with_reducible apply Ext.drewN | with_reducible refine Ext.setCell ?_ ?_ _ | with_reducible apply Ext.step | with_reducible assumption | with_reducible exact Nat.le_refl _ | (simp; done) | (simp; omega)))⟩ ?_
  · have := BoxAt.new (W6.alloc (.cells #[.int .i64 0] 3)) mvCells 71
    simp only [World.size_alloc] at this
    exact this
  rintro W7 ⟨bx13, bxm, x7⟩
  have HX7 := Lib.hid (HX6.out.trans x7)
  have HB47 := Lib.hid (HB46.out.ext x7)
  have HB57 := Lib.hid (HB56.out.ext x7)
  have HB97 := Lib.hid (HB96.out.ext x7)
  have HB117 := Lib.hid (HB11.out.ext x7)
  have HB13 := Lib.hid bx13
  have HBM := Lib.hid bxm
  clear x7 bx13 bxm
  have m0 := HBM.out.cell (i := 0) rfl
  have m1 := HBM.out.cell (i := 1) rfl
  have m2 := HBM.out.cell (i := 2) rfl
  have m3 := HBM.out.cell (i := 3) rfl
  have lm := cell_lt m0
  have c4 := HB47.out.cell (i := 0) rfl
  have l4 := cell_lt c4
  refine wpIn_loop_rounds 5 ?_
  rw [roundsIn_succ]
  gi_wp2
  refine (phases_in Fence.wide _ trivial rfl b1 0 (N : Int) _).mono ?_
  rintro e W8 ⟨rfl, hw8⟩
  have X8 := Lib.hid (show Ext W7 W8 from by rw [hw8]; exact ((((Ext.refl _).alloc _).alloc _).alloc _).alloc _)
  have HB16 := Lib.hid (show BoxAt W7.heap.size #[.int .i64 0, .int .i64 0, .bool false, .bool false] 71 W8 from by rw [hw8]; exact (BoxAt.new W7 _ _).ext ((((Ext.refl _).alloc _).alloc _).alloc _))
  have HPA := Lib.hid (show PhsAt W8 [W7.heap.size] b1 (W7.heap.size + 1) (W7.heap.size + 1 + 1) (W7.heap.size + 1 + 1 + 1) N p v lv (t : Int) from by
    have hb := (HB1.out.ext (HX7.out.trans X8.out)).cs
    rw [HPV1.out] at hb
    have hlt := (HB1.out.ext HX7.out).box.lt
    exact ⟨by rw [hw8]; go_cell, by rw [hw8]; go_cell, by rw [hw8]; go_cell, hb, notin_lt (by omega), notin_gt (by omega), notin_gt (by omega), notin_gt (by omega)⟩)
  have HX8 := Lib.hid (HX7.out.trans X8.out)
  clear m0 m1 m2 m3 lm c4 l4 hw8
  simp only [World.size_alloc]
  gi_wp2
  have hb1lt : b1 < W8.heap.size := Nat.lt_of_lt_of_le HB1.out.box.lt HX8.out.bel.size
  have HNU := Lib.hid HA.out.gp.nums
  have HNM := Lib.hid HA.out.gq.nums
  refine range_const (N := N) (mv0 W7.heap.size) [W7.heap.size] rfl (by decide) (gf := 109) rfl trivial (fun _ _ => rfl)
    (phs_seq 5 (by decide) _ b1 _ _ _ N p v lv (t : Int) HNU.out (by omega) W8 HPA.out hb1lt) (fun _ => rfl) (fun d hd => by rw [List.mem_singleton] at hd; subst hd; exact HB16.out.lt) (mv0_of HB16.out)
    ?g ?assign ?body ?done
  case assign =>
    intro l x W K hW hK
    simp only [phsEnc]
    gi_wp2
    refine hK _ _ (Ext.refl _) ?_
    rfl
  case body =>
    intro l x W hl hlr hst
    clear hlr
    have HST := Lib.hid hst
    have HXW := Lib.hid hst.but
    have hW7 : W7.heap.size < W8.heap.size := HB16.out.lt
    have HX78 := Lib.hid (show ∀ (b : Nat) (o : Nat) (v : Value), b < W7.heap.size → W7.cell? ⟨b, o, none⟩ = some v → W.cell? ⟨b, o, none⟩ = some v from fun b o v hb hc => hst.but.cell (X8.out.cell_some hc) (notin_lt hb))
    have s13 : W6.heap.size < W7.heap.size := HB13.out.lt
    have s9 : W3.heap.size < W7.heap.size := HB97.out.lt
    have c13 := HX78.out _ 0 _ s13 (HB13.out.cell (i := 0) rfl)
    have c9 := HX78.out _ 0 _ s9 (HB97.out.cell (i := 0) rfl)
    obtain ⟨xv, hxv⟩ : ∃ z, z = x.val := ⟨_, rfl⟩
    have hxN : xv < N := by rw [hxv]; exact x.isLt
    obtain ⟨pz1, pz2⟩ := phaseZ_bd HNU.out (xv : Int)
    obtain ⟨k1, hk1⟩ : ∃ k : Nat, phaseZ p (xv : Int) = (k : Int) := ⟨(phaseZ p (xv : Int)).toNat, by omega⟩
    have hk1b : k1 < 96 := by have := HNU.out.n2; omega
    have HK1 := Lib.hid hk1
    have hx0 : ((x.val : Nat) : Int) = (xv : Int) := by rw [hxv]
    rw [hx0, hk1]
    have wx : IntKind.i64.wrap (xv : Int) = (xv : Int) := IntWalk.i64_in _ (by omega)
    have wk : IntKind.i64.wrap (-(k1 : Int)) = -(k1 : Int) := IntWalk.i64_in _ (by omega)
    have y13 := But.cells (D := []) c13 (by simp)
    have y9 := But.cells (D := []) c9 (by simp)
    have l13 := cell_lt c13
    have l9 := cell_lt c9
    clear hst c13 c9 hx0 hk1 pz1 pz2 hxv
    gi_wp2
    refine wpIn_region_steps [] 7 [(0, true), (1, true), (2, true), (3, true), (4, true), (5, true), (6, true)] (by kernel_rfl) (by decide +kernel) ?_
    iterate 7 (refine wpSD_q (by rfl) (fun _ _ _ => trivial) (fun K hK => ?_); go_simp; refine hK _ ?_; clear hK K)
    refine wpSD_nil ?_
    intro Wa xa
    have HSA := Lib.hid (HST.out.ext xa)
    have HXA := Lib.hid xa
    clear xa y13 y9 l13 l9
    simp only [List.drop_succ_cons, List.drop_zero]
    obtain ⟨a0, -⟩ := HSA.out.cells (W7.heap.size, 0, .int .i64 0) (by simp [mv0])
    obtain ⟨a1, -⟩ := HSA.out.cells (W7.heap.size, 1, .int .i64 0) (by simp [mv0])
    obtain ⟨a2, -⟩ := HSA.out.cells (W7.heap.size, 2, .bool false) (by simp [mv0])
    obtain ⟨a3, -⟩ := HSA.out.cells (W7.heap.size, 3, .bool false) (by simp [mv0])
    simp only at a0 a1 a2 a3
    have la := cell_lt a0
    gi_wp2
    refine lay_in (fun W => BoxAt Wa.heap.size #[.int .i64 0, .int .i64 0, .bool false, .bool false] 71 W ∧ Ext Wa W) ⟨BoxAt.new Wa _ _, (Ext.refl _).alloc _⟩ ?_
    rintro Wb ⟨bx21, xb⟩
    have HSB := Lib.hid (HSA.out.ext xb)
    have HBB := Lib.hid bx21
    obtain ⟨b21, hb21⟩ : ∃ b, b = Wa.heap.size := ⟨_, rfl⟩
    rw [← hb21] at HBB ⊢
    have HBL := Lib.hid (show b21 < Wb.heap.size from HBB.out.lt)
    have HWA := Lib.hid (show W8.heap.size ≤ b21 by rw [hb21]; exact HSA.out.but.size)
    have HWL := Lib.hid (show W.heap.size ≤ b21 by rw [hb21]; exact HXA.out.bel.size)
    have HXB := Lib.hid (HXA.out.trans xb)
    clear xb bx21 a0 a1 a2 a3 la hb21
    obtain ⟨qz1, qz2⟩ := phaseZ_bd HNM.out (xv : Int)
    obtain ⟨k2, hk2⟩ : ∃ k : Nat, phaseZ q (xv : Int) = (k : Int) := ⟨(phaseZ q (xv : Int)).toNat, by omega⟩
    have hk2b : k2 < 96 := by have := HNM.out.n2; omega
    have HPH := Lib.hid fun (W' : World) (x : Below b21 Wb W') => (show Calls Try.prog 38 #[.pointer (some ⟨b2, 0, none⟩), .int .i64 (xv : Int)] W' fun e w' => e = .returned (.int .i64 (k2 : Int)) ∧ Ext W' w' from by
      have hcs : BenchCs b2 W' q u lu (t : Int) := fun i y hy => by
        rw [x.cell (p := ⟨b2, i, none⟩) (Nat.lt_of_lt_of_le HB2.out.box.lt (Nat.le_trans HX8.out.bel.size HWA.out))]
        exact HSB.out.but.cell (HX8.out.cell_some ((HPV2.out ▸ HB2.out.cs) i y hy)) (notin_lt (Nat.lt_of_lt_of_le HB2.out.box.lt HX7.out.bel.size))
      have := phase_cells b2 q u lu (t : Int) (xv : Int) W' hcs HNM.out (by omega)
      rwa [hk2] at this)
    have HZ0 := Lib.hid (show (-(k1 : Int) + (k2 : Int)) % (t : Int) = 0 from by
      have h1 := HA.out.ph (xv : Int)
      have hd : (t : Int) ∣ (n : Int) := by
        have := HA.out.tp.dvd
        rw [liftL_len, ← HN.out] at this
        exact Int.ofNat_dvd.2 (Nat.dvd_of_mod_eq_zero this)
      have e1 : (k1 : Int) % (t : Int) = PH p.sh (xv : Int) % (t : Int) := by rw [← HK1.out, phaseZ_PH, ← HN.out, mod_mod_of hd]
      have e2 : (k2 : Int) % (t : Int) = PH q.sh (xv : Int) % (t : Int) := by rw [← hk2, phaseZ_PH, HNQ.out, mod_mod_of hd]
      rw [emod_sub_zero] at h1
      rw [show -(k1 : Int) + (k2 : Int) = (k2 : Int) - (k1 : Int) by omega, emod_sub_zero, e1, e2, h1])
    have HMD := Lib.hid fun W' : World => (show Calls Try.prog 37 #[.int .i64 (-(k1 : Int) + (k2 : Int)), .int .i64 (t : Int)] W' fun e w' => e = .returned (.int .i64 0) ∧ Ext W' w' from by
      have := modulo_any (-(k1 : Int) + (k2 : Int)) (t : Int) W' (by have := HA.out.tp.pos; omega) (by have h1 := HA.out.tp.le (by rw [liftL_len]; have := HNU.out.n1; omega); rw [liftL_len] at h1; have := HNU.out.n2; omega)
      rw [HZ0.out] at this
      exact this.mono (by rintro e w' ⟨h1, rfl⟩; exact ⟨h1, Ext.refl _⟩))
    have wk2 : IntKind.i64.wrap (-(k1 : Int) + (k2 : Int)) = -(k1 : Int) + (k2 : Int) := IntWalk.i64_in _ (by omega)
    have keepW : ∀ (b o : Nat) (v : Value), b < W7.heap.size → W7.cell? ⟨b, o, none⟩ = some v → Wb.cell? ⟨b, o, none⟩ = some v := fun b o v hb hc => HSB.out.but.cell (X8.out.cell_some hc) (notin_lt hb)
    have c4 := keepW _ 0 _ HB47.out.lt (HB47.out.cell (i := 0) rfl)
    have c5 := keepW _ 0 _ HB57.out.lt (HB57.out.cell (i := 0) rfl)
    have k9 : Wb.cell? ⟨b1, 9, none⟩ = some (.int .i64 (t : Int)) := by
      refine keepW _ 9 _ (Nat.lt_of_lt_of_le HB1.out.box.lt HX7.out.bel.size) ?_
      rw [← HPV1.out]
      exact (HB1.out.box.ext HX7.out).cell (i := 9) rfl
    have l4 := cell_lt c4
    have l5 := cell_lt c5
    have l9 := cell_lt k9
    have hB4 : w.heap.size < b21 := by have := HB47.out.lt; have := HWA.out; omega
    have hB5 : w.heap.size + 1 < b21 := by have := HB57.out.lt; have := HWA.out; omega
    have hB1 : b1 < b21 := by have := HWA.out; omega
    clear hk2 qz1 qz2 keepW
    refine wpIn_region_tree (B := b21) 12 [0, 1, 2, 3, 4, 5, 6, 7, 8, 9, 10] (Nat.le_of_lt HBL.out) (by kernel_rfl) (by decide +kernel) ?_
    iterate 3 (refine wpQ_step (by rfl) (fun _ _ _ => trivial) (fun K hK => ?_); go_simp; refine hK _ ?_; clear hK K)
    refine wpQ_step (by rfl) (fun _ _ _ => trivial) (fun K hK => ?_)
    go_simp
    refine ⟨.int .i64 (k2 : Int), fun δ => CallsIn.inRound l (callsIn_wide.2 (HPH.out δ.wd δ.bel)), hK _ ?_⟩
    clear hK K
    iterate 5 (refine wpQ_step (by rfl) (fun _ _ _ => trivial) (fun K hK => ?_); go_simp; refine hK _ ?_; clear hK K)
    refine wpQ_step (by rfl) (fun _ _ _ => trivial) (fun K hK => ?_)
    go_simp
    refine ⟨.int .i64 0, fun δ => CallsIn.inRound l (callsIn_wide.2 (HMD.out δ.wd)), hK _ ?_⟩
    clear hK K
    refine wpQ_step (by rfl) (fun _ _ _ => trivial) (fun K hK => ?_)
    go_simp
    refine hK _ ?_
    clear hK K
    refine wpQ_nil ?_
    change wpAnyT _ _ _ _ _ _ _ _ _ (0 + 1) _ _ _
    refine wpAnyT_step [11] (by decide +kernel) (by decide) (by decide) ?_
    intro i hi
    simp only [List.mem_cons, List.not_mem_nil, or_false] at hi
    subst hi
    refine ⟨_, by rfl, midT_step (by rfl) (fun _ _ _ => trivial) (fun δ K' hK' => ?_)⟩
    have E1 := Lib.hid (show Ext Wb δ.wd from ⟨δ, rfl⟩)
    have d1 := (HBB.out.ext E1.out).cell (i := 1) rfl
    have e1 := frozen_of_row _ _ 1 _ _ (HBB.out.ext E1.out)
    have ld := cell_lt d1
    go_simp
    refine ⟨(Below.refl _ _).setCell (p := ⟨b21, 1, none⟩) (Nat.le_refl _) _, hK' _ _ ?_⟩
    clear hK' K'
    refine ⟨by decide +kernel, fun Wc xc => ?_⟩
    have h16 : W7.heap.size < b21 := Nat.lt_of_lt_of_le hW7 HWA.out
    have HSC := Lib.hid (((HSB.out.ext E1.out).setFar (o := 1) (v := .int .i64 0) HWA.out (fun t ht => by
      simp only [mv0, List.mem_cons, List.not_mem_nil, or_false] at ht
      rcases ht with rfl | rfl | rfl | rfl <;> exact Nat.ne_of_lt h16)).ext xc)
    have HBC := Lib.hid (show BoxAt b21 #[.int .i64 0, .int .i64 0, .bool false, .bool false] 71 Wc from ((HBB.out.ext E1.out).setCell 1 (.int .i64 0)).ext xc)
    have HXC := Lib.hid (show But [W7.heap.size] W Wc from (((HXB.out.trans E1.out).setCell (p := ⟨b21, 1, none⟩) HWL.out _).trans xc).but)
    clear xc d1 e1 ld c4 c5 k9 l4 l5 l9
    simp only [List.drop_succ_cons, List.drop_nil]
    obtain ⟨a0, f0⟩ := HSC.out.cells (W7.heap.size, 0, .int .i64 0) (by simp [mv0])
    obtain ⟨a1, f1⟩ := HSC.out.cells (W7.heap.size, 1, .int .i64 0) (by simp [mv0])
    obtain ⟨a2, f2⟩ := HSC.out.cells (W7.heap.size, 2, .bool false) (by simp [mv0])
    obtain ⟨a3, f3⟩ := HSC.out.cells (W7.heap.size, 3, .bool false) (by simp [mv0])
    simp only at a0 a1 a2 a3 f0 f1 f2 f3
    have g0 := HBC.out.cell (i := 0) rfl
    have g1 := HBC.out.cell (i := 1) rfl
    have g2 := HBC.out.cell (i := 2) rfl
    have g3 := HBC.out.cell (i := 3) rfl
    have la := cell_lt a0
    have lg := cell_lt g0
    by_cases hx0 : xv = 0
    · subst hx0
      gi_wp2
      exact ⟨(), rfl, ((((HXC.out.setCell (p := ⟨W7.heap.size, 0, none⟩) (by simp) _).setCell (p := ⟨W7.heap.size, 1, none⟩) (by simp) _).setCell (p := ⟨W7.heap.size, 2, none⟩) (by simp) _).setCell (p := ⟨W7.heap.size, 3, none⟩) (by simp) _), mv0_put (mv0_put (mv0_put (mv0_put HSC.out.cells (by simp [mv0])) (by simp [mv0])) (by simp [mv0])) (by simp [mv0])⟩
    · have hx0b : ((xv : Int) == 0) = false := by simp; omega
      gi_wp2
      exact ⟨(), rfl, HXC.out, HSC.out.cells⟩
  case done =>
    intro M W hM hst hmark
    have HST := Lib.hid hst
    have HMK := Lib.hid hmark
    have hW7 : W7.heap.size < W8.heap.size := HB16.out.lt
    obtain ⟨a0, -⟩ := hst.cells (W7.heap.size, 0, .int .i64 0) (by simp [mv0])
    obtain ⟨a1, -⟩ := hst.cells (W7.heap.size, 1, .int .i64 0) (by simp [mv0])
    obtain ⟨a2, -⟩ := hst.cells (W7.heap.size, 2, .bool false) (by simp [mv0])
    obtain ⟨a3, -⟩ := hst.cells (W7.heap.size, 3, .bool false) (by simp [mv0])
    simp only at a0 a1 a2 a3
    have la := cell_lt a0
    have hMW : M < W.heap.size := (Array.getElem?_eq_some_iff.1 hmark).1
    have hWW : W8.heap.size ≤ W.heap.size := hst.but.size
    clear hst hmark
    gi_wp2_with (gi_at_builtin; refine EK.app_in (K := moveK) (B := W.heap.size) (xs := []) (v := .slice none 0 0) rfl (.tmp 154) (.tmp 156) rfl W.heap.size 1 (0, 0, false, false) rfl rfl (fun ii u hu => cell_new hu) (EK.Own.nil _ _) (by simp) (by simp) ?_; intro v' w3 o3 b3 g3; have HO3 := Lib.hid o3; have HX3 := Lib.hid (show Ext W w3 from ((Ext.refl W).alloc (.cells #[.int .i64 0, .int .i64 0, .bool false, .bool false] 71)).below b3 (Nat.le_refl _)); clear o3 b3 g3)
    have HMV := Lib.hid (show BoxAt (W6.heap.size + 1) mvCells 71 W from (HBM.out.ext X8.out).but HST.out.but (notin_lt HBM.out.lt))
    have HFW := Lib.hid (show BoxAt fb #[.int .i64 0, .int .i64 0, .bool false, .bool false] 71 W from (HFB.out.ext HX8.out).but HST.out.but (notin_lt (Nat.lt_of_lt_of_le HFB.out.lt HX7.out.bel.size)))
    have HEW := Lib.hid (show BoxAt eb #[.int .i64 6] 28 W from (HEB.out.ext HX8.out).but HST.out.but (notin_lt (Nat.lt_of_lt_of_le HEB.out.lt HX7.out.bel.size)))
    obtain ⟨g5, k5, hgv⟩ : ∃ g c, v' = .slice (some ⟨g, 0, none⟩) 1 c := by
      obtain ⟨g, c, e, _⟩ := HO3.out.slot (j := 0) (by simp)
      exact ⟨g, c, e⟩
    subst hgv
    clear a0 a1 a2 a3 la
    refine lay_rounds (fun W' => Ext w3 W') (by first | exact Ext.refl _ | exact (Ext.refl _).alloc _) ?_
    intro V1 xk
    have HV1 := Lib.hid (HX3.out.trans xk)
    have HU1 := Lib.hid xk
    clear xk
    have m0 := (HMV.out.ext HV1.out).cell (i := 4) rfl
    have m1 := (HMV.out.ext HV1.out).cell (i := 5) rfl
    have m2 := (HMV.out.ext HV1.out).cell (i := 6) rfl
    have m3 := (HMV.out.ext HV1.out).cell (i := 7) rfl
    have lm := cell_lt m0
    rw [roundsIn_succ]
    gi_wp2
    clear m0 m1 m2 m3 lm
    refine lay_rounds (fun W' => Ext V1 W') (by first | exact Ext.refl _ | exact (Ext.refl _).alloc _) ?_
    intro V2 xk
    have HV2 := Lib.hid (HV1.out.trans xk)
    have HU2 := Lib.hid (HU1.out.trans xk)
    clear xk
    have m0 := (HMV.out.ext HV2.out).cell (i := 8) rfl
    have m1 := (HMV.out.ext HV2.out).cell (i := 9) rfl
    have m2 := (HMV.out.ext HV2.out).cell (i := 10) rfl
    have m3 := (HMV.out.ext HV2.out).cell (i := 11) rfl
    have lm := cell_lt m0
    rw [roundsIn_succ]
    gi_wp2
    clear m0 m1 m2 m3 lm
    refine lay_rounds (fun W' => Ext V2 W') (by first | exact Ext.refl _ | exact (Ext.refl _).alloc _) ?_
    intro V3 xk
    have HV3 := Lib.hid (HV2.out.trans xk)
    have HU3 := Lib.hid (HU2.out.trans xk)
    clear xk
    have m0 := (HMV.out.ext HV3.out).cell (i := 12) rfl
    have m1 := (HMV.out.ext HV3.out).cell (i := 13) rfl
    have m2 := (HMV.out.ext HV3.out).cell (i := 14) rfl
    have m3 := (HMV.out.ext HV3.out).cell (i := 15) rfl
    have lm := cell_lt m0
    rw [roundsIn_succ]
    gi_wp2
    clear m0 m1 m2 m3 lm
    refine lay_rounds (fun W' => Ext V3 W') (by first | exact Ext.refl _ | exact (Ext.refl _).alloc _) ?_
    intro V4 xk
    have HV4 := Lib.hid (HV3.out.trans xk)
    have HU4 := Lib.hid (HU3.out.trans xk)
    clear xk
    rw [roundsIn_succ]
    gi_wp2
    refine (callsIn_wide.2 (HSO.out _ _ _ V4)).mono ?_
    rintro e V5 ⟨⟨vv, rfl⟩, x5⟩
    have HV5 := Lib.hid (HV4.out.trans x5)
    have HU5 := Lib.hid (HU4.out.trans x5)
    clear x5
    have ho5 := HO3.out.ext HU5.out
    obtain ⟨g', cg, hge, _, hgl, hgc, -⟩ := ho5.slot (j := 0) (by simp)
    simp only [Value.slice.injEq, Option.some.injEq, Addr.mk.injEq] at hge
    obtain ⟨⟨rfl, -⟩, -, -⟩ := hge
    have q0 := hgc 0 _ rfl
    have q1 := hgc 1 _ rfl
    have q2 := hgc 2 _ rfl
    have q3 := hgc 3 _ rfl
    simp only [moveK, Nat.zero_mul, Nat.zero_add, Nat.add_zero] at q0 q1 q2 q3
    have lq := cell_lt q0
    clear ho5 hgc
    have F58 : Fence.wide.fn 58 := trivial
    gi_wp2
    refine wpIn_loop_rounds 1 ?_
    rw [roundsIn_succ]
    gi_wp2
    have HV6 := Lib.hid (HV5.out.alloc (.cells #[.int .i64 0, .int .i64 0, .bool false, .bool false] 71))
    refine (callsIn_wide.2 (HSA1.out _ (HFW.out.ext HV6.out) (HEW.out.ext HV6.out))).mono ?_
    rintro e V7 ⟨rfl, of, oe, bb⟩
    have HOF := Lib.hid of
    have HOE := Lib.hid oe
    have HBB := Lib.hid bb
    clear of oe bb q0 q1 q2 q3 lq
    gi_wp2
    have hmk7 : V7.heap[M]? = some (.deferred (some [])) := by
      have h1 := HBB.out.block M (Nat.lt_of_lt_of_le hMW HV6.out.bel.size) (by
        have := Nat.lt_of_lt_of_le HFB.out.lt HX8.out.bel.size
        have := Nat.lt_of_lt_of_le HEB.out.lt HX8.out.bel.size
        simp only [List.mem_cons, List.not_mem_nil, or_false]
        omega)
      rw [h1, HV6.out.bel.block M hMW]
      exact HMK.out
    have hwM : w.heap.size ≤ M := Nat.le_trans HX8.out.bel.size hM
    have hxw : Ext w W := HST.out.but.below HX8.out (fun d hd => by rw [List.mem_singleton] at hd; subst hd; exact HX7.out.bel.size)
    have hbb : But [fb, eb] w V7 := (hxw.trans HV6.out).but.trans HBB.out
    refine leaves_marks [M] _ (by simp) (mark_one hmk7) (fun W' hW => ?_)
    have hne : ∀ i, i < w.heap.size → i ∉ [M] := fun i hi e => by rw [List.mem_singleton] at e; omega
    exact ⟨_, results_none rfl _ _ _, ⟨_, rfl⟩, (hW.block fb (hne fb HFB.out.lt)).trans HOF.out, (hW.block eb (hne eb HEB.out.lt)).trans HOE.out,
      ⟨hW.os.trans hbb.os, hW.tape.trans hbb.tape, hW.output.trans hbb.output, by rw [hW.size]; exact hbb.size, fun i hi hd => (hW.block i (hne i hi)).trans (hbb.block i hi hd)⟩⟩
end Go.Proofs.Ytkjgcmdabelohaa
