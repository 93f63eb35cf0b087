/- pattern.search from one program to another with the same phases, modulo the period, with no mirror and no way back: the move that leaves all where it is. Condition: the benches lie there. -/
import Derived.Test.YtkjgcmdabelohaaGreatMBase
import Derived.Test.YtkjgcmdabelohaaGreatProg
import Derived.BigGuardPart
import Derived.Test.YtkjgcmdabelohaaGreatMAcc
import Derived.Test.YtkjgcmdabelohaaGreatPOff
import Derived.Scope
namespace Go.Proofs.YtkjgcmdabelohaaGreat
section
/- RfQ: RfQ: Ranges over functions that go on reading where the round was left (the generic part of GSegs). No condition. -/
section
/- RfQ: Ranges over functions that go on reading where the round was left: the contract of the function keeps what lay in both ways. No condition. -/
section
/- RfSt: Ranges over functions whose body turns the cells of a few boxes, and may return. No condition. -/
open Go.RowKit

def CellsAt (cs : List (Nat × Nat × Value)) (W : World) : Prop := ∀ t ∈ cs, W.cell? ⟨t.1, t.2.1, none⟩ = some t.2.2 ∧ W.frozen? ⟨t.1, t.2.1, none⟩ = false
def KpD (D : List Nat) (B0 : Nat) (W W' : World) : Prop := ∀ b o v, b < B0 → b ∉ D → W.cell? ⟨b, o, none⟩ = some v → W'.cell? ⟨b, o, none⟩ = some v
theorem KpD.trans {D : List Nat} {B0 : Nat} {A B C : World} (h : KpD D B0 A B) (k : KpD D B0 B C) : KpD D B0 A C := fun b o v hb hn hc => k b o v hb hn (h b o v hb hn hc)
theorem KpD.put {D : List Nat} {B0 : Nat} {W : World} {l : Nat} {o o' : Obj} (hl : W.heap[l]? = some o) (ho : o.isCells = false) : KpD D B0 W (W.putObj l o') := fun _ _ _ _ _ h =>
  cell_kept h (grownBy_putObj' W l o') (fun r e => by cases e; exact ⟨o, hl, ho⟩)
theorem But.kpD {D : List Nat} {W W' : World} (h : But D W W') (B0 : Nat) : KpD D B0 W W' := fun _ _ _ _ hn hc => h.cell hc hn
theorem CellsAt.grown {cs : List (Nat × Nat × Value)} {A B : World} {row : Option Nat} (h : CellsAt cs A) (hg : A.grownBy B row) (hr : ∀ r, row = some r → ∃ o : Obj, A.heap[r]? = some o ∧ o.isCells = false) : CellsAt cs B := fun t ht => by
  obtain ⟨h1, h2⟩ := h t ht
  exact ⟨cell_kept h1 hg hr, (frozen_kept h1 hg hr).trans h2⟩
theorem CellsAt.ext {cs : List (Nat × Nat × Value)} {A B : World} (h : CellsAt cs A) (x : Ext A B) : CellsAt cs B := h.grown (x.grow none) (fun r e => by cases e)

/-- All but the boxes D lies as it lay; these cells hold what they hold. -/
structure StAt (D : List Nat) (W0 : World) (cs : List (Nat × Nat × Value)) (W : World) : Prop where
  but : But D W0 W
  cells : CellsAt cs W
theorem StAt.grown {D : List Nat} {W0 A B : World} {cs : List (Nat × Nat × Value)} {row : Option Nat} (h : StAt D W0 cs A) (hg : A.grownBy B row) (hr : ∀ r, row = some r → W0.heap.size ≤ r ∧ ∃ o : Obj, A.heap[r]? = some o ∧ o.isCells = false) : StAt D W0 cs B :=
  ⟨h.but.grown hg (fun r e => .inr (hr r e).1), h.cells.grown hg (fun r e => (hr r e).2)⟩
theorem StAt.ext {D : List Nat} {W0 A B : World} {cs : List (Nat × Nat × Value)} (h : StAt D W0 cs A) (x : Ext A B) : StAt D W0 cs B := ⟨h.but.ext x, h.cells.ext x⟩

/-- How a round is left. -/
def StPost {σ : Type} (D : List Nat) (cells : σ → List (Nat × Nat × Value)) (X : World → Prop) (W : World) (r : Option σ) : Exit → Act → World → Prop
  | .normal, _, W' => ∃ s, r = some s ∧ But D W W' ∧ CellsAt (cells s) W'
  | .ret, _, W' => r = none ∧ But D W W' ∧ X W'
  | _, _, _ => False

theorem But.keepsFrom {D : List Nat} {W W' : World} {B : Nat} (h : But D W W') (hD : ∀ d ∈ D, d < B) : KeepsFrom B W W' :=
  ⟨h.size, fun k o hk ho _ => (h.block k (Array.getElem?_eq_some_iff.1 ho).1 (fun hd => by have := hD k hd; omega)).trans ho⟩

/-- The rounds so far. -/
def StI {σ : Type} {N : Nat} (D : List Nat) (cells : σ → List (Nat × Nat × Value)) (f : σ → Nat → Option σ) (s0 : σ) (w : World) (pre : List (Fin N)) (W : World) : Prop :=
  ∃ s, (pre.map Fin.val).foldlM f s0 = some s ∧ StAt D w (cells s) W
def StX {σ : Type} {N : Nat} (D : List Nat) (f : σ → Nat → Option σ) (s0 : σ) (X : World → Prop) (w : World) (c : Code) (pre : List (Fin N)) (W : World) : Prop :=
  c = .ret ∧ (pre.map Fin.val).foldlM f s0 = none ∧ But D w W ∧ X W

section
variable {σ : Type} {N : Nat} {D : List Nat} {cells : σ → List (Nat × Nat × Value)} {f : σ → Nat → Option σ} {s0 : σ} {X : World → Prop} {w : World}

theorem foldM_snoc (pre : List (Fin N)) (x : Fin N) : ((pre ++ [x]).map Fin.val).foldlM f s0 = ((pre.map Fin.val).foldlM f s0).bind fun s => f s x.val := by
  rw [List.map_append, List.foldlM_append]
  cases (pre.map Fin.val).foldlM f s0 with
  | none => rfl
  | some s =>
    show (List.foldlM f s (List.map Fin.val [x])) = f s x.val
    simp
theorem foldM_stop {c : Nat} (hc : c ≤ N) (h : (List.range c).foldlM f s0 = none) : (List.range N).foldlM f s0 = none := by
  obtain ⟨d, rfl⟩ := Nat.exists_eq_add_of_le hc
  rw [List.range_add, List.foldlM_append, h]
  rfl
theorem StI.own : OwnFrom w.heap.size (StI (N := N) D cells f s0 w) := fun _ _ _ _ hs hg hr => by
  obtain ⟨s, h1, h2⟩ := hs
  exact ⟨s, h1, h2.grown hg hr⟩
theorem StX.own (hX : OwnFrom w.heap.size (fun (_ : Unit) W => X W)) (c : Code) : OwnFrom w.heap.size (StX (N := N) D f s0 X w c) := fun _ _ _ _ hs hg hr => by
  obtain ⟨h1, h2, h3, h4⟩ := hs
  exact ⟨h1, h2, h3.grown hg (fun r e => .inr (hr r e).1), hX () _ _ _ h4 hg hr⟩
theorem StI.step {pre : List (Fin N)} {x : Fin N} {s : σ} {W : World} (hD : ∀ d ∈ D, d < w.heap.size) (h1 : (pre.map Fin.val).foldlM f s0 = some s) (h2 : But D w W) : ∀ (e : Exit) (a : Act) (W' : World), StPost D cells X W (f s x.val) e a W' →
    ownPostG w.heap.size (KpD D w.heap.size) (StI (N := N) D cells f s0 w) (StX D f s0 X w) (pre ++ [x]) W e a W'
  | .normal, _, W', ⟨s', h3, h4, h5⟩ => ⟨h4.keepsFrom hD, h4.kpD _, s', by rw [foldM_snoc, h1]; exact h3, h2.trans h4, h5⟩
  | .ret, _, W', ⟨h3, h4, h5⟩ => ⟨h4.keepsFrom hD, rfl, by rw [foldM_snoc, h1]; exact h3, h2.trans h4, h5⟩
  | .exit _, _, _, h => h.elim
  | .goto _, _, _, h => h.elim
  | .panic _, _, _, h => h.elim
  | .outgrown, _, _, h => h.elim

variable {F : Fence} {nn : Nat} {g : Operand} {ps : Array Tmp} {assign body : Code} {Q : Exit → Act → World → Prop} {a : Act}

def Upto (N : Nat) (ys : List (Fin N)) : Prop := ∃ c, c ≤ N ∧ ys.map Fin.val = List.range c

theorem wpIn_rangeFunc_st (cells : σ → List (Nat × Nat × Value)) (f : σ → Nat → Option σ) (s0 : σ) (X : World → Prop) (D : List Nat) (hro : F.round = none) (h1 : 1 ≤ nn) {gf : Nat} {lb : Array Value} (hg : a.eval g = .func (.func gf) #[] lb) (hFg : F.fn gf) (eg : ∀ args w, (callFunc gf args).run Tryz.prog w = .ok (.enter gf args) w)
    {encs : Fin N → Array Value} (hseq : SeqStopsK F (nn - 1) Tryz.prog gf lb encs (KpD D w.heap.size) (fun ys => ys.map Fin.val = List.range N) (Upto N) N w) (hps : ∀ x, (encs x).size = ps.size)
    (hD : ∀ d ∈ D, d < w.heap.size) (h0 : CellsAt (cells s0) w) (hX : OwnFrom w.heap.size (fun (_ : Unit) W => X W)) (Ax : Fin N → Act → World → Prop) (hAx : ∀ x a', OwnFrom w.heap.size (fun (_ : Unit) W => Ax x a' W))
    (hassign : ∀ (l : Nat) (x : Fin N) (W : World) (K : Act → World → Prop), w.heap.size ≤ W.heap.size → (∀ a' W', Ext W W' → Ax x a' W' → K a' W') →
      assign.wpIn (F.inRound l) (nn - 1 - 1) Tryz.prog (Exit.then K (fun _ _ _ => False)) { tmps := (ps.zip (encs x)).foldl (fun t (p, v) => t.setIfInBounds p v) a.tmps, defers := [] } W)
    (hbody : ∀ (l : Nat) (s : σ) (x : Fin N) (a' : Act) (W : World), w.heap.size ≤ l → (∃ r, W.heap[l]? = some (.loop r)) → StAt D w (cells s) W → Ax x a' W →
      body.wpIn (F.inRound l) (nn - 1 - 1) Tryz.prog (StPost D cells X W (f s x.val)) a' W)
    (hdone : ∀ (M : Nat) (s : σ) (W : World), w.heap.size ≤ M → (List.range N).foldlM f s0 = some s → StAt D w (cells s) W → W.heap[M]? = some (.deferred (some [])) → Q .normal { a with defers := { target := .collected M, args := #[] } :: a.defers } W)
    (hstop : ∀ (M : Nat) (W : World), w.heap.size ≤ M → (List.range N).foldlM f s0 = none → But D w W → X W → W.heap[M]? = some (.deferred (some [])) → Q .ret { a with defers := { target := .collected M, args := #[] } :: a.defers } W) :
    (Code.rangeFunc g ps assign body).wpIn F nn Tryz.prog Q a w := by
  refine wpIn_rangeFunc_ownH hro h1 hg hFg eg hseq KpD.trans (fun _ _ _ _ _ h1 h2 _ => KpD.put h1 h2) (Below.refl _ _) hps
    (StI D cells f s0 w) (StX D f s0 X w) StI.own (StX.own hX) ⟨s0, rfl, But.refl _ _, h0⟩ Ax hAx ?_ ?_ ?_ ?_
  · intro l pre x W K hI hK
    obtain ⟨s, h2, h3⟩ := hI
    exact hassign l x W K h3.but.size fun a' W' hx hax => hK a' W' ((KeepsOthers.of_ext hx).from _) (fun _ _ _ _ _ h => hx.cell_some h) ⟨s, h2, h3.ext hx⟩ hax
  · intro l pre x a' W hl hr hI hax _
    obtain ⟨s, h2, h3⟩ := hI
    exact wpIn_mono (hbody l s x a' W hl hr h3 hax) (StI.step hD h2 h3.but)
  · intro M xs W hM hS hI hmark
    obtain ⟨s, h2, h3⟩ := hI
    exact hdone M s W hM (by rw [← hS]; exact h2) h3 hmark
  · intro M c pre W hM hS hI hmark
    obtain ⟨rfl, h2, h3, h4⟩ := hI
    obtain ⟨c, hc, hp⟩ := hS
    exact wpIn_ret (hstop M W hM (foldM_stop hc (by rw [← hp]; exact h2)) h3 h4 hmark)

/-- The same within a round of another one. -/
theorem wpIn_rangeFunc_stN (cells : σ → List (Nat × Nat × Value)) (f : σ → Nat → Option σ) (s0 : σ) (X : World → Prop) (D : List Nat) {l₀ : Nat} {r₀ : Loop} (hro : F.round = some l₀) (hl₀ : w.heap[l₀]? = some (.loop r₀)) (h1 : 1 ≤ nn) {gf : Nat} {lb : Array Value} (hg : a.eval g = .func (.func gf) #[] lb) (hFg : F.fn gf) (eg : ∀ args w, (callFunc gf args).run Tryz.prog w = .ok (.enter gf args) w)
    {encs : Fin N → Array Value} (hseq : SeqStopsK F (nn - 1) Tryz.prog gf lb encs (KpD D w.heap.size) (fun ys => ys.map Fin.val = List.range N) (Upto N) N w) (hps : ∀ x, (encs x).size = ps.size)
    (hD : ∀ d ∈ D, d < w.heap.size) (h0 : CellsAt (cells s0) w) (hX : OwnFrom w.heap.size (fun (_ : Unit) W => X W)) (Ax : Fin N → Act → World → Prop) (hAx : ∀ x a', OwnFrom w.heap.size (fun (_ : Unit) W => Ax x a' W))
    (hassign : ∀ (l : Nat) (x : Fin N) (W : World) (K : Act → World → Prop), w.heap.size ≤ W.heap.size → (∀ a' W', Ext W W' → Ax x a' W' → K a' W') →
      assign.wpIn (F.inRound l) (nn - 1 - 1) Tryz.prog (Exit.then K (fun _ _ _ => False)) { tmps := (ps.zip (encs x)).foldl (fun t (p, v) => t.setIfInBounds p v) a.tmps, defers := [] } W)
    (hbody : ∀ (l : Nat) (s : σ) (x : Fin N) (a' : Act) (W : World), w.heap.size ≤ l → (∃ r, W.heap[l]? = some (.loop r)) → StAt D w (cells s) W → Ax x a' W →
      body.wpIn (F.inRound l) (nn - 1 - 1) Tryz.prog (StPost D cells X W (f s x.val)) a' W)
    (hdone : ∀ (s : σ) (W : World), (List.range N).foldlM f s0 = some s → StAt D w (cells s) W → Q .normal a W)
    (hstop : ∀ (W : World), (List.range N).foldlM f s0 = none → But D w W → X W → Q .ret a W) :
    (Code.rangeFunc g ps assign body).wpIn F nn Tryz.prog Q a w := by
  refine wpIn_rangeFunc_ownN hro hl₀ h1 hg hFg eg hseq KpD.trans (fun _ _ _ _ _ h1 h2 _ => KpD.put h1 h2) (Below.refl _ _) hps
    (StI D cells f s0 w) (StX D f s0 X w) StI.own (StX.own hX) ⟨s0, rfl, But.refl _ _, h0⟩ Ax hAx ?_ ?_ ?_ ?_
  · intro l pre x W K hI hK
    obtain ⟨s, h2, h3⟩ := hI
    exact hassign l x W K h3.but.size fun a' W' hx hax => hK a' W' ((KeepsOthers.of_ext hx).from _) (fun _ _ _ _ _ h => hx.cell_some h) ⟨s, h2, h3.ext hx⟩ hax
  · intro l pre x a' W hl hr hI hax _
    obtain ⟨s, h2, h3⟩ := hI
    exact wpIn_mono (hbody l s x a' W hl hr h3 hax) (StI.step hD h2 h3.but)
  · intro xs W hS hI
    obtain ⟨s, h2, h3⟩ := hI
    exact hdone s W (by rw [← hS]; exact h2) h3
  · intro c pre W hS hI
    obtain ⟨rfl, h2, h3, h4⟩ := hI
    obtain ⟨c, hc, hp⟩ := hS
    exact wpIn_ret (hstop W (foldM_stop hc (by rw [← hp]; exact h2)) h3 h4)
end
end
open Go.RowKit

/-- A function that yields the elements 0, 1, .. N - 1, in order; it is told that what it reads lies on, even where the round was left. -/
def SeqSt {N : Nat} (F : Fence) (n : Nat) (P : Program) (gf : Nat) (lb : Array Value) (encs : Fin N → Array Value) (D : List Nat) (w : World) : Prop :=
  ∀ (l : Nat) (J : Nat → World → Prop) (Jx : World → Prop) (W : World), Below w.heap.size w W → (∀ c A B, J c A → Ext A B → J c B) → (∀ A B, Jx A → Ext A B → Jx B) →
    (∀ (x : Fin N) (W1 : World), J x.val W1 → YieldAt F (n - 1) P l (encs x) W1 fun e W' =>
      KpD D w.heap.size W1 W' ∧ ((e = .returned (.bool true) ∧ J (x.val + 1) W') ∨ (e = .returned (.bool false) ∧ Jx W'))) →
    J 0 W → CallsIn F n P gf (#[.func (.yield l) #[] #[]] ++ lb) W fun e W' => (∃ v, e = .returned v) ∧ (J N W' ∨ Jx W')

section
variable {σ : Type} {N : Nat} {D : List Nat} {cells : σ → List (Nat × Nat × Value)} {f : σ → Nat → Option σ} {s0 : σ} {X : World → Prop} {w : World}
variable {F : Fence} {nn : Nat} {g : Operand} {ps : Array Tmp} {assign body : Code} {Q : Exit → Act → World → Prop} {a : Act}

theorem foldM_succ {c : Nat} {s : σ} (h : (List.range c).foldlM f s0 = some s) : (List.range (c + 1)).foldlM f s0 = f s c := by
  rw [List.range_succ, List.foldlM_append, h]
  show List.foldlM f s [c] = f s c
  simp

/-- The rounds, whatever the loop's record is. -/
theorem range_core {gf : Nat} {lb : Array Value} {encs : Fin N → Array Value} {W1 : World} {l fn dd : Nat} {a' : Act} {G : World → Prop} {rec : LoopState → Option Code → Loop}
    (hrec : rec = fun st pe => { state := st, pending := pe, fn := fn, tmps := a.tmps, params := ps, assign := assign, body := body, defers := dd }) (hfn : F.fn fn)
    (hseq : SeqSt F (nn - 1) Tryz.prog gf lb encs D w) (hps : ∀ x, (encs x).size = ps.size) (hD : ∀ d ∈ D, d < w.heap.size) (hb : Below w.heap.size w W1) (hl : w.heap.size ≤ l) (hl1 : W1.heap[l]? = some (.loop (rec .ready none)))
    (h0 : StAt D w (cells s0) W1) (hG1 : G W1) (hGb : ∀ A B, G A → But D A B → G B) (hGp : ∀ A o', G A → G (A.putObj l o'))
    (hX : OwnFrom w.heap.size (fun (_ : Unit) W => X W)) (Ax : Fin N → Act → World → Prop) (hAx : ∀ x a', OwnFrom w.heap.size (fun (_ : Unit) W => Ax x a' W))
    (hassign : ∀ (x : Fin N) (W : World) (K : Act → World → Prop), w.heap.size ≤ W.heap.size → (∀ a' W', Ext W W' → Ax x a' W' → K a' W') →
      assign.wpIn (F.inRound l) (nn - 1 - 1) Tryz.prog (Exit.then K (fun _ _ _ => False)) { tmps := (ps.zip (encs x)).foldl (fun t (p, v) => t.setIfInBounds p v) a.tmps, defers := [] } W)
    (hbody : ∀ (s : σ) (x : Fin N) (a' : Act) (W : World), (List.range x.val).foldlM f s0 = some s → (∃ r, W.heap[l]? = some (.loop r)) → StAt D w (cells s) W → Ax x a' W →
      body.wpIn (F.inRound l) (nn - 1 - 1) Tryz.prog (StPost D cells X W (f s x.val)) a' W)
    (hdone : ∀ (s : σ) (W : World), (List.range N).foldlM f s0 = some s → StAt D w (cells s) W → G W → Q .normal a' W)
    (hstop : ∀ (W : World), (List.range N).foldlM f s0 = none → But D w W → X W → G W → Q .ret a' W) :
    CallsIn F (nn - 1) Tryz.prog gf (#[.func (.yield l) #[] #[]] ++ lb) W1 (rangePost F nn Tryz.prog l Q a') := by
  have put : ∀ (A : World) (o o' : Obj) (cs : List (Nat × Nat × Value)), A.heap[l]? = some o → o.isCells = false → StAt D w cs A → StAt D w cs (A.putObj l o') := fun A o o' cs ho hc h =>
    h.grown (grownBy_putObj' A l o') (fun r e => by cases e; exact ⟨hl, o, ho, hc⟩)
  have hlD : l ∉ D := fun h => by have := hD l h; omega
  have rl : ∀ st pe, (Obj.loop (rec st pe)).isCells = false := fun _ _ => rfl
  refine (hseq l (fun c W => ∃ s, (List.range c).foldlM f s0 = some s ∧ StAt D w (cells s) W ∧ G W ∧ W.heap[l]? = some (.loop (rec .ready none)))
    (fun W => (List.range N).foldlM f s0 = none ∧ But D w W ∧ X W ∧ G W ∧ W.heap[l]? = some (.loop (rec .done (some .ret)))) W1 hb ?_ ?_ ?_ ⟨s0, rfl, h0, hG1, hl1⟩).mono ?_
  · rintro c A B ⟨s, h1, h2, h3, h4⟩ x
    exact ⟨s, h1, h2.ext x, hGb _ _ h3 x.but, (x.bel.block l (Array.getElem?_eq_some_iff.1 h4).1).trans h4⟩
  · rintro A B ⟨h1, h2, h3, h4, h5⟩ x
    exact ⟨h1, h2.ext x, hX () _ _ none h3 (x.grow none) (fun r e => by cases e), hGb _ _ h4 x.but, (x.bel.block l (Array.getElem?_eq_some_iff.1 h5).1).trans h5⟩
  · rintro x W ⟨s, h1, h2, h3, h4⟩
    have hy := run_yield (P := Tryz.prog) (args := encs x) h4 (by rw [hrec]; exact hps x)
    rw [hrec] at hy
    refine ⟨fn, _, assign, body, hy, roundIn_of_wpIn hfn (hassign x W _ h2.but.size ?_)⟩
    clear hy
    intro a1 Wa xa hax
    have h4a := (xa.bel.block l (Array.getElem?_eq_some_iff.1 h4).1).trans h4
    refine ⟨_, run_beginRound h4a (by rw [hrec]), ?_⟩
    have h2b := put Wa _ (.loop { rec .ready none with state := .busy }) _ h4a (rl _ _) (h2.ext xa)
    have h4b : (Wa.putObj l (.loop { rec .ready none with state := .busy })).heap[l]? = some (.loop { rec .ready none with state := .busy }) := World.putObj_heap_same (Array.getElem?_eq_some_iff.1 h4a).1
    have hGb' := hGp _ (.loop { rec .ready none with state := .busy }) (hGb _ _ h3 xa.but)
    refine wpIn_mono (hbody s x a1 _ h1 ⟨_, h4b⟩ h2b ((hAx x a1).putObj (s := ()) _ hax hl h4a (rl _ _))) ?_
    have k1 : KpD D w.heap.size W (Wa.putObj l (.loop { rec .ready none with state := .busy })) := KpD.trans (fun _ _ _ _ _ h => xa.cell_some h) (KpD.put h4a (rl _ _))
    rintro e a3 W3 hp
    cases e with
    | normal =>
      obtain ⟨s', e1, e2, e3⟩ := hp
      have h4c := (e2.block l (Array.getElem?_eq_some_iff.1 h4b).1 hlD).trans h4b
      have hr := run_endRound (P := Tryz.prog) none h4c
      refine ⟨_, _, hr, k1.trans ((e2.kpD _).trans (KpD.put h4c rfl)), .inl ⟨rfl, s', by rw [foldM_succ h1, e1], ?_, hGp _ _ (hGb _ _ hGb' e2), ?_⟩⟩
      · exact put W3 _ _ _ h4c rfl ⟨h2b.but.trans e2, e3⟩
      · rw [World.putObj_heap_same (Array.getElem?_eq_some_iff.1 h4c).1, hrec]
        rfl
    | ret =>
      obtain ⟨e1, e2, e3⟩ := hp
      have h4c := (e2.block l (Array.getElem?_eq_some_iff.1 h4b).1 hlD).trans h4b
      have hr := run_endRound (P := Tryz.prog) (some .ret) h4c
      refine ⟨_, _, hr, k1.trans ((e2.kpD _).trans (KpD.put h4c rfl)), .inr ⟨rfl, foldM_stop (c := x.val + 1) x.isLt (by rw [foldM_succ h1, e1]), ?_, hX.putObj (s := ()) _ e3 hl h4c rfl, hGp _ _ (hGb _ _ hGb' e2), ?_⟩⟩
      · exact (h2b.but.trans e2).grown (grownBy_putObj' _ l _) (fun r e => by cases e; exact .inr hl)
      · rw [World.putObj_heap_same (Array.getElem?_eq_some_iff.1 h4c).1, hrec]
        rfl
    | exit id => exact hp.elim
    | goto t => exact hp.elim
    | panic ch => exact hp.elim
    | outgrown => exact hp.elim
  · rintro e W2 ⟨⟨v, rfl⟩, (⟨s, h1, h2, h3, h4⟩ | ⟨h1, h2, h3, h4, h5⟩)⟩
    · exact ⟨none, _, by have := run_endLoop (P := Tryz.prog) h4 (by rw [hrec]; simp); rw [hrec] at this; exact this, hdone s _ h1 (put W2 _ _ _ h4 (rl _ _) h2) (hGp _ _ h3)⟩
    · exact ⟨some .ret, _, by have := run_endLoop (P := Tryz.prog) h5 (by rw [hrec]; simp); rw [hrec] at this; exact this,
        wpIn_ret (hstop _ h1 (h2.grown (grownBy_putObj' _ l _) (fun r e => by cases e; exact .inr hl)) (hX.putObj (s := ()) _ h3 hl h5 (rl _ _)) (hGp _ _ h4))⟩

theorem wpIn_range_out (cells : σ → List (Nat × Nat × Value)) (f : σ → Nat → Option σ) (s0 : σ) (X : World → Prop) (D : List Nat) (hro : F.round = none) (h1 : 1 ≤ nn) {gf : Nat} {lb : Array Value} (hg : a.eval g = .func (.func gf) #[] lb) (hFg : F.fn gf) (eg : ∀ args w, (callFunc gf args).run Tryz.prog w = .ok (.enter gf args) w)
    {encs : Fin N → Array Value} (hseq : SeqSt F (nn - 1) Tryz.prog gf lb encs D w) (hps : ∀ x, (encs x).size = ps.size)
    (hD : ∀ d ∈ D, d < w.heap.size) (h0 : CellsAt (cells s0) w) (hX : OwnFrom w.heap.size (fun (_ : Unit) W => X W)) (Ax : Fin N → Act → World → Prop) (hAx : ∀ x a', OwnFrom w.heap.size (fun (_ : Unit) W => Ax x a' W))
    (hassign : ∀ (l : Nat) (x : Fin N) (W : World) (K : Act → World → Prop), w.heap.size ≤ W.heap.size → (∀ a' W', Ext W W' → Ax x a' W' → K a' W') →
      assign.wpIn (F.inRound l) (nn - 1 - 1) Tryz.prog (Exit.then K (fun _ _ _ => False)) { tmps := (ps.zip (encs x)).foldl (fun t (p, v) => t.setIfInBounds p v) a.tmps, defers := [] } W)
    (hbody : ∀ (l : Nat) (s : σ) (x : Fin N) (a' : Act) (W : World), w.heap.size ≤ l → (List.range x.val).foldlM f s0 = some s → (∃ r, W.heap[l]? = some (.loop r)) → StAt D w (cells s) W → Ax x a' W →
      body.wpIn (F.inRound l) (nn - 1 - 1) Tryz.prog (StPost D cells X W (f s x.val)) a' W)
    (hdone : ∀ (M : Nat) (s : σ) (W : World), w.heap.size ≤ M → (List.range N).foldlM f s0 = some s → StAt D w (cells s) W → W.heap[M]? = some (.deferred (some [])) → Q .normal { a with defers := { target := .collected M, args := #[] } :: a.defers } W)
    (hstop : ∀ (M : Nat) (W : World), w.heap.size ≤ M → (List.range N).foldlM f s0 = none → But D w W → X W → W.heap[M]? = some (.deferred (some [])) → Q .ret { a with defers := { target := .collected M, args := #[] } :: a.defers } W) :
    (Code.rangeFunc g ps assign body).wpIn F nn Tryz.prog Q a w := by
  refine wpIn_rangeFunc ?_
  intro fn hfn
  rw [hro]
  obtain ⟨rec, hrec⟩ : ∃ rec : LoopState → Option Code → Loop, rec = fun st pe => { state := st, pending := pe, fn := fn, tmps := a.tmps, params := ps, assign := assign, body := body, defers := w.heap.size } := ⟨_, rfl⟩
  obtain ⟨W1, hW1⟩ : ∃ W1, (w.alloc (.deferred (some []))).alloc (.loop (rec .ready none)) = W1 := ⟨_, rfl⟩
  have hL1 : W1.heap[w.heap.size + 1]? = some (.loop (rec .ready none)) := by
    rw [← hW1]; have := World.alloc_heap_new (w.alloc (.deferred (some []))) (.loop (rec .ready none)); rwa [World.size_alloc] at this
  have hK1 : W1.heap[w.heap.size]? = some (.deferred (some [])) := by
    rw [← hW1]; exact (Below.heap_alloc _ _ _ (by simp)).trans (World.alloc_heap_new w _)
  have hx1 : Ext w W1 := by rw [← hW1]; exact ((Ext.refl w).alloc _).alloc _
  have hnd : w.heap.size ∉ D := fun h => by have := hD _ h; omega
  refine ⟨w.heap.size + 1, [{ target := .collected w.heap.size, args := #[] }], W1, { target := .fn (.func gf) lb, args := #[.func (.yield (w.heap.size + 1)) #[] #[]] }, W1, gf,
    #[.func (.yield (w.heap.size + 1)) #[] #[]] ++ lb, W1, ?_, ?_, ?_, ?_, fun _ => h1, ?_⟩
  · rw [← hW1, hrec]; exact run_enterLoop_outer _ _ _ _ _
  · simp only [resolve, hg]
    simp [go_sem]
  · intro f' hf'; simp [Target.leads] at hf'; subst hf'; exact hFg
  · simp [invoke, go_sem, eg]
  · exact range_core (G := fun W => W.heap[w.heap.size]? = some (.deferred (some []))) hrec hfn hseq hps hD hx1.bel (Nat.le_succ _) hL1 ⟨hx1.but, h0.ext hx1⟩ hK1
      (fun A B hA hb => (hb.block _ (Array.getElem?_eq_some_iff.1 hA).1 hnd).trans hA) (fun A o' hA => (World.putObj_heap_other (by omega)).trans hA) hX Ax hAx (hassign _)
      (fun s x a' W hf hr hs hax => hbody _ s x a' W (Nat.le_succ _) hf hr hs hax) (fun s W h2 h3 h4 => hdone _ s W (Nat.le_refl _) h2 h3 h4) (fun W h2 h3 h4 h5 => hstop _ W (Nat.le_refl _) h2 h3 h4 h5)

/-- Within a round of another one. -/
theorem wpIn_range_inn (cells : σ → List (Nat × Nat × Value)) (f : σ → Nat → Option σ) (s0 : σ) (X : World → Prop) (D : List Nat) {l₀ : Nat} {r₀ : Loop} (hro : F.round = some l₀) (hl₀ : w.heap[l₀]? = some (.loop r₀)) (h1 : 1 ≤ nn) {gf : Nat} {lb : Array Value} (hg : a.eval g = .func (.func gf) #[] lb) (hFg : F.fn gf) (eg : ∀ args w, (callFunc gf args).run Tryz.prog w = .ok (.enter gf args) w)
    {encs : Fin N → Array Value} (hseq : SeqSt F (nn - 1) Tryz.prog gf lb encs D w) (hps : ∀ x, (encs x).size = ps.size)
    (hD : ∀ d ∈ D, d < w.heap.size) (h0 : CellsAt (cells s0) w) (hX : OwnFrom w.heap.size (fun (_ : Unit) W => X W)) (Ax : Fin N → Act → World → Prop) (hAx : ∀ x a', OwnFrom w.heap.size (fun (_ : Unit) W => Ax x a' W))
    (hassign : ∀ (l : Nat) (x : Fin N) (W : World) (K : Act → World → Prop), w.heap.size ≤ W.heap.size → (∀ a' W', Ext W W' → Ax x a' W' → K a' W') →
      assign.wpIn (F.inRound l) (nn - 1 - 1) Tryz.prog (Exit.then K (fun _ _ _ => False)) { tmps := (ps.zip (encs x)).foldl (fun t (p, v) => t.setIfInBounds p v) a.tmps, defers := [] } W)
    (hbody : ∀ (l : Nat) (s : σ) (x : Fin N) (a' : Act) (W : World), w.heap.size ≤ l → (List.range x.val).foldlM f s0 = some s → (∃ r, W.heap[l]? = some (.loop r)) → StAt D w (cells s) W → Ax x a' W →
      body.wpIn (F.inRound l) (nn - 1 - 1) Tryz.prog (StPost D cells X W (f s x.val)) a' W)
    (hdone : ∀ (s : σ) (W : World), (List.range N).foldlM f s0 = some s → StAt D w (cells s) W → Q .normal a W)
    (hstop : ∀ (W : World), (List.range N).foldlM f s0 = none → But D w W → X W → Q .ret a W) :
    (Code.rangeFunc g ps assign body).wpIn F nn Tryz.prog Q a w := by
  refine wpIn_rangeFunc ?_
  intro fn hfn
  rw [hro]
  obtain ⟨rec, hrec⟩ : ∃ rec : LoopState → Option Code → Loop, rec = fun st pe => { state := st, pending := pe, fn := fn, tmps := a.tmps, params := ps, assign := assign, body := body, defers := r₀.defers } := ⟨_, rfl⟩
  obtain ⟨W1, hW1⟩ : ∃ W1, w.alloc (.loop (rec .ready none)) = W1 := ⟨_, rfl⟩
  have hL1 : W1.heap[w.heap.size]? = some (.loop (rec .ready none)) := by rw [← hW1]; exact World.alloc_heap_new w _
  have hx1 : Ext w W1 := by rw [← hW1]; exact (Ext.refl w).alloc _
  refine ⟨w.heap.size, [], W1, { target := .fn (.func gf) lb, args := #[.func (.yield w.heap.size) #[] #[]] }, W1, gf,
    #[.func (.yield w.heap.size) #[] #[]] ++ lb, W1, ?_, ?_, ?_, ?_, fun _ => h1, ?_⟩
  · rw [← hW1, hrec]; exact run_enterLoop_inner hl₀ _ _ _ _ _
  · simp only [resolve, hg]
    simp [go_sem]
  · intro f' hf'; simp [Target.leads] at hf'; subst hf'; exact hFg
  · simp [invoke, go_sem, eg]
  · exact range_core (G := fun _ => True) hrec hfn hseq hps hD hx1.bel (Nat.le_refl _) hL1 ⟨hx1.but, h0.ext hx1⟩ trivial
      (fun _ _ _ _ => trivial) (fun _ _ _ => trivial) hX Ax hAx (hassign _)
      (fun s x a' W hf hr hs hax => hbody _ s x a' W (Nat.le_refl _) hf hr hs hax) (fun s W h2 h3 _ => hdone s W h2 h3) (fun W h2 h3 h4 _ => hstop W h2 h3 h4)
end
end
end
section
/- PPhs: pattern.phases: an iterator. Condition: the bench lies there, in a block that no box is. -/
open Go.RowKit

/-- A bench's cells. -/
def BenchCs (b : Nat) (w : World) (p : PrT) (v : PrV) (lv : Value) (per : Int) : Prop := ∀ (i : Nat) (x : Value), (benchC p v lv per p.sh.length).toList[i]? = some x → w.cell? ⟨b, i, none⟩ = some x
theorem BenchAt.cs {b : Nat} {w : World} {p : PrT} {v : PrV} {lv : Value} (h : BenchAt b w p v lv) : BenchCs b w p v lv (periodV (liftL p.ros p.rub)) := fun _ _ hx => h.box.cell hx
set_option maxRecDepth 100000 in
set_option maxHeartbeats 4000000 in
theorem phase_cells (b : Nat) (p : PrT) (v : PrV) (lv : Value) (per : Int) (j : Int) (w : World) (h : BenchCs b w p v lv per) (hg : Nums p) (hj : -20000 ≤ j ∧ j ≤ 20000) :
    Calls Tryz.prog 32 #[.pointer (some ⟨b, 0, none⟩), .int .i64 j] w fun e w' => e = .returned (.int .i64 (phaseZ p j)) ∧ Ext w w' := by
  have hc1 := hg.c1
  have hc2 := hg.c2
  have hn1 := hg.n1
  have hn2 := hg.n2
  obtain ⟨hj1, hj2⟩ := hj
  have HM := Lib.hid fun (x n : Int) (W : World) (h1 : 1 ≤ n) (h2 : n ≤ 1000000) => modulo_any x n W h1 h2
  have k7 := h 7 _ rfl
  have k8 := h 8 _ rfl
  have lk := cell_lt k8
  obtain ⟨c, hc⟩ : ∃ c, c = p.sh.length := ⟨_, rfl⟩
  obtain ⟨n, hn⟩ : ∃ n, n = p.ros.length := ⟨_, rfl⟩
  obtain ⟨a, ha, hac⟩ := emod_nat j (n := c) (by omega)
  have kc := h _ _ (benchC_sum (k := c) (m := p.sh.length) (by omega))
  have ka := h _ _ (benchC_sum (k := a) (m := p.sh.length) (by omega))
  rw [sumV, if_pos (by omega)] at kc ka
  have hsb := sumTo_bd (sh := p.sh) (B := 95) (by omega) (fun i => by have := hg.sh i; omega)
  have b1 := hsb c
  have b2 := hsb a
  obtain ⟨sc, hsc⟩ : ∃ z, z = sumTo p.sh c := ⟨_, rfl⟩
  obtain ⟨sa, hsa⟩ : ∃ z, z = sumTo p.sh a := ⟨_, rfl⟩
  rw [← hsc] at kc b1
  rw [← hsa] at ka b2
  rw [← hc] at k8 hc1 hc2
  rw [← hn] at k7 hn1 hn2
  obtain ⟨d, hd⟩ : ∃ d, j - (a : Int) = (c : Int) * d := ⟨j / (c : Int), by have := Int.mul_ediv_add_emod j (c : Int); omega⟩
  have hcz : (c : Int) ≠ 0 := by omega
  have e2 : (j - (a : Int)).tdiv (c : Int) = d := by rw [hd]; exact Int.mul_tdiv_cancel_left d hcz
  have e2' : (j - (a : Int)) / (c : Int) = d := by rw [hd]; exact Int.mul_ediv_cancel_left d hcz
  have hdb : -21000 ≤ d ∧ d ≤ 21000 := by
    have h1 : (c : Int) * d = j - a := hd.symm
    constructor
    · by_cases h0 : d < 0
      · have := Int.mul_le_mul_of_nonpos_right (show (1 : Int) ≤ c by omega) (show d ≤ 0 by omega)
        omega
      · omega
    · by_cases h0 : 0 < d
      · have := Int.mul_le_mul_of_nonneg_right (show (1 : Int) ≤ c by omega) (show 0 ≤ d by omega)
        omega
      · omega
  have HPZ := Lib.hid (show phaseZ p j = (d * sc + sa) % (n : Int) by
    unfold phaseZ
    rw [← hc, ← hn, ha, e2', ← hsc, Int.toNat_natCast, ← hsa])
  have hds : -25200000 ≤ d * sc ∧ d * sc ≤ 25200000 := by
    have hc' : sc ≤ 1200 := by
      have : (95 : Int) * (c : Int) ≤ 95 * 12 := by omega
      omega
    have h1 : d * sc ≤ 21000 * sc := Int.mul_le_mul_of_nonneg_right hdb.2 b1.1
    have h2 : -21000 * sc ≤ d * sc := Int.mul_le_mul_of_nonneg_right hdb.1 b1.1
    omega
  obtain ⟨d1, d2⟩ := hds
  obtain ⟨db1, db2⟩ := hdb
  have hsa2 : 0 ≤ sa ∧ sa ≤ 1200 := by
    have : (95 : Int) * (a : Int) ≤ 95 * 12 := by omega
    omega
  obtain ⟨s1, s2⟩ := hsa2
  have w1 : IntKind.i64.wrap (j - (a : Int)) = j - (a : Int) := IntWalk.i64_in _ (by omega)
  have w2 : IntKind.i64.wrap d = d := IntWalk.i64_in _ (by omega)
  have w3 : IntKind.i64.wrap (d * sc) = d * sc := IntWalk.i64_in _ (by omega)
  have w4 : IntKind.i64.wrap (d * sc + sa) = d * sc + sa := IntWalk.i64_in _ (by omega)
  have HM1 := Lib.hid fun W : World => (show Calls Tryz.prog 31 #[.int .i64 j, .int .i64 (c : Int)] W fun e w' => e = .returned (.int .i64 (a : Int)) ∧ W = w' from ha ▸ HM.out j c W (by omega) (by omega))
  have HM2 := Lib.hid fun W : World => (show Calls Tryz.prog 31 #[.int .i64 (d * sc + sa), .int .i64 (n : Int)] W fun e w' => e = .returned (.int .i64 (phaseZ p j)) ∧ W = w' from HPZ.out ▸ HM.out _ n W (by omega) (by omega))
  generalize phaseZ p j = z at *
  have a13 : (a : Int) < 13 := by omega
  have c13 : (c : Int) < 13 := by omega
  have hc0n : ¬ c = 0 := by omega
  clear hd ha hsc hsa hsb hc hn h hg HM HPZ b1 b2 hcz
  go_enter Tryz.func32, Tryz.ntmps32
  go_wp2_with (go_at_call 31; refine (HM1.out _).mono ?_; rintro e w' ⟨rfl, rfl⟩)
  go_quiet ((go_at_call 31; with_reducible exact quiet_sameP (HM2.out _)))
  go_wp2_with fail
  go_ret
  exact ⟨rfl, (Ext.refl w).drewN _⟩


attribute [local go_sem] Oper.semAt_some

/-- Which cuts, and their phases. -/
def phsEnc (p : PrT) (N : Nat) (x : Fin N) : Array Value := #[.int .i64 (x.val : Int), .int .i64 (phaseZ p (x.val : Int))]

theorem phases_in (F : Fence) (n : Nat) (h5 : F.fn 59) (hro : F.round = none) (b : Nat) (fr nn : Int) (w : World) :
    CallsIn F n Tryz.prog 59 #[.pointer (some ⟨b, 0, none⟩), .int .i64 fr, .int .i64 nn] w fun e w' => e = .returned (.func (.func 78) #[] #[.pointer (some ⟨w.heap.size + 1 + 1, 0, none⟩), .pointer (some ⟨w.heap.size + 1, 0, none⟩), .pointer (some ⟨w.heap.size, 0, none⟩)]) ∧
      w' = ((w.alloc (.cells #[.pointer (some ⟨b, 0, none⟩)] 68)).alloc (.cells #[.int .i64 fr] 3)).alloc (.cells #[.int .i64 nn] 3) := by
  refine callsIn_of_wp Tryz.func59 rfl h5 ?_ hro
  simp only [Tryz.ntmps59, List.size_toArray, List.length_cons, List.length_nil, Nat.reduceAdd, Nat.reduceSub, Array.replicate_succ, Array.replicate_zero, List.push_toArray, List.append_toArray, List.nil_append, List.cons_append]
  gi_wp2
  go_ret
  exact ⟨rfl, rfl⟩

/-- What the iterator reads. -/
structure PhsAt (w : World) (D : List Nat) (b b3 b4 b5 N : Nat) (p : PrT) (v : PrV) (lv : Value) (per : Int) : Prop where
  c3 : w.cell? ⟨b3, 0, none⟩ = some (.pointer (some ⟨b, 0, none⟩))
  c4 : w.cell? ⟨b4, 0, none⟩ = some (.int .i64 0)
  c5 : w.cell? ⟨b5, 0, none⟩ = some (.int .i64 (N : Int))
  cs : BenchCs b w p v lv per
  nD : b ∉ D ∧ b3 ∉ D ∧ b4 ∉ D ∧ b5 ∉ D
theorem PhsAt.keep {w W W' : World} {D : List Nat} {b b3 b4 b5 N : Nat} {p : PrT} {v : PrV} {lv : Value} {per : Int} (h : PhsAt W D b b3 b4 b5 N p v lv per) (hk : KpD D w.heap.size W W') (h1 : b < w.heap.size) (h3 : b3 < w.heap.size) (h4 : b4 < w.heap.size) (h5 : b5 < w.heap.size) : PhsAt W' D b b3 b4 b5 N p v lv per :=
  ⟨hk _ _ _ h3 h.nD.2.1 h.c3, hk _ _ _ h4 h.nD.2.2.1 h.c4, hk _ _ _ h5 h.nD.2.2.2 h.c5, fun i x hx => hk _ _ _ h1 h.nD.1 (h.cs i x hx), h.nD⟩
theorem PhsAt.ext {W W' : World} {D : List Nat} {b b3 b4 b5 N : Nat} {p : PrT} {v : PrV} {lv : Value} {per : Int} (h : PhsAt W D b b3 b4 b5 N p v lv per) (x : Ext W W') : PhsAt W' D b b3 b4 b5 N p v lv per :=
  ⟨x.cell_some h.c3, x.cell_some h.c4, x.cell_some h.c5, fun i y hy => x.cell_some (h.cs i y hy), h.nD⟩

set_option maxRecDepth 100000 in
set_option maxHeartbeats 8000000 in
theorem phs1_in (nn : Nat) (hnn : 1 ≤ nn) (l B0 : Nat) (D : List Nat) (b b3 b4 b5 N : Nat) (p : PrT) (v : PrV) (lv : Value) (per : Int) (hg : Nums p) (hN : N ≤ 2000) (J : Nat → World → Prop) (Jx : World → Prop)
    (hJE : ∀ c A B, J c A → Ext A B → J c B) (hXE : ∀ A B, Jx A → Ext A B → Jx B)
    (hY : ∀ (x : Fin N) (W1 : World), J x.val W1 → YieldAt Fence.wide (nn - 1) Tryz.prog l (phsEnc p N x) W1 fun e W' => KpD D B0 W1 W' ∧ ((e = .returned (.bool true) ∧ J (x.val + 1) W') ∨ (e = .returned (.bool false) ∧ Jx W')))
    (W : World) (hP : PhsAt W D b b3 b4 b5 N p v lv per) (h1 : b < B0) (h3 : b3 < B0) (h4 : b4 < B0) (h5 : b5 < B0) (h0 : J 0 W) :
    CallsIn Fence.wide nn Tryz.prog 78 #[.func (.yield l) #[] #[], .pointer (some ⟨b5, 0, none⟩), .pointer (some ⟨b4, 0, none⟩), .pointer (some ⟨b3, 0, none⟩)] W fun e W' => (∃ v, e = .returned v) ∧ (J N W' ∨ Jx W') := by
  have HY := Lib.hid hY
  have HJE := Lib.hid hJE
  have HXE := Lib.hid hXE
  have HKP := Lib.hid fun (W' : World) (hk : KpD D B0 W W') => (show PhsAt W' D b b3 b4 b5 N p v lv per from
    ⟨hk _ _ _ h3 hP.nD.2.1 hP.c3, hk _ _ _ h4 hP.nD.2.2.1 hP.c4, hk _ _ _ h5 hP.nD.2.2.2 hP.c5, fun i x hx => hk _ _ _ h1 hP.nD.1 (hP.cs i x hx), hP.nD⟩)
  have HPC := Lib.hid fun (j : Nat) (hj : j < N) (W' : World) (h : BenchCs b W' p v lv per) => phase_cells b p v lv per (j : Int) W' h hg (by omega)
  have c5 := hP.c5
  have l5 := cell_lt c5
  have HJ0 := Lib.hid h0
  clear hY hJE hXE hP h0 hg
  refine callsIn_of_wp Tryz.func78 rfl trivial ?_ rfl
  simp only [Tryz.ntmps78, List.size_toArray, List.length_cons, List.length_nil, Nat.reduceAdd, Nat.reduceSub, Array.replicate_succ, Array.replicate_zero, List.push_toArray, List.append_toArray, List.nil_append, List.cons_append]
  gi_wp2
  clear c5 l5
  gi_loopw [7] (fun iv wr => ∃ i : Nat, i ≤ N ∧ iv = .int .i64 i ∧ J i wr ∧ KpD D B0 W wr) (fun iv _ => N - (intOf iv).toNat)
  case atStart => exact ⟨0, by omega, rfl, HJ0.out, fun _ _ _ _ _ h => h⟩
  case round =>
    obtain ⟨i, hi, rfl, hj, hkp⟩ := hrel
    have HKR := Lib.hid hkp
    have HJR := Lib.hid hj
    by_cases hlt : i < N
    · have hp := HKP.out wr hkp
      have e3 := hp.c3
      have e4 := hp.c4
      have HCS := Lib.hid hp.cs
      have q3 := But.cells (D := []) e3 (by simp)
      have q4 := But.cells (D := []) e4 (by simp)
      have l3 := cell_lt e3
      have l4 := cell_lt e4
      have hii : (i : Int) < (N : Int) := by omega
      have wi : IntKind.i64.wrap (i : Int) = (i : Int) := IntWalk.i64_in _ (by omega)
      have HPI := Lib.hid fun (W' : World) (x : Ext wr W') => HPC.out i hlt W' (fun k x' hx' => x.cell_some (HCS.out k x' hx'))
      clear hp hj hkp e3 e4
      gi_wp2
      refine wpIn_region_steps [] 9 [(0, true), (1, true), (2, true), (3, true), (4, true), (5, true), (6, true), (7, true), (8, true)] (by kernel_rfl) (by decide +kernel) ?_
      iterate 8 (refine wpSD_q (by rfl) (fun _ _ _ => trivial) (fun K hK => ?_); go_simp; refine hK _ ?_; clear hK K)
      refine wpSD_q (by rfl) (fun _ _ _ => trivial) (fun K hK => ?_)
      go_simp
      refine ⟨.int .i64 (phaseZ p (i : Int)), fun δ => callsIn_wide.2 (HPI.out δ.wd (ext_but0 δ.but)), hK _ ?_⟩
      clear hK K
      refine wpSD_nil ?_
      intro W3 x3
      have HJ3 := Lib.hid (HJE.out _ _ _ HJR.out x3)
      have HK3 := Lib.hid (show KpD D B0 W W3 from HKR.out.trans (fun _ _ _ _ _ h => x3.cell_some h))
      obtain ⟨fn, tmps, assign, body, hy, hR⟩ := HY.out ⟨i, hlt⟩ W3 HJ3.out
      simp only [phsEnc] at hy
      have HR := Lib.hid hR
      clear hR q3 q4 x3 l3 l4
      simp only [List.drop_succ_cons, List.drop_zero]
      gi_wp2
      refine HR.out.mono ?_
      rintro e W4 ⟨hk4, ⟨rfl, h4⟩ | ⟨rfl, h4⟩⟩
      · have HJ4 := Lib.hid h4
        have HK4 := Lib.hid (HK3.out.trans hk4)
        clear h4 hk4
        gi_wp2
        go_roundw
        case rel => exact ⟨i + 1, by omega, by simp, HJ4.out, HK4.out⟩
        case measure => simp [intOf]; omega
      · have HJ4 := Lib.hid h4
        clear h4 hk4
        gi_wp2
        refine bodyPost_ret (results_none rfl _ _ _) rfl ?_
        exact ⟨⟨_, rfl⟩, .inr HJ4.out⟩
    · obtain rfl : i = N := by omega
      clear hj hkp
      gi_wp2
      go_end0
      exact ⟨⟨_, rfl⟩, .inl HJR.out⟩

theorem phs_seq (nn : Nat) (hnn : 1 ≤ nn) (D : List Nat) (b b3 b4 b5 N : Nat) (p : PrT) (v : PrV) (lv : Value) (per : Int) (hg : Nums p) (hN : N ≤ 2000) (w : World) (hP : PhsAt w D b b3 b4 b5 N p v lv per) (h1 : b < w.heap.size) :
    SeqSt Fence.wide nn Tryz.prog 78 #[.pointer (some ⟨b5, 0, none⟩), .pointer (some ⟨b4, 0, none⟩), .pointer (some ⟨b3, 0, none⟩)] (phsEnc p N) D w := fun l J Jx W hW hJE hXE hY h0 =>
  phs1_in nn hnn l w.heap.size D b b3 b4 b5 N p v lv per hg hN J Jx hJE hXE hY W (hP.ext (.of hW)) h1 (cell_lt hP.c3) (cell_lt hP.c4) (cell_lt hP.c5) h0
end
section
/- PSort1: A scope in a fence; slices.SortStableFunc of one move. No condition. -/
open Go.RowKit

section
variable {P : Program} {b : Frame} {a : Act} {k : List Item} {cs : List Frame} {w : World}
theorem stepR_scope {c : Code} : step P (lone (b.atR a (.code (.scope c) :: k)) cs w) = .next (lone (b.atR a (.code c :: .inScope c :: k)) cs w) :=
  step_lone_go (by simp [stepG, stepG.exec, Frame.atR])
theorem stepR_inScope {c : Code} : step P (lone (b.atR a (.inScope c :: k)) cs w) = .next (lone (b.atR a k) cs w) :=
  step_lone_go (by simp [stepG, stepG.exec, Frame.atR])
end
theorem wpIn_scope {F : Fence} {n : Nat} {P : Program} {Q : Exit → Act → World → Prop} {a : Act} {w : World} {c : Code} (h : c.wpIn F n P (Exit.noGoto Q) a w) : (Code.scope c).wpIn F n P Q a w := by
  intro b k cs hro hb hr
  have h0 : (lone (b.atR a (.code (.scope c) :: k)) cs w).fenced P F := fenced_calm hb hr rfl
  obtain ⟨e, a₁, w₁, hq, harr⟩ := h b (.inScope c :: k) cs hro hb hr
  cases e with
  | normal => exact ⟨.normal, a₁, w₁, hq, .head h0 stepR_scope (StepsIn.trans harr (.one (fenced_calm hb hr rfl) stepR_inScope))⟩
  | exit id =>
    have hx : exitTo id (.inScope c :: k) = exitTo id k := by simp [exitTo]
    exact ⟨_, a₁, w₁, hq, fun k' hk => .head h0 stepR_scope (harr.1 k' (by rw [hx]; exact hk)), fun hr' hk => let ⟨k₁, h1, h2⟩ := harr.2 hr' (by rw [hx]; exact hk); ⟨k₁, h1, .head h0 stepR_scope h2⟩⟩
  | goto l => exact hq.elim
  | ret => exact ⟨_, a₁, w₁, hq, .of_steps (.one h0 stepR_scope) harr⟩
  | panic ch => exact ⟨_, a₁, w₁, hq, .of_steps (.one h0 stepR_scope) harr⟩
  | outgrown => exact ⟨_, a₁, w₁, hq, .of_steps (.one h0 stepR_scope) harr⟩

theorem insert1_any (A : Option Addr) (n c : Nat) (fv : Value) (w : World) : Calls Tryz.prog 88 #[.slice A n c, .int .i64 0, .int .i64 1, fv] w fun e w' => (∃ v, e = .returned v) ∧ Ext w w' := by
  go_enter Tryz.func88, Tryz.ntmps88
  go_wp2_with fail
  go_loopw [8] (fun iv W => iv = .int .i64 1 ∧ W = w) (fun _ _ => 0)
  case atStart => exact ⟨rfl, rfl⟩
  case round =>
    obtain ⟨rfl, rfl⟩ := hrel
    go_wp2_with fail
    go_end0
    exact ⟨⟨_, rfl⟩, Ext.refl _⟩
set_option maxRecDepth 100000 in
theorem stable1_any (A : Option Addr) (c : Nat) (fv : Value) (w : World) : Calls Tryz.prog 79 #[.slice A 1 c, .int .i64 1, fv] w fun e w' => (∃ v, e = .returned v) ∧ Ext w w' := by
  have HI := Lib.hid fun W : World => insert1_any A 1 c fv W
  obtain ⟨wo, rfl⟩ : ∃ z, z = w := ⟨_, rfl⟩
  go_enter Tryz.func79, Tryz.ntmps79
  go_wp2_with fail
  go_loopw [7, 8] (fun av bv W => av = .int .i64 0 ∧ bv = .int .i64 20 ∧ W = wo) (fun _ _ _ => 0)
  case atStart => exact ⟨rfl, rfl, rfl⟩
  case round =>
    obtain ⟨rfl, rfl, rfl⟩ := hrel
    go_wp2_with fail
    refine (HI.out _).mono ?_
    rintro e W1 ⟨⟨v, rfl⟩, x1⟩
    have HX := Lib.hid x1
    clear x1
    go_wp2_with fail
    go_loopw [6] (fun av W => av = .int .i64 20 ∧ Ext wr W) (fun _ _ => 0)
    case atStart => exact ⟨rfl, HX.out⟩
    case round =>
      obtain ⟨rfl, hx⟩ := hrel
      have HX2 := Lib.hid hx
      clear hx
      go_wp2_with fail
      go_end0
      exact ⟨⟨_, rfl⟩, HX2.out⟩
theorem sort1_any (A : Option Addr) (c : Nat) (fv : Value) (w : World) : Calls Tryz.prog 60 #[.slice A 1 c, fv] w fun e w' => (∃ v, e = .returned v) ∧ Ext w w' := by
  have HI := Lib.hid fun W : World => stable1_any A c fv W
  go_enter Tryz.func60, Tryz.ntmps60
  go_wp2_with fail
  refine (HI.out _).mono ?_
  rintro e W1 ⟨⟨v, rfl⟩, x1⟩
  have HX := Lib.hid x1
  clear x1
  go_wp2_with fail
  go_end0
  exact ⟨⟨_, rfl⟩, HX.out⟩
end
open Go.RowKit

/-- Two programs whose cuts have the same shapes. -/
structure AlikeP (p q : PrT) (t : Nat) : Prop where
  gp : Good p
  gq : Good q
  tp : LeastT (liftL p.ros p.rub) t
  tq : LeastT (liftL q.ros q.rub) t
  len : p.ros.length = q.ros.length
  clo : closN p t = closN q t
  off : offO p q false = some 0
  ph : ∀ j : Int, (PH p.sh j - PH q.sh j) % (t : Int) = 0
theorem closN_bd {p : PrT} {t : Nat} (hg : Good p) (ht : LeastT (liftL p.ros p.rub) t) : 1 ≤ closN p t ∧ closN p t ≤ 1200 := by
  obtain ⟨m1, m2, -, -⟩ := motN_is (t := t) hg.nums.c1
  have hc2 := hg.nums.c2
  have ht1 := ht.pos
  have ht2 : t ≤ 96 := by
    have := ht.le (by rw [liftL_len]; have := hg.nums.n1; omega)
    rw [liftL_len] at this
    have := hg.nums.n2
    omega
  have hgp : 1 ≤ Nat.gcd t (turnN p t) := Nat.gcd_pos_of_pos_left _ (by omega)
  have hd : 1 ≤ t / Nat.gcd t (turnN p t) := Nat.div_pos (Nat.gcd_le_left _ (by omega)) hgp
  have hd2 : t / Nat.gcd t (turnN p t) ≤ 96 := Nat.le_trans (Nat.div_le_self _ _) ht2
  unfold closN
  have h1 := Nat.mul_le_mul m1 hd
  have h2 := Nat.mul_le_mul (show motN p.sh t ≤ 12 by omega) hd2
  omega
def moveK : EK (Int × Int × Bool × Bool) := ⟨78, 38, 4, fun x => [.int .i64 x.1, .int .i64 x.2.1, .bool x.2.2.1, .bool x.2.2.2], .agg #[.int .i64 0, .int .i64 0, .bool false, .bool false], 24, Tryz.underlying38, by kernel_rfl, rfl, by decide, by decide, fun _ => rfl, by simp [Value.oneCell']⟩
/-- The four kinds of moves that leave the cuts where they are. -/
def mvCells : Array Value := #[.int .i64 0, .int .i64 0, .bool false, .bool false, .int .i64 0, .int .i64 0, .bool false, .bool true, .int .i64 0, .int .i64 0, .bool true, .bool false, .int .i64 0, .int .i64 0, .bool true, .bool true]
theorem notin_lt {a b : Nat} (h : a < b) : a ∉ [b] := fun e => by rw [List.mem_singleton] at e; omega
theorem notin_gt {a b : Nat} (h : b < a) : a ∉ [b] := fun e => by rw [List.mem_singleton] at e; omega
def mv0 (b : Nat) : List (Nat × Nat × Value) := [(b, 0, .int .i64 0), (b, 1, .int .i64 0), (b, 2, .bool false), (b, 3, .bool false)]
theorem mv0_of {b : Nat} {W : World} (h : BoxAt b #[.int .i64 0, .int .i64 0, .bool false, .bool false] 78 W) : CellsAt (mv0 b) W := by
  intro t ht
  simp only [mv0, List.mem_cons, List.not_mem_nil, or_false] at ht
  rcases ht with rfl | rfl | rfl | rfl
  · exact ⟨h.cell (i := 0) rfl, frozen_of_row W b 0 _ _ h⟩
  · exact ⟨h.cell (i := 1) rfl, frozen_of_row W b 1 _ _ h⟩
  · exact ⟨h.cell (i := 2) rfl, frozen_of_row W b 2 _ _ h⟩
  · exact ⟨h.cell (i := 3) rfl, frozen_of_row W b 3 _ _ h⟩
theorem fold_unit : ∀ l : List Nat, l.foldlM (fun (_ : Unit) (_ : Nat) => some ()) () = some ()
  | [] => rfl
  | _ :: l => by rw [List.foldlM_cons]; exact fold_unit l
/-- A range over a function whose body leaves some cells as they are. -/
theorem range_const {F : Fence} {nn N : Nat} {g : Operand} {ps : Array Tmp} {assign body : Code} {Q : Exit → Act → World → Prop} {a : Act} {w : World} (cs : List (Nat × Nat × Value)) (D : List Nat) (hro : F.round = none) (h1 : 1 ≤ nn) {gf : Nat} {lb : Array Value} (hg : a.eval g = .func (.func gf) #[] lb) (hFg : F.fn gf) (eg : ∀ args w, (callFunc gf args).run Tryz.prog w = .ok (.enter gf args) w)
    {encs : Fin N → Array Value} (hseq : SeqSt F (nn - 1) Tryz.prog gf lb encs D w) (hps : ∀ x, (encs x).size = ps.size)
    (hD : ∀ d ∈ D, d < w.heap.size) (h0 : CellsAt cs w) (ga : Fin N → Act)
    (hassign : ∀ (l : Nat) (x : Fin N) (W : World) (K : Act → World → Prop), w.heap.size ≤ W.heap.size → (∀ a' W', Ext W W' → a' = ga x → K a' W') →
      assign.wpIn (F.inRound l) (nn - 1 - 1) Tryz.prog (Exit.then K (fun _ _ _ => False)) { tmps := (ps.zip (encs x)).foldl (fun t (p, v) => t.setIfInBounds p v) a.tmps, defers := [] } W)
    (hbody : ∀ (l : Nat) (x : Fin N) (W : World), w.heap.size ≤ l → (∃ r, W.heap[l]? = some (.loop r)) → StAt D w cs W →
      body.wpIn (F.inRound l) (nn - 1 - 1) Tryz.prog (StPost D (fun _ : Unit => cs) (fun _ => False) W (some ())) (ga x) W)
    (hdone : ∀ (M : Nat) (W : World), w.heap.size ≤ M → StAt D w cs W → W.heap[M]? = some (.deferred (some [])) → Q .normal { a with defers := { target := .collected M, args := #[] } :: a.defers } W) :
    (Code.rangeFunc g ps assign body).wpIn F nn Tryz.prog Q a w :=
  wpIn_range_out (N := N) (fun _ : Unit => cs) (fun _ _ => some ()) () (fun _ => False) D hro h1 hg hFg eg hseq hps hD h0 (fun _ _ _ _ hs _ _ => hs) (fun x a' _ => a' = ga x) (fun _ _ _ _ _ _ h _ _ => h) hassign
    (fun l s x a' W hl _ hr hst hax => by subst hax; exact hbody l x W hl hr hst)
    (fun M s W hM _ hst hmk => hdone M W hM hst hmk)
    (fun M W _ hf => by rw [fold_unit] at hf; cases hf)
theorem StAt.setFar {D : List Nat} {W0 A : World} {cs : List (Nat × Nat × Value)} {b o : Nat} {v : Value} (h : StAt D W0 cs A) (hb : W0.heap.size ≤ b) (hne : ∀ t ∈ cs, t.1 ≠ b) : StAt D W0 cs (A.setCell ⟨b, o, none⟩ v) :=
  ⟨h.but.grown (grown_set A b o v) (fun r e => by cases e; exact .inr hb), fun t ht => by
    obtain ⟨h1, h2⟩ := h.cells t ht
    exact ⟨(cell_set_other (.inl (hne t ht))).trans h1, (World.frozen?_setCell ..).trans h2⟩⟩
theorem mv0_fn {b o : Nat} {v : Value} {t : Nat × Nat × Value} (ht : t ∈ mv0 b) (hv : (b, o, v) ∈ mv0 b) : t.1 = b ∧ (t.2.1 = o → t.2.2 = v) := by
  simp only [mv0, List.mem_cons, List.not_mem_nil, or_false, Prod.mk.injEq] at hv ht
  rcases ht with rfl | rfl | rfl | rfl <;> rcases hv with ⟨-, rfl, rfl⟩ | ⟨-, rfl, rfl⟩ | ⟨-, rfl, rfl⟩ | ⟨-, rfl, rfl⟩ <;> simp
theorem mv0_put {b o : Nat} {v : Value} {W : World} (h : CellsAt (mv0 b) W) (hv : (b, o, v) ∈ mv0 b) : CellsAt (mv0 b) (W.setCell ⟨b, o, none⟩ v) := by
  intro t ht
  obtain ⟨h1, h2⟩ := h t ht
  refine ⟨?_, (World.frozen?_setCell ..).trans h2⟩
  obtain ⟨e1, e2⟩ := mv0_fn ht hv
  obtain ⟨t1, t2, t3⟩ := t
  simp only at e1 e2 h1 ⊢
  subst e1
  by_cases ho : t2 = o
  · subst ho
    rw [e2 rfl]
    exact cell_set_same h1
  · exact (cell_set_other (.inr ho)).trans h1
theorem lay_callsI {F : Fence} {n : Nat} {P : Program} {f : FuncId} {args : Array Value} {W0 : World} {R : Ending → World → Prop} (X : World → Prop) (hX : X W0) (h : ∀ W, X W → CallsIn F n P f args W R) : CallsIn F n P f args W0 R := h W0 hX
theorem lay_rounds {F : Fence} {n m : Nat} {P : Program} {c : Code} {Q : Exit → Act → World → Prop} {a : Act} {W0 : World} (X : World → Prop) (hX : X W0) (h : ∀ W, X W → Code.roundsIn F n P c Q m a W) : Code.roundsIn F n P c Q m a W0 := h W0 hX
attribute [local go_sem] Oper.semAt_some
end Go.Proofs.YtkjgcmdabelohaaGreat
