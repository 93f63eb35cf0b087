/- Ranges over functions that go on reading where the round was left: the contract of the function keeps what lay in both ways. No condition. -/
import Derived.Test.YtlljhimaopnbfaaQS
namespace Go.Proofs.Ytlljhimaopnbfaa
section
/- RfSt: Ranges over functions whose body turns the cells of a few boxes, and may return. No condition. -/
open Go.RowKit

def CellsAt (cs : List (Nat × Nat × Value)) (W : World) : Prop := ∀ t ∈ cs, W.cell? ⟨t.1, t.2.1, none⟩ = some t.2.2 ∧ W.frozen? ⟨t.1, t.2.1, none⟩ = false
def KpD (D : List Nat) (B0 : Nat) (W W' : World) : Prop := ∀ b o v, b < B0 → b ∉ D → W.cell? ⟨b, o, none⟩ = some v → W'.cell? ⟨b, o, none⟩ = some v
theorem KpD.trans {D : List Nat} {B0 : Nat} {A B C : World} (h : KpD D B0 A B) (k : KpD D B0 B C) : KpD D B0 A C := fun b o v hb hn hc => k b o v hb hn (h b o v hb hn hc)
theorem KpD.put {D : List Nat} {B0 : Nat} {W : World} {l : Nat} {o o' : Obj} (hl : W.heap[l]? = some o) (ho : o.isCells = false) : KpD D B0 W (W.putObj l o') := fun _ _ _ _ _ h =>
  cell_kept h (grownBy_putObj' W l o') (fun r e => by cases e; exact ⟨o, hl, ho⟩)
theorem But.kpD {D : List Nat} {W W' : World} (h : But D W W') (B0 : Nat) : KpD D B0 W W' := fun _ _ _ _ hn hc => h.cell hc hn
theorem CellsAt.grown {cs : List (Nat × Nat × Value)} {A B : World} {row : Option Nat} (h : CellsAt cs A) (hg : A.grownBy B row) (hr : ∀ r, row = some r → ∃ o : Obj, A.heap[r]? = some o ∧ o.isCells = false) : CellsAt cs B := fun t ht => by
  obtain ⟨h1, h2⟩ := h t ht
  exact ⟨cell_kept h1 hg hr, (frozen_kept h1 hg hr).trans h2⟩
theorem CellsAt.ext {cs : List (Nat × Nat × Value)} {A B : World} (h : CellsAt cs A) (x : Ext A B) : CellsAt cs B := h.grown (x.grow none) (fun r e => by cases e)

/-- All but the boxes D lies as it lay; these cells hold what they hold. -/
structure StAt (D : List Nat) (W0 : World) (cs : List (Nat × Nat × Value)) (W : World) : Prop where
  but : But D W0 W
  cells : CellsAt cs W
theorem StAt.grown {D : List Nat} {W0 A B : World} {cs : List (Nat × Nat × Value)} {row : Option Nat} (h : StAt D W0 cs A) (hg : A.grownBy B row) (hr : ∀ r, row = some r → W0.heap.size ≤ r ∧ ∃ o : Obj, A.heap[r]? = some o ∧ o.isCells = false) : StAt D W0 cs B :=
  ⟨h.but.grown hg (fun r e => .inr (hr r e).1), h.cells.grown hg (fun r e => (hr r e).2)⟩
theorem StAt.ext {D : List Nat} {W0 A B : World} {cs : List (Nat × Nat × Value)} (h : StAt D W0 cs A) (x : Ext A B) : StAt D W0 cs B := ⟨h.but.ext x, h.cells.ext x⟩

/-- How a round is left. -/
def StPost {σ : Type} (D : List Nat) (cells : σ → List (Nat × Nat × Value)) (X : World → Prop) (W : World) (r : Option σ) : Exit → Act → World → Prop
  | .normal, _, W' => ∃ s, r = some s ∧ But D W W' ∧ CellsAt (cells s) W'
  | .ret, _, W' => r = none ∧ But D W W' ∧ X W'
  | _, _, _ => False

theorem But.keepsFrom {D : List Nat} {W W' : World} {B : Nat} (h : But D W W') (hD : ∀ d ∈ D, d < B) : KeepsFrom B W W' :=
  ⟨h.size, fun k o hk ho _ => (h.block k (Array.getElem?_eq_some_iff.1 ho).1 (fun hd => by have := hD k hd; omega)).trans ho⟩

/-- The rounds so far. -/
def StI {σ : Type} {N : Nat} (D : List Nat) (cells : σ → List (Nat × Nat × Value)) (f : σ → Nat → Option σ) (s0 : σ) (w : World) (pre : List (Fin N)) (W : World) : Prop :=
  ∃ s, (pre.map Fin.val).foldlM f s0 = some s ∧ StAt D w (cells s) W
def StX {σ : Type} {N : Nat} (D : List Nat) (f : σ → Nat → Option σ) (s0 : σ) (X : World → Prop) (w : World) (c : Code) (pre : List (Fin N)) (W : World) : Prop :=
  c = .ret ∧ (pre.map Fin.val).foldlM f s0 = none ∧ But D w W ∧ X W

section
variable {σ : Type} {N : Nat} {D : List Nat} {cells : σ → List (Nat × Nat × Value)} {f : σ → Nat → Option σ} {s0 : σ} {X : World → Prop} {w : World}

theorem foldM_snoc (pre : List (Fin N)) (x : Fin N) : ((pre ++ [x]).map Fin.val).foldlM f s0 = ((pre.map Fin.val).foldlM f s0).bind fun s => f s x.val := by
  rw [List.map_append, List.foldlM_append]
  cases (pre.map Fin.val).foldlM f s0 with
  | none => rfl
  | some s =>
    show (List.foldlM f s (List.map Fin.val [x])) = f s x.val
    simp
theorem foldM_stop {c : Nat} (hc : c ≤ N) (h : (List.range c).foldlM f s0 = none) : (List.range N).foldlM f s0 = none := by
  obtain ⟨d, rfl⟩ := Nat.exists_eq_add_of_le hc
  rw [List.range_add, List.foldlM_append, h]
  rfl
theorem StI.own : OwnFrom w.heap.size (StI (N := N) D cells f s0 w) := fun _ _ _ _ hs hg hr => by
  obtain ⟨s, h1, h2⟩ := hs
  exact ⟨s, h1, h2.grown hg hr⟩
theorem StX.own (hX : OwnFrom w.heap.size (fun (_ : Unit) W => X W)) (c : Code) : OwnFrom w.heap.size (StX (N := N) D f s0 X w c) := fun _ _ _ _ hs hg hr => by
  obtain ⟨h1, h2, h3, h4⟩ := hs
  exact ⟨h1, h2, h3.grown hg (fun r e => .inr (hr r e).1), hX () _ _ _ h4 hg hr⟩
theorem StI.step {pre : List (Fin N)} {x : Fin N} {s : σ} {W : World} (hD : ∀ d ∈ D, d < w.heap.size) (h1 : (pre.map Fin.val).foldlM f s0 = some s) (h2 : But D w W) : ∀ (e : Exit) (a : Act) (W' : World), StPost D cells X W (f s x.val) e a W' →
    ownPostG w.heap.size (KpD D w.heap.size) (StI (N := N) D cells f s0 w) (StX D f s0 X w) (pre ++ [x]) W e a W'
  | .normal, _, W', ⟨s', h3, h4, h5⟩ => ⟨h4.keepsFrom hD, h4.kpD _, s', by rw [foldM_snoc, h1]; exact h3, h2.trans h4, h5⟩
  | .ret, _, W', ⟨h3, h4, h5⟩ => ⟨h4.keepsFrom hD, rfl, by rw [foldM_snoc, h1]; exact h3, h2.trans h4, h5⟩
  | .exit _, _, _, h => h.elim
  | .goto _, _, _, h => h.elim
  | .panic _, _, _, h => h.elim
  | .outgrown, _, _, h => h.elim

variable {F : Fence} {nn : Nat} {g : Operand} {ps : Array Tmp} {assign body : Code} {Q : Exit → Act → World → Prop} {a : Act}

def Upto (N : Nat) (ys : List (Fin N)) : Prop := ∃ c, c ≤ N ∧ ys.map Fin.val = List.range c

theorem wpIn_rangeFunc_st (cells : σ → List (Nat × Nat × Value)) (f : σ → Nat → Option σ) (s0 : σ) (X : World → Prop) (D : List Nat) (hro : F.round = none) (h1 : 1 ≤ nn) {gf : Nat} {lb : Array Value} (hg : a.eval g = .func (.func gf) #[] lb) (hFg : F.fn gf) (eg : ∀ args w, (callFunc gf args).run Try.prog w = .ok (.enter gf args) w)
    {encs : Fin N → Array Value} (hseq : SeqStopsK F (nn - 1) Try.prog gf lb encs (KpD D w.heap.size) (fun ys => ys.map Fin.val = List.range N) (Upto N) N w) (hps : ∀ x, (encs x).size = ps.size)
    (hD : ∀ d ∈ D, d < w.heap.size) (h0 : CellsAt (cells s0) w) (hX : OwnFrom w.heap.size (fun (_ : Unit) W => X W)) (Ax : Fin N → Act → World → Prop) (hAx : ∀ x a', OwnFrom w.heap.size (fun (_ : Unit) W => Ax x a' W))
    (hassign : ∀ (l : Nat) (x : Fin N) (W : World) (K : Act → World → Prop), w.heap.size ≤ W.heap.size → (∀ a' W', Ext W W' → Ax x a' W' → K a' W') →
      assign.wpIn (F.inRound l) (nn - 1 - 1) Try.prog (Exit.then K (fun _ _ _ => False)) { tmps := (ps.zip (encs x)).foldl (fun t (p, v) => t.setIfInBounds p v) a.tmps, defers := [] } W)
    (hbody : ∀ (l : Nat) (s : σ) (x : Fin N) (a' : Act) (W : World), w.heap.size ≤ l → (∃ r, W.heap[l]? = some (.loop r)) → StAt D w (cells s) W → Ax x a' W →
      body.wpIn (F.inRound l) (nn - 1 - 1) Try.prog (StPost D cells X W (f s x.val)) a' W)
    (hdone : ∀ (M : Nat) (s : σ) (W : World), w.heap.size ≤ M → (List.range N).foldlM f s0 = some s → StAt D w (cells s) W → W.heap[M]? = some (.deferred (some [])) → Q .normal { a with defers := { target := .collected M, args := #[] } :: a.defers } W)
    (hstop : ∀ (M : Nat) (W : World), w.heap.size ≤ M → (List.range N).foldlM f s0 = none → But D w W → X W → W.heap[M]? = some (.deferred (some [])) → Q .ret { a with defers := { target := .collected M, args := #[] } :: a.defers } W) :
    (Code.rangeFunc g ps assign body).wpIn F nn Try.prog Q a w := by
  refine wpIn_rangeFunc_ownH hro h1 hg hFg eg hseq KpD.trans (fun _ _ _ _ _ h1 h2 _ => KpD.put h1 h2) (Below.refl _ _) hps
    (StI D cells f s0 w) (StX D f s0 X w) StI.own (StX.own hX) ⟨s0, rfl, But.refl _ _, h0⟩ Ax hAx ?_ ?_ ?_ ?_
  · intro l pre x W K hI hK
    obtain ⟨s, h2, h3⟩ := hI
    exact hassign l x W K h3.but.size fun a' W' hx hax => hK a' W' ((KeepsOthers.of_ext hx).from _) (fun _ _ _ _ _ h => hx.cell_some h) ⟨s, h2, h3.ext hx⟩ hax
  · intro l pre x a' W hl hr hI hax _
    obtain ⟨s, h2, h3⟩ := hI
    exact wpIn_mono (hbody l s x a' W hl hr h3 hax) (StI.step hD h2 h3.but)
  · intro M xs W hM hS hI hmark
    obtain ⟨s, h2, h3⟩ := hI
    exact hdone M s W hM (by rw [← hS]; exact h2) h3 hmark
  · intro M c pre W hM hS hI hmark
    obtain ⟨rfl, h2, h3, h4⟩ := hI
    obtain ⟨c, hc, hp⟩ := hS
    exact wpIn_ret (hstop M W hM (foldM_stop hc (by rw [← hp]; exact h2)) h3 h4 hmark)

/-- The same within a round of another one. -/
theorem wpIn_rangeFunc_stN (cells : σ → List (Nat × Nat × Value)) (f : σ → Nat → Option σ) (s0 : σ) (X : World → Prop) (D : List Nat) {l₀ : Nat} {r₀ : Loop} (hro : F.round = some l₀) (hl₀ : w.heap[l₀]? = some (.loop r₀)) (h1 : 1 ≤ nn) {gf : Nat} {lb : Array Value} (hg : a.eval g = .func (.func gf) #[] lb) (hFg : F.fn gf) (eg : ∀ args w, (callFunc gf args).run Try.prog w = .ok (.enter gf args) w)
    {encs : Fin N → Array Value} (hseq : SeqStopsK F (nn - 1) Try.prog gf lb encs (KpD D w.heap.size) (fun ys => ys.map Fin.val = List.range N) (Upto N) N w) (hps : ∀ x, (encs x).size = ps.size)
    (hD : ∀ d ∈ D, d < w.heap.size) (h0 : CellsAt (cells s0) w) (hX : OwnFrom w.heap.size (fun (_ : Unit) W => X W)) (Ax : Fin N → Act → World → Prop) (hAx : ∀ x a', OwnFrom w.heap.size (fun (_ : Unit) W => Ax x a' W))
    (hassign : ∀ (l : Nat) (x : Fin N) (W : World) (K : Act → World → Prop), w.heap.size ≤ W.heap.size → (∀ a' W', Ext W W' → Ax x a' W' → K a' W') →
      assign.wpIn (F.inRound l) (nn - 1 - 1) Try.prog (Exit.then K (fun _ _ _ => False)) { tmps := (ps.zip (encs x)).foldl (fun t (p, v) => t.setIfInBounds p v) a.tmps, defers := [] } W)
    (hbody : ∀ (l : Nat) (s : σ) (x : Fin N) (a' : Act) (W : World), w.heap.size ≤ l → (∃ r, W.heap[l]? = some (.loop r)) → StAt D w (cells s) W → Ax x a' W →
      body.wpIn (F.inRound l) (nn - 1 - 1) Try.prog (StPost D cells X W (f s x.val)) a' W)
    (hdone : ∀ (s : σ) (W : World), (List.range N).foldlM f s0 = some s → StAt D w (cells s) W → Q .normal a W)
    (hstop : ∀ (W : World), (List.range N).foldlM f s0 = none → But D w W → X W → Q .ret a W) :
    (Code.rangeFunc g ps assign body).wpIn F nn Try.prog Q a w := by
  refine wpIn_rangeFunc_ownN hro hl₀ h1 hg hFg eg hseq KpD.trans (fun _ _ _ _ _ h1 h2 _ => KpD.put h1 h2) (Below.refl _ _) hps
    (StI D cells f s0 w) (StX D f s0 X w) StI.own (StX.own hX) ⟨s0, rfl, But.refl _ _, h0⟩ Ax hAx ?_ ?_ ?_ ?_
  · intro l pre x W K hI hK
    obtain ⟨s, h2, h3⟩ := hI
    exact hassign l x W K h3.but.size fun a' W' hx hax => hK a' W' ((KeepsOthers.of_ext hx).from _) (fun _ _ _ _ _ h => hx.cell_some h) ⟨s, h2, h3.ext hx⟩ hax
  · intro l pre x a' W hl hr hI hax _
    obtain ⟨s, h2, h3⟩ := hI
    exact wpIn_mono (hbody l s x a' W hl hr h3 hax) (StI.step hD h2 h3.but)
  · intro xs W hS hI
    obtain ⟨s, h2, h3⟩ := hI
    exact hdone s W (by rw [← hS]; exact h2) h3
  · intro c pre W hS hI
    obtain ⟨rfl, h2, h3, h4⟩ := hI
    obtain ⟨c, hc, hp⟩ := hS
    exact wpIn_ret (hstop W (foldM_stop hc (by rw [← hp]; exact h2)) h3 h4)
end
end
open Go.RowKit

/-- A function that yields the elements 0, 1, .. N - 1, in order; it is told that what it reads lies on, even where the round was left. -/
def SeqSt {N : Nat} (F : Fence) (n : Nat) (P : Program) (gf : Nat) (lb : Array Value) (encs : Fin N → Array Value) (D : List Nat) (w : World) : Prop :=
  ∀ (l : Nat) (J : Nat → World → Prop) (Jx : World → Prop) (W : World), Below w.heap.size w W → (∀ c A B, J c A → Ext A B → J c B) → (∀ A B, Jx A → Ext A B → Jx B) →
    (∀ (x : Fin N) (W1 : World), J x.val W1 → YieldAt F (n - 1) P l (encs x) W1 fun e W' =>
      KpD D w.heap.size W1 W' ∧ ((e = .returned (.bool true) ∧ J (x.val + 1) W') ∨ (e = .returned (.bool false) ∧ Jx W'))) →
    J 0 W → CallsIn F n P gf (#[.func (.yield l) #[] #[]] ++ lb) W fun e W' => (∃ v, e = .returned v) ∧ (J N W' ∨ Jx W')

section
variable {σ : Type} {N : Nat} {D : List Nat} {cells : σ → List (Nat × Nat × Value)} {f : σ → Nat → Option σ} {s0 : σ} {X : World → Prop} {w : World}
variable {F : Fence} {nn : Nat} {g : Operand} {ps : Array Tmp} {assign body : Code} {Q : Exit → Act → World → Prop} {a : Act}

theorem foldM_succ {c : Nat} {s : σ} (h : (List.range c).foldlM f s0 = some s) : (List.range (c + 1)).foldlM f s0 = f s c := by
  rw [List.range_succ, List.foldlM_append, h]
  show List.foldlM f s [c] = f s c
  simp

/-- The rounds, whatever the loop's record is. -/
theorem range_core {gf : Nat} {lb : Array Value} {encs : Fin N → Array Value} {W1 : World} {l fn dd : Nat} {a' : Act} {G : World → Prop} {rec : LoopState → Option Code → Loop}
    (hrec : rec = fun st pe => { state := st, pending := pe, fn := fn, tmps := a.tmps, params := ps, assign := assign, body := body, defers := dd }) (hfn : F.fn fn)
    (hseq : SeqSt F (nn - 1) Try.prog gf lb encs D w) (hps : ∀ x, (encs x).size = ps.size) (hD : ∀ d ∈ D, d < w.heap.size) (hb : Below w.heap.size w W1) (hl : w.heap.size ≤ l) (hl1 : W1.heap[l]? = some (.loop (rec .ready none)))
    (h0 : StAt D w (cells s0) W1) (hG1 : G W1) (hGb : ∀ A B, G A → But D A B → G B) (hGp : ∀ A o', G A → G (A.putObj l o'))
    (hX : OwnFrom w.heap.size (fun (_ : Unit) W => X W)) (Ax : Fin N → Act → World → Prop) (hAx : ∀ x a', OwnFrom w.heap.size (fun (_ : Unit) W => Ax x a' W))
    (hassign : ∀ (x : Fin N) (W : World) (K : Act → World → Prop), w.heap.size ≤ W.heap.size → (∀ a' W', Ext W W' → Ax x a' W' → K a' W') →
      assign.wpIn (F.inRound l) (nn - 1 - 1) Try.prog (Exit.then K (fun _ _ _ => False)) { tmps := (ps.zip (encs x)).foldl (fun t (p, v) => t.setIfInBounds p v) a.tmps, defers := [] } W)
    (hbody : ∀ (s : σ) (x : Fin N) (a' : Act) (W : World), (List.range x.val).foldlM f s0 = some s → (∃ r, W.heap[l]? = some (.loop r)) → StAt D w (cells s) W → Ax x a' W →
      body.wpIn (F.inRound l) (nn - 1 - 1) Try.prog (StPost D cells X W (f s x.val)) a' W)
    (hdone : ∀ (s : σ) (W : World), (List.range N).foldlM f s0 = some s → StAt D w (cells s) W → G W → Q .normal a' W)
    (hstop : ∀ (W : World), (List.range N).foldlM f s0 = none → But D w W → X W → G W → Q .ret a' W) :
    CallsIn F (nn - 1) Try.prog gf (#[.func (.yield l) #[] #[]] ++ lb) W1 (rangePost F nn Try.prog l Q a') := by
  have put : ∀ (A : World) (o o' : Obj) (cs : List (Nat × Nat × Value)), A.heap[l]? = some o → o.isCells = false → StAt D w cs A → StAt D w cs (A.putObj l o') := fun A o o' cs ho hc h =>
    h.grown (grownBy_putObj' A l o') (fun r e => by cases e; exact ⟨hl, o, ho, hc⟩)
  have hlD : l ∉ D := fun h => by have := hD l h; omega
  have rl : ∀ st pe, (Obj.loop (rec st pe)).isCells = false := fun _ _ => rfl
  refine (hseq l (fun c W => ∃ s, (List.range c).foldlM f s0 = some s ∧ StAt D w (cells s) W ∧ G W ∧ W.heap[l]? = some (.loop (rec .ready none)))
    (fun W => (List.range N).foldlM f s0 = none ∧ But D w W ∧ X W ∧ G W ∧ W.heap[l]? = some (.loop (rec .done (some .ret)))) W1 hb ?_ ?_ ?_ ⟨s0, rfl, h0, hG1, hl1⟩).mono ?_
  · rintro c A B ⟨s, h1, h2, h3, h4⟩ x
    exact ⟨s, h1, h2.ext x, hGb _ _ h3 x.but, (x.bel.block l (Array.getElem?_eq_some_iff.1 h4).1).trans h4⟩
  · rintro A B ⟨h1, h2, h3, h4, h5⟩ x
    exact ⟨h1, h2.ext x, hX () _ _ none h3 (x.grow none) (fun r e => by cases e), hGb _ _ h4 x.but, (x.bel.block l (Array.getElem?_eq_some_iff.1 h5).1).trans h5⟩
  · rintro x W ⟨s, h1, h2, h3, h4⟩
    have hy := run_yield (P := Try.prog) (args := encs x) h4 (by rw [hrec]; exact hps x)
    rw [hrec] at hy
    refine ⟨fn, _, assign, body, hy, roundIn_of_wpIn hfn (hassign x W _ h2.but.size ?_)⟩
    clear hy
    intro a1 Wa xa hax
    have h4a := (xa.bel.block l (Array.getElem?_eq_some_iff.1 h4).1).trans h4
    refine ⟨_, run_beginRound h4a (by rw [hrec]), ?_⟩
    have h2b := put Wa _ (.loop { rec .ready none with state := .busy }) _ h4a (rl _ _) (h2.ext xa)
    have h4b : (Wa.putObj l (.loop { rec .ready none with state := .busy })).heap[l]? = some (.loop { rec .ready none with state := .busy }) := World.putObj_heap_same (Array.getElem?_eq_some_iff.1 h4a).1
    have hGb' := hGp _ (.loop { rec .ready none with state := .busy }) (hGb _ _ h3 xa.but)
    refine wpIn_mono (hbody s x a1 _ h1 ⟨_, h4b⟩ h2b ((hAx x a1).putObj (s := ()) _ hax hl h4a (rl _ _))) ?_
    have k1 : KpD D w.heap.size W (Wa.putObj l (.loop { rec .ready none with state := .busy })) := KpD.trans (fun _ _ _ _ _ h => xa.cell_some h) (KpD.put h4a (rl _ _))
    rintro e a3 W3 hp
    cases e with
    | normal =>
      obtain ⟨s', e1, e2, e3⟩ := hp
      have h4c := (e2.block l (Array.getElem?_eq_some_iff.1 h4b).1 hlD).trans h4b
      have hr := run_endRound (P := Try.prog) none h4c
      refine ⟨_, _, hr, k1.trans ((e2.kpD _).trans (KpD.put h4c rfl)), .inl ⟨rfl, s', by rw [foldM_succ h1, e1], ?_, hGp _ _ (hGb _ _ hGb' e2), ?_⟩⟩
      · exact put W3 _ _ _ h4c rfl ⟨h2b.but.trans e2, e3⟩
      · rw [World.putObj_heap_same (Array.getElem?_eq_some_iff.1 h4c).1, hrec]
        rfl
    | ret =>
      obtain ⟨e1, e2, e3⟩ := hp
      have h4c := (e2.block l (Array.getElem?_eq_some_iff.1 h4b).1 hlD).trans h4b
      have hr := run_endRound (P := Try.prog) (some .ret) h4c
      refine ⟨_, _, hr, k1.trans ((e2.kpD _).trans (KpD.put h4c rfl)), .inr ⟨rfl, foldM_stop (c := x.val + 1) x.isLt (by rw [foldM_succ h1, e1]), ?_, hX.putObj (s := ()) _ e3 hl h4c rfl, hGp _ _ (hGb _ _ hGb' e2), ?_⟩⟩
      · exact (h2b.but.trans e2).grown (grownBy_putObj' _ l _) (fun r e => by cases e; exact .inr hl)
      · rw [World.putObj_heap_same (Array.getElem?_eq_some_iff.1 h4c).1, hrec]
        rfl
    | exit id => exact hp.elim
    | goto t => exact hp.elim
    | panic ch => exact hp.elim
    | outgrown => exact hp.elim
  · rintro e W2 ⟨⟨v, rfl⟩, (⟨s, h1, h2, h3, h4⟩ | ⟨h1, h2, h3, h4, h5⟩)⟩
    · exact ⟨none, _, by have := run_endLoop (P := Try.prog) h4 (by rw [hrec]; simp); rw [hrec] at this; exact this, hdone s _ h1 (put W2 _ _ _ h4 (rl _ _) h2) (hGp _ _ h3)⟩
    · exact ⟨some .ret, _, by have := run_endLoop (P := Try.prog) h5 (by rw [hrec]; simp); rw [hrec] at this; exact this,
        wpIn_ret (hstop _ h1 (h2.grown (grownBy_putObj' _ l _) (fun r e => by cases e; exact .inr hl)) (hX.putObj (s := ()) _ h3 hl h5 (rl _ _)) (hGp _ _ h4))⟩

theorem wpIn_range_out (cells : σ → List (Nat × Nat × Value)) (f : σ → Nat → Option σ) (s0 : σ) (X : World → Prop) (D : List Nat) (hro : F.round = none) (h1 : 1 ≤ nn) {gf : Nat} {lb : Array Value} (hg : a.eval g = .func (.func gf) #[] lb) (hFg : F.fn gf) (eg : ∀ args w, (callFunc gf args).run Try.prog w = .ok (.enter gf args) w)
    {encs : Fin N → Array Value} (hseq : SeqSt F (nn - 1) Try.prog gf lb encs D w) (hps : ∀ x, (encs x).size = ps.size)
    (hD : ∀ d ∈ D, d < w.heap.size) (h0 : CellsAt (cells s0) w) (hX : OwnFrom w.heap.size (fun (_ : Unit) W => X W)) (Ax : Fin N → Act → World → Prop) (hAx : ∀ x a', OwnFrom w.heap.size (fun (_ : Unit) W => Ax x a' W))
    (hassign : ∀ (l : Nat) (x : Fin N) (W : World) (K : Act → World → Prop), w.heap.size ≤ W.heap.size → (∀ a' W', Ext W W' → Ax x a' W' → K a' W') →
      assign.wpIn (F.inRound l) (nn - 1 - 1) Try.prog (Exit.then K (fun _ _ _ => False)) { tmps := (ps.zip (encs x)).foldl (fun t (p, v) => t.setIfInBounds p v) a.tmps, defers := [] } W)
    (hbody : ∀ (l : Nat) (s : σ) (x : Fin N) (a' : Act) (W : World), w.heap.size ≤ l → (List.range x.val).foldlM f s0 = some s → (∃ r, W.heap[l]? = some (.loop r)) → StAt D w (cells s) W → Ax x a' W →
      body.wpIn (F.inRound l) (nn - 1 - 1) Try.prog (StPost D cells X W (f s x.val)) a' W)
    (hdone : ∀ (M : Nat) (s : σ) (W : World), w.heap.size ≤ M → (List.range N).foldlM f s0 = some s → StAt D w (cells s) W → W.heap[M]? = some (.deferred (some [])) → Q .normal { a with defers := { target := .collected M, args := #[] } :: a.defers } W)
    (hstop : ∀ (M : Nat) (W : World), w.heap.size ≤ M → (List.range N).foldlM f s0 = none → But D w W → X W → W.heap[M]? = some (.deferred (some [])) → Q .ret { a with defers := { target := .collected M, args := #[] } :: a.defers } W) :
    (Code.rangeFunc g ps assign body).wpIn F nn Try.prog Q a w := by
  refine wpIn_rangeFunc ?_
  intro fn hfn
  rw [hro]
  obtain ⟨rec, hrec⟩ : ∃ rec : LoopState → Option Code → Loop, rec = fun st pe => { state := st, pending := pe, fn := fn, tmps := a.tmps, params := ps, assign := assign, body := body, defers := w.heap.size } := ⟨_, rfl⟩
  obtain ⟨W1, hW1⟩ : ∃ W1, (w.alloc (.deferred (some []))).alloc (.loop (rec .ready none)) = W1 := ⟨_, rfl⟩
  have hL1 : W1.heap[w.heap.size + 1]? = some (.loop (rec .ready none)) := by
    rw [← hW1]; have := World.alloc_heap_new (w.alloc (.deferred (some []))) (.loop (rec .ready none)); rwa [World.size_alloc] at this
  have hK1 : W1.heap[w.heap.size]? = some (.deferred (some [])) := by
    rw [← hW1]; exact (Below.heap_alloc _ _ _ (by simp)).trans (World.alloc_heap_new w _)
  have hx1 : Ext w W1 := by rw [← hW1]; exact ((Ext.refl w).alloc _).alloc _
  have hnd : w.heap.size ∉ D := fun h => by have := hD _ h; omega
  refine ⟨w.heap.size + 1, [{ target := .collected w.heap.size, args := #[] }], W1, { target := .fn (.func gf) lb, args := #[.func (.yield (w.heap.size + 1)) #[] #[]] }, W1, gf,
    #[.func (.yield (w.heap.size + 1)) #[] #[]] ++ lb, W1, ?_, ?_, ?_, ?_, fun _ => h1, ?_⟩
  · rw [← hW1, hrec]; exact run_enterLoop_outer _ _ _ _ _
  · simp only [resolve, hg]
    simp [go_sem]
  · intro f' hf'; simp [Target.leads] at hf'; subst hf'; exact hFg
  · simp [invoke, go_sem, eg]
  · exact range_core (G := fun W => W.heap[w.heap.size]? = some (.deferred (some []))) hrec hfn hseq hps hD hx1.bel (Nat.le_succ _) hL1 ⟨hx1.but, h0.ext hx1⟩ hK1
      (fun A B hA hb => (hb.block _ (Array.getElem?_eq_some_iff.1 hA).1 hnd).trans hA) (fun A o' hA => (World.putObj_heap_other (by omega)).trans hA) hX Ax hAx (hassign _)
      (fun s x a' W hf hr hs hax => hbody _ s x a' W (Nat.le_succ _) hf hr hs hax) (fun s W h2 h3 h4 => hdone _ s W (Nat.le_refl _) h2 h3 h4) (fun W h2 h3 h4 h5 => hstop _ W (Nat.le_refl _) h2 h3 h4 h5)

/-- Within a round of another one. -/
theorem wpIn_range_inn (cells : σ → List (Nat × Nat × Value)) (f : σ → Nat → Option σ) (s0 : σ) (X : World → Prop) (D : List Nat) {l₀ : Nat} {r₀ : Loop} (hro : F.round = some l₀) (hl₀ : w.heap[l₀]? = some (.loop r₀)) (h1 : 1 ≤ nn) {gf : Nat} {lb : Array Value} (hg : a.eval g = .func (.func gf) #[] lb) (hFg : F.fn gf) (eg : ∀ args w, (callFunc gf args).run Try.prog w = .ok (.enter gf args) w)
    {encs : Fin N → Array Value} (hseq : SeqSt F (nn - 1) Try.prog gf lb encs D w) (hps : ∀ x, (encs x).size = ps.size)
    (hD : ∀ d ∈ D, d < w.heap.size) (h0 : CellsAt (cells s0) w) (hX : OwnFrom w.heap.size (fun (_ : Unit) W => X W)) (Ax : Fin N → Act → World → Prop) (hAx : ∀ x a', OwnFrom w.heap.size (fun (_ : Unit) W => Ax x a' W))
    (hassign : ∀ (l : Nat) (x : Fin N) (W : World) (K : Act → World → Prop), w.heap.size ≤ W.heap.size → (∀ a' W', Ext W W' → Ax x a' W' → K a' W') →
      assign.wpIn (F.inRound l) (nn - 1 - 1) Try.prog (Exit.then K (fun _ _ _ => False)) { tmps := (ps.zip (encs x)).foldl (fun t (p, v) => t.setIfInBounds p v) a.tmps, defers := [] } W)
    (hbody : ∀ (l : Nat) (s : σ) (x : Fin N) (a' : Act) (W : World), w.heap.size ≤ l → (List.range x.val).foldlM f s0 = some s → (∃ r, W.heap[l]? = some (.loop r)) → StAt D w (cells s) W → Ax x a' W →
      body.wpIn (F.inRound l) (nn - 1 - 1) Try.prog (StPost D cells X W (f s x.val)) a' W)
    (hdone : ∀ (s : σ) (W : World), (List.range N).foldlM f s0 = some s → StAt D w (cells s) W → Q .normal a W)
    (hstop : ∀ (W : World), (List.range N).foldlM f s0 = none → But D w W → X W → Q .ret a W) :
    (Code.rangeFunc g ps assign body).wpIn F nn Try.prog Q a w := by
  refine wpIn_rangeFunc ?_
  intro fn hfn
  rw [hro]
  obtain ⟨rec, hrec⟩ : ∃ rec : LoopState → Option Code → Loop, rec = fun st pe => { state := st, pending := pe, fn := fn, tmps := a.tmps, params := ps, assign := assign, body := body, defers := r₀.defers } := ⟨_, rfl⟩
  obtain ⟨W1, hW1⟩ : ∃ W1, w.alloc (.loop (rec .ready none)) = W1 := ⟨_, rfl⟩
  have hL1 : W1.heap[w.heap.size]? = some (.loop (rec .ready none)) := by rw [← hW1]; exact World.alloc_heap_new w _
  have hx1 : Ext w W1 := by rw [← hW1]; exact (Ext.refl w).alloc _
  refine ⟨w.heap.size, [], W1, { target := .fn (.func gf) lb, args := #[.func (.yield w.heap.size) #[] #[]] }, W1, gf,
    #[.func (.yield w.heap.size) #[] #[]] ++ lb, W1, ?_, ?_, ?_, ?_, fun _ => h1, ?_⟩
  · rw [← hW1, hrec]; exact run_enterLoop_inner hl₀ _ _ _ _ _
  · simp only [resolve, hg]
    simp [go_sem]
  · intro f' hf'; simp [Target.leads] at hf'; subst hf'; exact hFg
  · simp [invoke, go_sem, eg]
  · exact range_core (G := fun _ => True) hrec hfn hseq hps hD hx1.bel (Nat.le_refl _) hL1 ⟨hx1.but, h0.ext hx1⟩ trivial
      (fun _ _ _ _ => trivial) (fun _ _ _ => trivial) hX Ax hAx (hassign _)
      (fun s x a' W hf hr hs hax => hbody _ s x a' W (Nat.le_refl _) hf hr hs hax) (fun s W h2 h3 _ => hdone s W h2 h3) (fun W h2 h3 h4 _ => hstop W h2 h3 h4)
end
end Go.Proofs.Ytlljhimaopnbfaa
