/- Ranges over functions by an invariant of the world: the body may grow a slice of its own. No condition. -/
import Derived.Test.YtgeapenglcohfaaGSegs
namespace Go.Proofs.Ytgeapenglcohfaa
open Go.RowKit

/-- What is no row of cells, lies as it lay. -/
def KeepNC (W W' : World) : Prop := W.heap.size ≤ W'.heap.size ∧ ∀ (k : Nat) (o : Obj), W.heap[k]? = some o → o.isCells = false → W'.heap[k]? = some o
theorem KeepNC.trans {A B C : World} (h : KeepNC A B) (k : KeepNC B C) : KeepNC A C := ⟨Nat.le_trans h.1 k.1, fun i o hi ho => k.2 i o (h.2 i o hi ho) ho⟩
theorem KeepNC.ext {A B : World} (x : Ext A B) : KeepNC A B := ⟨x.bel.size, fun k _ hk _ => (x.bel.block k (Array.getElem?_eq_some_iff.1 hk).1).trans hk⟩
theorem KeepNC.grown {A B : World} {row : Option Nat} (hg : A.grownBy B row) (hr : ∀ r, row = some r → ∃ cs t p, A.heap[r]? = some (.cells cs t p)) : KeepNC A B := by
  obtain ⟨_, _, _, hs, hb⟩ := hg
  refine ⟨hs, fun k o hk ho => (hb k (Array.getElem?_eq_some_iff.1 hk).1 fun e => ?_).trans hk⟩
  obtain ⟨cs, t, p, hc⟩ := hr k e.symm
  rw [hk] at hc
  cases hc
  cases ho
theorem KeepNC.but {A B : World} {b : Nat} {cs : Array Value} {T : TypeId} (h : But [b] A B) (hb : A.heap[b]? = some (.cells cs T)) : KeepNC A B := by
  refine ⟨h.size, fun k o hk ho => (h.block k (Array.getElem?_eq_some_iff.1 hk).1 fun e => ?_).trans hk⟩
  rw [List.mem_singleton] at e
  subst e
  rw [hb] at hk
  cases hk
  cases ho

/-- How a round is left. -/
def InvPost (D : List Nat) (B0 : Nat) (I : World → Prop) (X : World → Prop) (W : World) : Exit → Act → World → Prop
  | .normal, _, W' => KeepNC W W' ∧ KpD D B0 W W' ∧ I W'
  | .ret, _, W' => KeepNC W W' ∧ KpD D B0 W W' ∧ X W'
  | _, _, _ => False

section
variable {N : Nat} {D : List Nat} {w : World}
variable {F : Fence} {nn : Nat} {g : Operand} {ps : Array Tmp} {assign body : Code} {Q : Exit → Act → World → Prop} {a : Act}

theorem wpIn_range_inv (I : Nat → World → Prop) (X : World → Prop) (D : List Nat) (hro : F.round = none) (h1 : 1 ≤ nn) {gf : Nat} {lb : Array Value} (hg : a.eval g = .func (.func gf) #[] lb) (hFg : F.fn gf) (eg : ∀ args w, (callFunc gf args).run Try.prog w = .ok (.enter gf args) w)
    {encs : Fin N → Array Value} (hseq : SeqSt F (nn - 1) Try.prog gf lb encs D w) (hps : ∀ x, (encs x).size = ps.size)
    (h0 : I 0 w) (hI : OwnFrom w.heap.size (fun (c : Nat) W => I c W)) (hX : OwnFrom w.heap.size (fun (_ : Unit) W => X W)) (Ax : Fin N → Act → World → Prop) (hAx : ∀ x a', OwnFrom w.heap.size (fun (_ : Unit) W => Ax x a' W))
    (hassign : ∀ (l : Nat) (x : Fin N) (W : World) (K : Act → World → Prop), w.heap.size ≤ W.heap.size → (∀ a' W', Ext W W' → Ax x a' W' → K a' W') →
      assign.wpIn (F.inRound l) (nn - 1 - 1) Try.prog (Exit.then K (fun _ _ _ => False)) { tmps := (ps.zip (encs x)).foldl (fun t (p, v) => t.setIfInBounds p v) a.tmps, defers := [] } W)
    (hbody : ∀ (l : Nat) (x : Fin N) (a' : Act) (W : World), w.heap.size ≤ l → w.heap.size ≤ W.heap.size → (∃ r, W.heap[l]? = some (.loop r)) → I x.val W → Ax x a' W →
      body.wpIn (F.inRound l) (nn - 1 - 1) Try.prog (InvPost D w.heap.size (I (x.val + 1)) X W) a' W)
    (hdone : ∀ (M : Nat) (W : World), w.heap.size ≤ M → I N W → W.heap[M]? = some (.deferred (some [])) → Q .normal { a with defers := { target := .collected M, args := #[] } :: a.defers } W)
    (hstop : ∀ (M : Nat) (W : World), w.heap.size ≤ M → X W → W.heap[M]? = some (.deferred (some [])) → Q .ret { a with defers := { target := .collected M, args := #[] } :: a.defers } W) :
    (Code.rangeFunc g ps assign body).wpIn F nn Try.prog Q a w := by
  refine wpIn_rangeFunc ?_
  intro fn hfn
  rw [hro]
  obtain ⟨rec, hrec⟩ : ∃ rec : LoopState → Option Code → Loop, rec = fun st pe => { state := st, pending := pe, fn := fn, tmps := a.tmps, params := ps, assign := assign, body := body, defers := w.heap.size } := ⟨_, rfl⟩
  obtain ⟨W1, hW1⟩ : ∃ W1, (w.alloc (.deferred (some []))).alloc (.loop (rec .ready none)) = W1 := ⟨_, rfl⟩
  have hL1 : W1.heap[w.heap.size + 1]? = some (.loop (rec .ready none)) := by
    rw [← hW1]; have := World.alloc_heap_new (w.alloc (.deferred (some []))) (.loop (rec .ready none)); rwa [World.size_alloc] at this
  have hK1 : W1.heap[w.heap.size]? = some (.deferred (some [])) := by
    rw [← hW1]; exact (Below.heap_alloc _ _ _ (by simp)).trans (World.alloc_heap_new w _)
  have hx1 : Ext w W1 := by rw [← hW1]; exact ((Ext.refl w).alloc _).alloc _
  have rl : ∀ st pe, (Obj.loop (rec st pe)).isCells = false := fun _ _ => rfl
  have hl : w.heap.size ≤ w.heap.size + 1 := Nat.le_succ _
  have put : ∀ (c : Nat) (A : World) (o o' : Obj), A.heap[w.heap.size + 1]? = some o → o.isCells = false → I c A → I c (A.putObj (w.heap.size + 1) o') := fun c A o o' ho hc h =>
    hI.putObj (s := c) _ h hl ho hc
  have putD : ∀ (A : World) (o' : Obj), A.heap[w.heap.size]? = some (.deferred (some [])) → (A.putObj (w.heap.size + 1) o').heap[w.heap.size]? = some (.deferred (some [])) := fun A o' hA => (World.putObj_heap_other (by omega)).trans hA
  refine ⟨w.heap.size + 1, [{ target := .collected w.heap.size, args := #[] }], W1, { target := .fn (.func gf) lb, args := #[.func (.yield (w.heap.size + 1)) #[] #[]] }, W1, gf,
    #[.func (.yield (w.heap.size + 1)) #[] #[]] ++ lb, W1, ?_, ?_, ?_, ?_, fun _ => h1, ?_⟩
  · rw [← hW1, hrec]; exact run_enterLoop_outer _ _ _ _ _
  · simp only [resolve, hg]
    simp [go_sem]
  · intro f' hf'; simp [Target.leads] at hf'; subst hf'; exact hFg
  · simp [invoke, go_sem, eg]
  refine (hseq (w.heap.size + 1) (fun c W => w.heap.size ≤ W.heap.size ∧ I c W ∧ W.heap[w.heap.size]? = some (.deferred (some [])) ∧ W.heap[w.heap.size + 1]? = some (.loop (rec .ready none)))
    (fun W => X W ∧ W.heap[w.heap.size]? = some (.deferred (some [])) ∧ W.heap[w.heap.size + 1]? = some (.loop (rec .done (some .ret)))) W1 hx1.bel ?_ ?_ ?_ ⟨hx1.bel.size, hI 0 _ _ none h0 (hx1.grow none) (fun r e => by cases e), hK1, hL1⟩).mono ?_
  · rintro c A B ⟨h0, h2, h3, h4⟩ x
    exact ⟨Nat.le_trans h0 x.bel.size, hI c _ _ none h2 (x.grow none) (fun r e => by cases e), (x.bel.block _ (Array.getElem?_eq_some_iff.1 h3).1).trans h3, (x.bel.block _ (Array.getElem?_eq_some_iff.1 h4).1).trans h4⟩
  · rintro A B ⟨h3, h4, h5⟩ x
    exact ⟨hX () _ _ none h3 (x.grow none) (fun r e => by cases e), (x.bel.block _ (Array.getElem?_eq_some_iff.1 h4).1).trans h4, (x.bel.block _ (Array.getElem?_eq_some_iff.1 h5).1).trans h5⟩
  · rintro x W ⟨hsz, h2, h3, h4⟩
    have hy := run_yield (P := Try.prog) (args := encs x) h4 (by rw [hrec]; exact hps x)
    rw [hrec] at hy
    refine ⟨fn, _, assign, body, hy, roundIn_of_wpIn hfn (hassign _ x W _ hsz ?_)⟩
    clear hy
    intro a1 Wa xa hax
    have h4a := (xa.bel.block _ (Array.getElem?_eq_some_iff.1 h4).1).trans h4
    have h3a := (xa.bel.block _ (Array.getElem?_eq_some_iff.1 h3).1).trans h3
    refine ⟨_, run_beginRound h4a (by rw [hrec]), ?_⟩
    have h2b := put _ Wa _ (.loop { rec .ready none with state := .busy }) h4a (rl _ _) (hI _ _ _ none h2 (xa.grow none) (fun r e => by cases e))
    have h4b : (Wa.putObj (w.heap.size + 1) (.loop { rec .ready none with state := .busy })).heap[w.heap.size + 1]? = some (.loop { rec .ready none with state := .busy }) := World.putObj_heap_same (Array.getElem?_eq_some_iff.1 h4a).1
    have h3b := putD _ (.loop { rec .ready none with state := .busy }) h3a
    have hszb : w.heap.size ≤ (Wa.putObj (w.heap.size + 1) (.loop { rec .ready none with state := .busy })).heap.size := Nat.le_of_lt (Array.getElem?_eq_some_iff.1 h3b).1
    refine wpIn_mono (hbody _ x a1 _ hl hszb ⟨_, h4b⟩ h2b ((hAx x a1).putObj (s := ()) _ hax hl h4a (rl _ _))) ?_
    have k1 : KpD D w.heap.size W (Wa.putObj (w.heap.size + 1) (.loop { rec .ready none with state := .busy })) := KpD.trans (fun _ _ _ _ _ h => xa.cell_some h) (KpD.put h4a (rl _ _))
    rintro e a3 W3 hp
    cases e with
    | normal =>
      obtain ⟨e1, e2, e3⟩ := hp
      have h4c := e1.2 _ _ h4b rfl
      have h3c := e1.2 _ _ h3b rfl
      have hr := run_endRound (P := Try.prog) none h4c
      refine ⟨_, _, hr, k1.trans (e2.trans (KpD.put h4c rfl)), .inl ⟨rfl, ?_, put _ W3 _ _ h4c rfl e3, putD _ _ h3c, ?_⟩⟩
      · have := Nat.le_trans hszb e1.1
        simpa [World.putObj] using this
      · rw [World.putObj_heap_same (Array.getElem?_eq_some_iff.1 h4c).1, hrec]
        rfl
    | ret =>
      obtain ⟨e1, e2, e3⟩ := hp
      have h4c := e1.2 _ _ h4b rfl
      have h3c := e1.2 _ _ h3b rfl
      have hr := run_endRound (P := Try.prog) (some .ret) h4c
      refine ⟨_, _, hr, k1.trans (e2.trans (KpD.put h4c rfl)), .inr ⟨rfl, hX.putObj (s := ()) _ e3 hl h4c rfl, putD _ _ h3c, ?_⟩⟩
      rw [World.putObj_heap_same (Array.getElem?_eq_some_iff.1 h4c).1, hrec]
      rfl
    | exit id => exact hp.elim
    | goto t => exact hp.elim
    | panic ch => exact hp.elim
    | outgrown => exact hp.elim
  · rintro e W2 ⟨⟨v, rfl⟩, (⟨_, h2, h3, h4⟩ | ⟨h3, h4, h5⟩)⟩
    · exact ⟨none, _, by have := run_endLoop (P := Try.prog) h4 (by rw [hrec]; simp); rw [hrec] at this; exact this, hdone _ _ (Nat.le_refl _) (put _ W2 _ _ h4 (rl _ _) h2) (putD _ _ h3)⟩
    · exact ⟨some .ret, _, by have := run_endLoop (P := Try.prog) h5 (by rw [hrec]; simp); rw [hrec] at this; exact this,
        wpIn_ret (hstop _ _ (Nat.le_refl _) (hX.putObj (s := ()) _ h3 hl h5 (rl _ _)) (putD _ _ h4))⟩
end
end Go.Proofs.Ytgeapenglcohfaa
