/- Ranges over functions whose body grows a slice of its own, and may return; the functions may hold blocks of their own while they yield. No condition. -/
import Derived.Test.YtkjgcmdabelohaaGreatMAcc
import Derived.Test.YtkjgcmdabelohaaGreatPSrch
namespace Go.Proofs.YtkjgcmdabelohaaGreat
open Go.RowKit

/-- What lay below b0, and block g, lie on. -/
structure Keep (b0 : Nat) (g : Option Nat) (A B : World) : Prop where
  os : B.os = A.os
  tape : B.tape = A.tape
  output : B.output = A.output
  size : A.heap.size ≤ B.heap.size
  block : ∀ i, i < A.heap.size → (i < b0 ∨ g = some i) → B.heap[i]? = A.heap[i]?
theorem Keep.of_ext {b0 : Nat} {g : Option Nat} {A B : World} (x : Ext A B) : Keep b0 g A B := ⟨x.bel.os, x.bel.tape, x.bel.output, x.bel.size, fun i hi _ => x.bel.block i hi⟩
theorem Keep.mono {b0 b1 : Nat} {g : Option Nat} {A B : World} (h : Keep b1 g A B) (hb : b0 ≤ b1) : Keep b0 g A B := ⟨h.os, h.tape, h.output, h.size, fun i hi hc => h.block i hi (hc.imp (fun h => by omega) id)⟩
theorem Keep.toNone {b0 : Nat} {g : Option Nat} {A B : World} (h : Keep b0 g A B) : Keep b0 none A B := ⟨h.os, h.tape, h.output, h.size, fun i hi hc => h.block i hi (.inl (hc.resolve_right (by simp)))⟩
theorem Keep.put {b0 l : Nat} {g : Option Nat} (A : World) (o : Obj) (hl : b0 ≤ l) (hg : g ≠ some l) : Keep b0 g A (A.putObj l o) :=
  ⟨rfl, rfl, rfl, by simp [World.putObj], fun i _ hc => World.putObj_heap_other (by
    rintro rfl
    rcases hc with h | h
    · omega
    · exact hg h)⟩
theorem Keep.but {b0 : Nat} {g : Option Nat} {D : List Nat} {A B : World} (h : But D A B) (hD : ∀ d ∈ D, b0 ≤ d ∧ g ≠ some d) : Keep b0 g A B :=
  ⟨h.os, h.tape, h.output, h.size, fun i hi hc => h.block i hi (fun hd => by
    obtain ⟨h1, h2⟩ := hD i hd
    rcases hc with h | h
    · omega
    · exact h2 h)⟩
theorem but_mono {D E : List Nat} {A B : World} (h : But D A B) (hs : ∀ d ∈ D, d ∈ E) : But E A B := ⟨h.os, h.tape, h.output, h.size, fun i hi hd => h.block i hi (fun e => hd (hs i e))⟩
theorem but_put {D : List Nat} {l : Nat} (A : World) (o : Obj) (hl : l ∈ D) : But D A (A.putObj l o) :=
  ⟨rfl, rfl, rfl, by simp [World.putObj], fun i _ hd => World.putObj_heap_other (by rintro rfl; exact hd hl)⟩

/-- Old or new. -/
def Nxt (A : World) (g g' : Option Nat) : Prop := g' = g ∨ ∀ r, g' = some r → A.heap.size ≤ r
theorem Nxt.refl (A : World) (g : Option Nat) : Nxt A g g := .inl rfl
theorem Nxt.trans {A B : World} {g g1 g2 : Option Nat} (h : Nxt A g g1) (hs : A.heap.size ≤ B.heap.size) (k : Nxt B g1 g2) : Nxt A g g2 := by
  rcases k with rfl | k
  · exact h
  · exact .inr fun r e => Nat.le_trans hs (k r e)
theorem but_nxt {D : List Nat} {A B C : World} {g g1 : Option Nat} (h : But (g.toList ++ D) A B) (hn : Nxt A g g1) (k : But (g1.toList ++ D) B C) : But (g.toList ++ D) A C :=
  ⟨k.os.trans h.os, k.tape.trans h.tape, k.output.trans h.output, Nat.le_trans h.size k.size, fun i hi hd => (k.block i (Nat.lt_of_lt_of_le hi h.size) (fun e => by
    rcases List.mem_append.1 e with e | e
    · rcases hn with rfl | hn
      · exact hd (List.mem_append.2 (.inl e))
      · have := hn i (by simpa using e)
        omega
    · exact hd (List.mem_append.2 (.inr e)))).trans (h.block i hi hd)⟩

/-- A function that yields N times, in order. J c g: c rounds are done, g is the block of the body's own slice. What is yielded is told by Enc. -/
def SeqG (F : Fence) (n : Nat) (P : Program) (gf : Nat) (lb : Array Value) (N : Nat) (Enc : Nat → Option Nat → Array Value → World → Prop) (D : List Nat) (G : Nat → Prop) (w : World) : Prop :=
  ∀ (l : Nat) (J : Nat → Option Nat → World → Prop) (Jx : World → Prop) (W : World) (g0 : Option Nat), Below w.heap.size w W → l < W.heap.size → w.heap.size ≤ l →
    (∀ c g A, J c g A → ∀ r, g = some r → G r ∧ ∃ o : Obj, A.heap[r]? = some o ∧ o.isCells = true) →
    (∀ c g A B, J c g A → Keep W.heap.size g A B → J c g B) → (∀ A B, Jx A → Keep W.heap.size none A B → Jx B) →
    (∀ (x : Nat) (g : Option Nat) (args : Array Value) (W1 : World), x < N → J x g W1 → Enc x g args W1 → YieldAt F (n - 1) P l args W1 fun e W' =>
      But (g.toList ++ (l :: D)) W1 W' ∧ ((e = .returned (.bool true) ∧ ∃ g', Nxt W1 g g' ∧ J (x + 1) g' W') ∨ (e = .returned (.bool false) ∧ Jx W'))) →
    J 0 g0 W → CallsIn F n P gf (#[.func (.yield l) #[] #[]] ++ lb) W fun e W' => (∃ v, e = .returned v) ∧ ((∃ g, J N g W') ∨ Jx W')

/-- How a round is left. -/
def GPost (D : List Nat) (I : Nat → Option Nat → World → Prop) (X : World → Prop) (x : Nat) (g : Option Nat) (W : World) : Exit → Act → World → Prop
  | .normal, _, W' => But (g.toList ++ D) W W' ∧ ∃ g', Nxt W g g' ∧ I (x + 1) g' W'
  | .ret, _, W' => But (g.toList ++ D) W W' ∧ X W'
  | _, _, _ => False

section
variable {F : Fence} {nn N : Nat} {g : Operand} {ps : Array Tmp} {assign body : Code} {Q : Exit → Act → World → Prop} {a : Act} {w : World}

theorem wpIn_range_g (Enc : Nat → Option Nat → Array Value → World → Prop) (I : Nat → Option Nat → World → Prop) (X : World → Prop) (D : List Nat) (G : Nat → Prop) (g0 : Option Nat) (hro : F.round = none) (h1 : 1 ≤ nn) {gf : Nat} {lb : Array Value} (hg : a.eval g = .func (.func gf) #[] lb) (hFg : F.fn gf)
    (eg : ∀ args w, (callFunc gf args).run Tryz.prog w = .ok (.enter gf args) w) (hseq : SeqG F (nn - 1) Tryz.prog gf lb N Enc D G w) (hps : ∀ x g args W, Enc x g args W → args.size = ps.size) (hD : ∀ d ∈ D, d < w.heap.size)
    (hIk : ∀ c g A B, I c g A → Keep w.heap.size g A B → I c g B) (hIg : ∀ c g A, I c g A → ∀ r, g = some r → G r ∧ ∃ o : Obj, A.heap[r]? = some o ∧ o.isCells = true) (hXk : ∀ A B, X A → Keep w.heap.size none A B → X B)
    (h0 : I 0 g0 w) (Ax : Nat → Option Nat → Act → World → Prop) (hAx : ∀ x g a' W l o', w.heap.size ≤ l → (∃ r, W.heap[l]? = some (.loop r)) → Ax x g a' W → Ax x g a' (W.putObj l o'))
    (hassign : ∀ (l x : Nat) (g : Option Nat) (args : Array Value) (W : World) (K : Act → World → Prop), x < N → I x g W → Enc x g args W → w.heap.size ≤ W.heap.size → (∀ a' W', Ext W W' → Ax x g a' W' → K a' W') →
      assign.wpIn (F.inRound l) (nn - 1 - 1) Tryz.prog (Exit.then K (fun _ _ _ => False)) { tmps := (ps.zip args).foldl (fun t (p, v) => t.setIfInBounds p v) a.tmps, defers := [] } W)
    (hbody : ∀ (l x : Nat) (g : Option Nat) (a' : Act) (W : World), w.heap.size ≤ l → (∃ r, W.heap[l]? = some (.loop r)) → x < N → I x g W → Ax x g a' W → body.wpIn (F.inRound l) (nn - 1 - 1) Tryz.prog (GPost D I X x g W) a' W)
    (hdone : ∀ (M : Nat) (g : Option Nat) (W : World), w.heap.size ≤ M → I N g W → W.heap[M]? = some (.deferred (some [])) → Q .normal { a with defers := { target := .collected M, args := #[] } :: a.defers } W)
    (hstop : ∀ (M : Nat) (W : World), w.heap.size ≤ M → X W → W.heap[M]? = some (.deferred (some [])) → Q .ret { a with defers := { target := .collected M, args := #[] } :: a.defers } W) :
    (Code.rangeFunc g ps assign body).wpIn F nn Tryz.prog Q a w := by
  refine wpIn_rangeFunc ?_
  intro fn hfn
  rw [hro]
  obtain ⟨rec, hrec⟩ : ∃ rec : LoopState → Option Code → Loop, rec = fun st pe => { state := st, pending := pe, fn := fn, tmps := a.tmps, params := ps, assign := assign, body := body, defers := w.heap.size } := ⟨_, rfl⟩
  obtain ⟨W1, hW1⟩ : ∃ W1, (w.alloc (.deferred (some []))).alloc (.loop (rec .ready none)) = W1 := ⟨_, rfl⟩
  have hL1 : W1.heap[w.heap.size + 1]? = some (.loop (rec .ready none)) := by
    rw [← hW1]; have := World.alloc_heap_new (w.alloc (.deferred (some []))) (.loop (rec .ready none)); rwa [World.size_alloc] at this
  have hK1 : W1.heap[w.heap.size]? = some (.deferred (some [])) := by
    rw [← hW1]; exact (Below.heap_alloc _ _ _ (by simp)).trans (World.alloc_heap_new w _)
  have hx1 : Ext w W1 := by rw [← hW1]; exact ((Ext.refl w).alloc _).alloc _
  have hs1 : W1.heap.size = w.heap.size + 1 + 1 := by rw [← hW1]; simp
  obtain ⟨l, hl⟩ : ∃ l, l = w.heap.size + 1 := ⟨_, rfl⟩
  obtain ⟨M, hM⟩ : ∃ M, M = w.heap.size := ⟨_, rfl⟩
  rw [← hl] at hL1
  rw [← hM] at hK1
  have hlM : l ≠ M := by omega
  have hgl : ∀ {c : Nat} {g : Option Nat} {A : World} {q : Nat} {ob : Obj}, I c g A → A.heap[q]? = some ob → ob.isCells = false → g ≠ some q := by
    intro c g A q ob hi hq hc e
    obtain ⟨_, o, h2, h3⟩ := hIg c g A hi q e
    rw [hq] at h2
    cases h2
    rw [hc] at h3
    cases h3
  refine ⟨w.heap.size + 1, [{ target := .collected w.heap.size, args := #[] }], W1, { target := .fn (.func gf) lb, args := #[.func (.yield (w.heap.size + 1)) #[] #[]] }, W1, gf,
    #[.func (.yield (w.heap.size + 1)) #[] #[]] ++ lb, W1, ?_, ?_, ?_, ?_, fun _ => h1, ?_⟩
  · rw [← hW1, hrec]; exact run_enterLoop_outer _ _ _ _ _
  · simp only [resolve, hg]
    simp [go_sem]
  · intro f' hf'; simp [Target.leads] at hf'; subst hf'; exact hFg
  · simp [invoke, go_sem, eg]
  rw [← hl, ← hM]
  refine (hseq l (fun c g W => I c g W ∧ W.heap[l]? = some (.loop (rec .ready none)) ∧ W.heap[M]? = some (.deferred (some [])))
    (fun W => X W ∧ W.heap[l]? = some (.loop (rec .done (some .ret))) ∧ W.heap[M]? = some (.deferred (some []))) W1 g0 hx1.bel (by omega) (by omega) ?_ ?_ ?_ ?_ ⟨hIk _ _ _ _ h0 (.of_ext hx1), hL1, hK1⟩).mono ?_
  · rintro c g A ⟨h2, -, -⟩ r e
    exact hIg c g A h2 r e
  · rintro c g A B ⟨h2, h3, h4⟩ hk
    exact ⟨hIk _ _ _ _ h2 (hk.mono (by omega)), (hk.block l (Array.getElem?_eq_some_iff.1 h3).1 (.inl (by omega))).trans h3, (hk.block M (Array.getElem?_eq_some_iff.1 h4).1 (.inl (by omega))).trans h4⟩
  · rintro A B ⟨h2, h3, h4⟩ hk
    exact ⟨hXk _ _ h2 (hk.mono (by omega)), (hk.block l (Array.getElem?_eq_some_iff.1 h3).1 (.inl (by omega))).trans h3, (hk.block M (Array.getElem?_eq_some_iff.1 h4).1 (.inl (by omega))).trans h4⟩
  · rintro x g args W hx ⟨h2, h3, h4⟩ henc
    have hsz : w.heap.size ≤ W.heap.size := by have := (Array.getElem?_eq_some_iff.1 h3).1; omega
    have hy := run_yield (P := Tryz.prog) (args := args) h3 (by rw [hrec]; exact hps x g args W henc)
    rw [hrec] at hy
    refine ⟨fn, _, assign, body, hy, roundIn_of_wpIn hfn (hassign l x g args W _ hx h2 henc hsz ?_)⟩
    clear hy
    intro a1 Wa xa hax
    have h3a := (xa.bel.block l (Array.getElem?_eq_some_iff.1 h3).1).trans h3
    have h4a := (xa.bel.block M (Array.getElem?_eq_some_iff.1 h4).1).trans h4
    have h2a := hIk _ _ _ _ h2 (Keep.of_ext xa)
    refine ⟨_, run_beginRound h3a (by rw [hrec]), ?_⟩
    have h3b : (Wa.putObj l (.loop { rec .ready none with state := .busy })).heap[l]? = some (.loop { rec .ready none with state := .busy }) := World.putObj_heap_same (Array.getElem?_eq_some_iff.1 h3a).1
    have h4b : (Wa.putObj l (.loop { rec .ready none with state := .busy })).heap[M]? = some (.deferred (some [])) := (World.putObj_heap_other (Ne.symm hlM)).trans h4a
    have h2b := hIk _ _ _ _ h2a (Keep.put Wa (.loop { rec .ready none with state := .busy }) (by omega : w.heap.size ≤ l) (hgl h2a h3a rfl))
    have kb : But (g.toList ++ (l :: D)) W (Wa.putObj l (.loop { rec .ready none with state := .busy })) := (xa.but (D := g.toList ++ (l :: D))).trans (but_put Wa _ (by simp))
    have hlD : l ∉ g.toList ++ D := by
      intro h
      rcases List.mem_append.1 h with h | h
      · exact hgl h2a h3a rfl (by simpa using h)
      · have := hD l h; omega
    have hMD : M ∉ g.toList ++ D := by
      intro h
      rcases List.mem_append.1 h with h | h
      · exact hgl h2a h4a rfl (by simpa using h)
      · have := hD M h; omega
    have hsb : W.heap.size ≤ (Wa.putObj l (.loop { rec .ready none with state := .busy })).heap.size := kb.size
    refine wpIn_mono (hbody l x g a1 _ (by omega) ⟨_, h3b⟩ hx h2b (hAx x g a1 Wa l _ (by omega) ⟨_, h3a⟩ hax)) ?_
    rintro e a3 W3 hp
    cases e with
    | normal =>
      obtain ⟨e1, g', e2, e3⟩ := hp
      have h3c := (e1.block l (Array.getElem?_eq_some_iff.1 h3b).1 hlD).trans h3b
      have h4c := (e1.block M (Array.getElem?_eq_some_iff.1 h4b).1 hMD).trans h4b
      have hr := run_endRound (P := Tryz.prog) none h3c
      have e1' : But (g.toList ++ (l :: D)) _ W3 := but_mono e1 (fun d hd => by
        rcases List.mem_append.1 hd with h | h
        · exact List.mem_append.2 (.inl h)
        · exact List.mem_append.2 (.inr (List.mem_cons_of_mem _ h)))
      refine ⟨_, _, hr, (kb.trans e1').trans (but_put W3 _ (by simp)), .inl ⟨rfl, g', ?_, hIk _ _ _ _ e3 (Keep.put W3 _ (by omega : w.heap.size ≤ l) (hgl e3 h3c rfl)), ?_, (World.putObj_heap_other (Ne.symm hlM)).trans h4c⟩⟩
      · rcases e2 with rfl | e2
        · exact .inl rfl
        · exact .inr fun r e => Nat.le_trans hsb (e2 r e)
      · rw [World.putObj_heap_same (Array.getElem?_eq_some_iff.1 h3c).1, hrec]
        rfl
    | ret =>
      obtain ⟨e1, e3⟩ := hp
      have h3c := (e1.block l (Array.getElem?_eq_some_iff.1 h3b).1 hlD).trans h3b
      have h4c := (e1.block M (Array.getElem?_eq_some_iff.1 h4b).1 hMD).trans h4b
      have hr := run_endRound (P := Tryz.prog) (some .ret) h3c
      have e1' : But (g.toList ++ (l :: D)) _ W3 := but_mono e1 (fun d hd => by
        rcases List.mem_append.1 hd with h | h
        · exact List.mem_append.2 (.inl h)
        · exact List.mem_append.2 (.inr (List.mem_cons_of_mem _ h)))
      refine ⟨_, _, hr, (kb.trans e1').trans (but_put W3 _ (by simp)), .inr ⟨rfl, hXk _ _ e3 (Keep.put W3 _ (by omega : w.heap.size ≤ l) (by simp)), ?_, (World.putObj_heap_other (Ne.symm hlM)).trans h4c⟩⟩
      rw [World.putObj_heap_same (Array.getElem?_eq_some_iff.1 h3c).1, hrec]
      rfl
    | exit id => exact hp.elim
    | goto t => exact hp.elim
    | panic ch => exact hp.elim
    | outgrown => exact hp.elim
  · rintro e W2 ⟨⟨v, rfl⟩, (⟨g, h2, h3, h4⟩ | ⟨h2, h3, h4⟩)⟩
    · exact ⟨none, _, by have := run_endLoop (P := Tryz.prog) h3 (by rw [hrec]; simp); rw [hrec] at this; exact this,
        hdone M g _ (by omega) (hIk _ _ _ _ h2 (Keep.put W2 _ (by omega : w.heap.size ≤ l) (hgl h2 h3 rfl))) ((World.putObj_heap_other (Ne.symm hlM)).trans h4)⟩
    · exact ⟨some .ret, _, by have := run_endLoop (P := Tryz.prog) h3 (by rw [hrec]; simp); rw [hrec] at this; exact this,
        wpIn_ret (hstop M _ (by omega) (hXk _ _ h2 (Keep.put W2 _ (by omega : w.heap.size ≤ l) (by simp))) ((World.putObj_heap_other (Ne.symm hlM)).trans h4))⟩
end
end Go.Proofs.YtkjgcmdabelohaaGreat
