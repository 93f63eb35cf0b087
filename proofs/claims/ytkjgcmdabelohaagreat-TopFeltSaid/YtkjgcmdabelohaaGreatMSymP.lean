/- Ranges over functions whose body turns the cells of a few boxes, and may leave by an exit (a continue of an outer loop). No condition. -/
/- An append of one element that tells where its block lies: the old one, or new. No condition. -/
/- slices.SortStableFunc of up to 19 moves, by their turns. Condition: the slice is the call's own. -/
/- The symmetries of a program, as a list; pattern.Symmetries' closure; marks. Condition: so named. -/
import Derived.Test.YtkjgcmdabelohaaGreatPSrch
import Derived.Test.YtkjgcmdabelohaaGreatMBase
import Derived.Test.YtkjgcmdabelohaaGreatFRange
import Derived.Maps.AppendAt
import Derived.Sort.Grow
import Derived.Deep.Draws
import Derived.Test.YtkjgcmdabelohaaGreatFSort
import Derived.Test.YtkjgcmdabelohaaGreatFStabL
import Derived.Shelf.SlSortCmp.InsertionK
namespace Go.Proofs.YtkjgcmdabelohaaGreat
open Go.RowKit

/-- How a round is left: done, or by the exit. -/
def XPost {σ : Type} (D : List Nat) (cells : σ → List (Nat × Nat × Value)) (id : Nat) (W : World) (r : Option σ) : Exit → Act → World → Prop
  | .normal, _, W' => ∃ s, r = some s ∧ But D W W' ∧ CellsAt (cells s) W'
  | .exit k, _, W' => k = id ∧ r = none ∧ But D W W'
  | _, _, _ => False

section
variable {σ : Type} {N : Nat} {D : List Nat} {cells : σ → List (Nat × Nat × Value)} {f : σ → Nat → Option σ} {s0 : σ} {w : World}
variable {F : Fence} {nn : Nat} {g : Operand} {ps : Array Tmp} {assign body : Code} {Q : Exit → Act → World → Prop} {a : Act}

theorem range_coreX (id : Nat) {gf : Nat} {lb : Array Value} {encs : Fin N → Array Value} {W1 : World} {l fn dd : Nat} {a' : Act} {G : World → Prop} {rec : LoopState → Option Code → Loop}
    (hrec : rec = fun st pe => { state := st, pending := pe, fn := fn, tmps := a.tmps, params := ps, assign := assign, body := body, defers := dd }) (hfn : F.fn fn)
    (hseq : SeqSt F (nn - 1) Tryz.prog gf lb encs D w) (hps : ∀ x, (encs x).size = ps.size) (hD : ∀ d ∈ D, d < w.heap.size) (hb : Below w.heap.size w W1) (hl : w.heap.size ≤ l) (hl1 : W1.heap[l]? = some (.loop (rec .ready none)))
    (h0 : StAt D w (cells s0) W1) (hG1 : G W1) (hGb : ∀ A B, G A → But D A B → G B) (hGp : ∀ A o', G A → G (A.putObj l o'))
    (Ax : Fin N → Act → World → Prop) (hAx : ∀ x a', OwnFrom w.heap.size (fun (_ : Unit) W => Ax x a' W))
    (hassign : ∀ (x : Fin N) (W : World) (K : Act → World → Prop), w.heap.size ≤ W.heap.size → (∀ a' W', Ext W W' → Ax x a' W' → K a' W') →
      assign.wpIn (F.inRound l) (nn - 1 - 1) Tryz.prog (Exit.then K (fun _ _ _ => False)) { tmps := (ps.zip (encs x)).foldl (fun t (p, v) => t.setIfInBounds p v) a.tmps, defers := [] } W)
    (hbody : ∀ (s : σ) (x : Fin N) (a' : Act) (W : World), (List.range x.val).foldlM f s0 = some s → (∃ r, W.heap[l]? = some (.loop r)) → StAt D w (cells s) W → Ax x a' W →
      body.wpIn (F.inRound l) (nn - 1 - 1) Tryz.prog (XPost D cells id W (f s x.val)) a' W)
    (hdone : ∀ (s : σ) (W : World), (List.range N).foldlM f s0 = some s → StAt D w (cells s) W → G W → Q .normal a' W)
    (hstop : ∀ (W : World), (List.range N).foldlM f s0 = none → But D w W → G W → Q (.exit id) a' W) :
    CallsIn F (nn - 1) Tryz.prog gf (#[.func (.yield l) #[] #[]] ++ lb) W1 (rangePost F nn Tryz.prog l Q a') := by
  have put : ∀ (A : World) (o o' : Obj) (cs : List (Nat × Nat × Value)), A.heap[l]? = some o → o.isCells = false → StAt D w cs A → StAt D w cs (A.putObj l o') := fun A o o' cs ho hc h =>
    h.grown (grownBy_putObj' A l o') (fun r e => by cases e; exact ⟨hl, o, ho, hc⟩)
  have hlD : l ∉ D := fun h => by have := hD l h; omega
  have rl : ∀ st pe, (Obj.loop (rec st pe)).isCells = false := fun _ _ => rfl
  refine (hseq l (fun c W => ∃ s, (List.range c).foldlM f s0 = some s ∧ StAt D w (cells s) W ∧ G W ∧ W.heap[l]? = some (.loop (rec .ready none)))
    (fun W => (List.range N).foldlM f s0 = none ∧ But D w W ∧ G W ∧ W.heap[l]? = some (.loop (rec .done (some (.exit id))))) W1 hb ?_ ?_ ?_ ⟨s0, rfl, h0, hG1, hl1⟩).mono ?_
  · rintro c A B ⟨s, h1, h2, h3, h4⟩ x
    exact ⟨s, h1, h2.ext x, hGb _ _ h3 x.but, (x.bel.block l (Array.getElem?_eq_some_iff.1 h4).1).trans h4⟩
  · rintro A B ⟨h1, h2, h4, h5⟩ x
    exact ⟨h1, h2.ext x, hGb _ _ h4 x.but, (x.bel.block l (Array.getElem?_eq_some_iff.1 h5).1).trans h5⟩
  · rintro x W ⟨s, h1, h2, h3, h4⟩
    have hy := run_yield (P := Tryz.prog) (args := encs x) h4 (by rw [hrec]; exact hps x)
    rw [hrec] at hy
    refine ⟨fn, _, assign, body, hy, roundIn_of_wpIn hfn (hassign x W _ h2.but.size ?_)⟩
    clear hy
    intro a1 Wa xa hax
    have h4a := (xa.bel.block l (Array.getElem?_eq_some_iff.1 h4).1).trans h4
    refine ⟨_, run_beginRound h4a (by rw [hrec]), ?_⟩
    have h2b := put Wa _ (.loop { rec .ready none with state := .busy }) _ h4a (rl _ _) (h2.ext xa)
    have h4b : (Wa.putObj l (.loop { rec .ready none with state := .busy })).heap[l]? = some (.loop { rec .ready none with state := .busy }) := World.putObj_heap_same (Array.getElem?_eq_some_iff.1 h4a).1
    have hGb' := hGp _ (.loop { rec .ready none with state := .busy }) (hGb _ _ h3 xa.but)
    refine wpIn_mono (hbody s x a1 _ h1 ⟨_, h4b⟩ h2b ((hAx x a1).putObj (s := ()) _ hax hl h4a (rl _ _))) ?_
    have k1 : KpD D w.heap.size W (Wa.putObj l (.loop { rec .ready none with state := .busy })) := KpD.trans (fun _ _ _ _ _ h => xa.cell_some h) (KpD.put h4a (rl _ _))
    rintro e a3 W3 hp
    cases e with
    | normal =>
      obtain ⟨s', e1, e2, e3⟩ := hp
      have h4c := (e2.block l (Array.getElem?_eq_some_iff.1 h4b).1 hlD).trans h4b
      have hr := run_endRound (P := Tryz.prog) none h4c
      refine ⟨_, _, hr, k1.trans ((e2.kpD _).trans (KpD.put h4c rfl)), .inl ⟨rfl, s', by rw [foldM_succ h1, e1], ?_, hGp _ _ (hGb _ _ hGb' e2), ?_⟩⟩
      · exact put W3 _ _ _ h4c rfl ⟨h2b.but.trans e2, e3⟩
      · rw [World.putObj_heap_same (Array.getElem?_eq_some_iff.1 h4c).1, hrec]
        rfl
    | exit k =>
      obtain ⟨rfl, e1, e2⟩ := hp
      have h4c := (e2.block l (Array.getElem?_eq_some_iff.1 h4b).1 hlD).trans h4b
      have hr := run_endRound (P := Tryz.prog) (some (.exit k)) h4c
      refine ⟨_, _, hr, k1.trans ((e2.kpD _).trans (KpD.put h4c rfl)), .inr ⟨rfl, foldM_stop (c := x.val + 1) x.isLt (by rw [foldM_succ h1, e1]), ?_, hGp _ _ (hGb _ _ hGb' e2), ?_⟩⟩
      · exact (h2b.but.trans e2).grown (grownBy_putObj' _ l _) (fun r e => by cases e; exact .inr hl)
      · rw [World.putObj_heap_same (Array.getElem?_eq_some_iff.1 h4c).1, hrec]
        rfl
    | ret => exact hp.elim
    | goto t => exact hp.elim
    | panic ch => exact hp.elim
    | outgrown => exact hp.elim
  · rintro e W2 ⟨⟨v, rfl⟩, (⟨s, h1, h2, h3, h4⟩ | ⟨h1, h2, h4, h5⟩)⟩
    · exact ⟨none, _, by have := run_endLoop (P := Tryz.prog) h4 (by rw [hrec]; simp); rw [hrec] at this; exact this, hdone s _ h1 (put W2 _ _ _ h4 (rl _ _) h2) (hGp _ _ h3)⟩
    · exact ⟨some (.exit id), _, by have := run_endLoop (P := Tryz.prog) h5 (by rw [hrec]; simp); rw [hrec] at this; exact this,
        wpIn_exit (hstop _ h1 (h2.grown (grownBy_putObj' _ l _) (fun r e => by cases e; exact .inr hl)) (hGp _ _ h4))⟩

theorem wpIn_range_x (id : Nat) (cells : σ → List (Nat × Nat × Value)) (f : σ → Nat → Option σ) (s0 : σ) (D : List Nat) (hro : F.round = none) (h1 : 1 ≤ nn) {gf : Nat} {lb : Array Value} (hg : a.eval g = .func (.func gf) #[] lb) (hFg : F.fn gf) (eg : ∀ args w, (callFunc gf args).run Tryz.prog w = .ok (.enter gf args) w)
    {encs : Fin N → Array Value} (hseq : SeqSt F (nn - 1) Tryz.prog gf lb encs D w) (hps : ∀ x, (encs x).size = ps.size)
    (hD : ∀ d ∈ D, d < w.heap.size) (h0 : CellsAt (cells s0) w) (ga : Fin N → Act)
    (hassign : ∀ (l : Nat) (x : Fin N) (W : World) (K : Act → World → Prop), w.heap.size ≤ W.heap.size → (∀ a' W', Ext W W' → a' = ga x → K a' W') →
      assign.wpIn (F.inRound l) (nn - 1 - 1) Tryz.prog (Exit.then K (fun _ _ _ => False)) { tmps := (ps.zip (encs x)).foldl (fun t (p, v) => t.setIfInBounds p v) a.tmps, defers := [] } W)
    (hbody : ∀ (l : Nat) (s : σ) (x : Fin N) (W : World), w.heap.size ≤ l → (List.range x.val).foldlM f s0 = some s → (∃ r, W.heap[l]? = some (.loop r)) → StAt D w (cells s) W →
      body.wpIn (F.inRound l) (nn - 1 - 1) Tryz.prog (XPost D cells id W (f s x.val)) (ga x) W)
    (hdone : ∀ (M : Nat) (s : σ) (W : World), w.heap.size ≤ M → (List.range N).foldlM f s0 = some s → StAt D w (cells s) W → W.heap[M]? = some (.deferred (some [])) → Q .normal { a with defers := { target := .collected M, args := #[] } :: a.defers } W)
    (hstop : ∀ (M : Nat) (W : World), w.heap.size ≤ M → (List.range N).foldlM f s0 = none → But D w W → W.heap[M]? = some (.deferred (some [])) → Q (.exit id) { a with defers := { target := .collected M, args := #[] } :: a.defers } W) :
    (Code.rangeFunc g ps assign body).wpIn F nn Tryz.prog Q a w := by
  refine wpIn_rangeFunc ?_
  intro fn hfn
  rw [hro]
  obtain ⟨rec, hrec⟩ : ∃ rec : LoopState → Option Code → Loop, rec = fun st pe => { state := st, pending := pe, fn := fn, tmps := a.tmps, params := ps, assign := assign, body := body, defers := w.heap.size } := ⟨_, rfl⟩
  obtain ⟨W1, hW1⟩ : ∃ W1, (w.alloc (.deferred (some []))).alloc (.loop (rec .ready none)) = W1 := ⟨_, rfl⟩
  have hL1 : W1.heap[w.heap.size + 1]? = some (.loop (rec .ready none)) := by
    rw [← hW1]; have := World.alloc_heap_new (w.alloc (.deferred (some []))) (.loop (rec .ready none)); rwa [World.size_alloc] at this
  have hK1 : W1.heap[w.heap.size]? = some (.deferred (some [])) := by
    rw [← hW1]; exact (Below.heap_alloc _ _ _ (by simp)).trans (World.alloc_heap_new w _)
  have hx1 : Ext w W1 := by rw [← hW1]; exact ((Ext.refl w).alloc _).alloc _
  have hnd : w.heap.size ∉ D := fun h => by have := hD _ h; omega
  refine ⟨w.heap.size + 1, [{ target := .collected w.heap.size, args := #[] }], W1, { target := .fn (.func gf) lb, args := #[.func (.yield (w.heap.size + 1)) #[] #[]] }, W1, gf,
    #[.func (.yield (w.heap.size + 1)) #[] #[]] ++ lb, W1, ?_, ?_, ?_, ?_, fun _ => h1, ?_⟩
  · rw [← hW1, hrec]; exact run_enterLoop_outer _ _ _ _ _
  · simp only [resolve, hg]
    simp [go_sem]
  · intro f' hf'; simp [Target.leads] at hf'; subst hf'; exact hFg
  · simp [invoke, go_sem, eg]
  · exact range_coreX id (G := fun W => W.heap[w.heap.size]? = some (.deferred (some []))) hrec hfn hseq hps hD hx1.bel (Nat.le_succ _) hL1 ⟨hx1.but, h0.ext hx1⟩ hK1
      (fun A B hA hb => (hb.block _ (Array.getElem?_eq_some_iff.1 hA).1 hnd).trans hA) (fun A o' hA => (World.putObj_heap_other (by omega)).trans hA) (fun x a' _ => a' = ga x) (fun _ _ _ _ _ _ h _ _ => h) (hassign _)
      (fun s x a' W hf hr hs hax => by subst hax; exact hbody _ s x W (Nat.le_succ _) hf hr hs) (fun s W h2 h3 h4 => hdone _ s W (Nat.le_refl _) h2 h3 h4) (fun W h2 h3 h5 => hstop _ W (Nat.le_refl _) h2 h3 h5)
end
end Go.Proofs.YtkjgcmdabelohaaGreat

namespace Go.Proofs.YtkjgcmdabelohaaGreat
open Go.RowKit

section
variable {α : Type} {K : EK α}
theorem EK.app_at {w : World} {ops : Array Oper} {rest : List Oper} {o : Oper} {a : Act} {Q : Exit → Act → World → Prop} (hgd : o.guard = none) (s x : Operand)
    (ho : o.op = .call { callee := .builtin .append, args := #[s, x], argTypes := #[K.st, K.st] })
    {B : Nat} {v : Value} {xs : List α} (b c : Nat) (y : α) (hs : a.eval s = v) (hx : a.eval x = .slice (some ⟨b, 0, none⟩) 1 c)
    (hcell : ∀ i u, (K.enc y)[i]? = some u → w.cell? ⟨b, i, none⟩ = some u) (hown : K.Own B w v xs) (hB : B ≤ w.heap.size) (hlen : xs.length ≤ 1000000000)
    (h : ∀ v' w', K.Own B w' v' (xs ++ [y]) → w.grownBy w' v.ownBlock → (v'.ownBlock = v.ownBlock ∨ v'.ownBlock = some w.heap.size) → wpList Tryz.prog ops Q rest (a.put o.dst v') w') : wpList Tryz.prog ops Q (o :: rest) a w := by
  obtain ⟨i0, hi, hz0, hz1, hz2⟩ := info_parts K.info
  have hsm := K.small
  refine wpList_append_own_at w hgd s x K.st ho B K.ty i0 K.z K.k K.bytes K.und hi hz0 hz1 hz2 K.hzs K.pos v _ _ hs hown ⟨b, 0, none⟩ 1 c (K.enc y) hx (by rw [K.len, Nat.one_mul]) (fun j u hj => ?_) (K.one y) (by simp only [maxLen]; omega) (Nat.le_trans (Nat.mul_le_mul (show xs.length + 1 ≤ 1000000001 by omega) hsm) (by decide)) hB (fun v' w' h1 h2 _ h4 => h v' w' (by simpa [EK.Own] using h1) h2 h4)
  have := hcell j u hj
  simp only [Addr.add]
  split
  · rename_i h0; subst h0; exact this
  · simpa using this
theorem EK.app_in_at {F : Fence} {nn : Nat} {w : World} {ops : Array Oper} {rest : List Oper} {o : Oper} {a : Act} {Q : Exit → Act → World → Prop} (hgd : o.guard = none) (s x : Operand)
    (ho : o.op = .call { callee := .builtin .append, args := #[s, x], argTypes := #[K.st, K.st] })
    {B : Nat} {v : Value} {xs : List α} (b c : Nat) (y : α) (hs : a.eval s = v) (hx : a.eval x = .slice (some ⟨b, 0, none⟩) 1 c)
    (hcell : ∀ i u, (K.enc y)[i]? = some u → w.cell? ⟨b, i, none⟩ = some u) (hown : K.Own B w v xs) (hB : B ≤ w.heap.size) (hlen : xs.length ≤ 1000000000)
    (h : ∀ v' w', K.Own B w' v' (xs ++ [y]) → w.grownBy w' v.ownBlock → (v'.ownBlock = v.ownBlock ∨ v'.ownBlock = some w.heap.size) → wpListIn F nn Tryz.prog ops Q rest (a.put o.dst v') w') : wpListIn F nn Tryz.prog ops Q (o :: rest) a w := by
  obtain ⟨i0, hi, hz0, hz1, hz2⟩ := info_parts K.info
  have hsm := K.small
  refine wpListIn_plain hgd fun K2 hK' => ?_
  obtain ⟨v', w', hrun, r1, r2, _, r4⟩ := run_append_own_at (P := Tryz.prog) w B K.st o.type K.ty i0 K.z K.k K.bytes K.und hi hz0 hz1 hz2 K.hzs K.pos v _ _ hown ⟨b, 0, none⟩ 1 c (K.enc y) (by rw [K.len, Nat.one_mul]) (fun j u hj => by
    have := hcell j u hj
    simp only [Addr.add]
    split
    · rename_i h0; subst h0; exact this
    · simpa using this) (K.one y) (by simp only [maxLen]; omega) (Nat.le_trans (Nat.mul_le_mul (show xs.length + 1 ≤ 1000000001 by omega) hsm) (by decide)) hB
  unfold Oper.wpIn
  refine ⟨?_, ?_⟩
  · simp [Oper.about, ho, resolve, Target.leads, Sem.run_pure]
  · rw [Oper.semAt_plain F _ _ (by rw [ho]; intro c hc'; cases hc')]
    simp [execOp, ho, resolve, invoke, builtin, hs, hx, hrun, Result.andThen]
    exact hK' _ _ (h v' w' (by simpa [EK.Own] using r1) r2 r4)
/-- What such an append keeps. -/
theorem app_keep {w w' : World} {v v' : Value} (hg : w.grownBy w' v.ownBlock) (hat : v'.ownBlock = v.ownBlock ∨ v'.ownBlock = some w.heap.size) : But v.ownBlock.toList w w' ∧ Nxt w v.ownBlock v'.ownBlock :=
  ⟨(But.refl _ w).grown hg (fun r e => .inl (by rw [e]; simp)), by
    rcases hat with h | h
    · exact .inl h
    · exact .inr fun r e => by rw [h] at e; cases e; exact Nat.le_refl _⟩
end
end Go.Proofs.YtkjgcmdabelohaaGreat

namespace Go.Proofs.YtkjgcmdabelohaaGreat
section
open Go.Sort
theorem swp_size {α : Type} [Inhabited α] (d : Array α) (i j : Nat) : (swp d i j).size = d.size := by simp [swp]
theorem insInner_size {α : Type} [Inhabited α] (lt : α → α → Bool) (a : Nat) : ∀ (j : Nat) (d : Array α), (insInner lt a j d).size = d.size
  | 0, d => rfl
  | j + 1, d => by
    rw [insInner]
    split
    · rw [insInner_size lt a j, swp_size]
    · rfl
theorem insOuter_size {α : Type} [Inhabited α] (lt : α → α → Bool) (a b : Nat) : ∀ (k i : Nat) (d : Array α), b - i ≤ k → (insOuter lt a b i d).size = d.size
  | 0, i, d, h => by
    rw [insOuter, if_neg (by omega)]
  | k + 1, i, d, h => by
    rw [insOuter]
    split
    · rw [insOuter_size lt a b k (i + 1) _ (by omega), insInner_size]
    · rfl
theorem ins_size {α : Type} [Inhabited α] (lt : α → α → Bool) (d : Array α) (a b : Nat) : (insertionSort lt d a b).size = d.size := insOuter_size lt a b _ _ d (Nat.le_refl _)

theorem own_len {α : Type} (K : EK α) {B n c : Nat} {A : Option Addr} {w : World} {xs : List α} (ho : K.Own B w (.slice A n c) xs) : n = xs.length := by
  rcases ho.2 with ⟨e0, h0⟩ | ⟨g', cap', cur, e0, -⟩
  · cases e0; exact h0.symm
  · cases e0; rfl
section
variable {α : Type} [Inhabited α] (K : EK α)
theorem enc_flat (d : Array α) (t : Nat) (h : t < d.size * K.k) : (d.toList.flatMap K.enc)[t]? = some (flatK K.enc K.k d)[t]! := by
  rw [get_flatK K.enc K.k d t h]
  have hq : t / K.k < d.toList.length := by
    rw [Array.length_toList]
    exact Nat.div_lt_of_lt_mul (by rwa [Nat.mul_comm] at h)
  have e : t / K.k * K.k + t % K.k = t := Nat.div_add_mod' t K.k
  have hr : t % K.k < K.k := Nat.mod_lt _ K.pos
  have := flat_at K d.toList (t / K.k) hq (t % K.k) hr
  rw [e] at this
  rw [this]
  have hd : t / K.k < d.size := by simpa using hq
  rw [getElem!_pos d _ hd, Array.getElem_toList]
  have hl : t % K.k < (K.enc d[t / K.k]).length := by rw [K.len]; exact hr
  rw [List.getElem?_eq_getElem hl, getElem!_pos (K.enc d[t / K.k]) _ hl]
theorem own_holds {B g n c : Nat} {w : World} {xs : List α} (ho : K.Own B w (.slice (some ⟨g, 0, none⟩) n c) xs) : HoldsK K.enc K.k w g 0 xs.toArray := by
  obtain rfl := own_len K ho
  intro j hj
  rw [size_flatK] at hj
  refine ⟨?_, World.ownsRow.frozenAt ho _⟩
  have h1 := enc_flat K xs.toArray j hj
  simp only at h1
  have := World.ownsRow.cells ho (g := g) rfl j _ h1
  simp only [Addr.add] at this
  split at this
  · rename_i h0
    rw [h0] at this ⊢
    exact this
  · exact this
theorem own_sorted {B g n c : Nat} {w : World} {xs : List α} (ho : K.Own B w (.slice (some ⟨g, 0, none⟩) n c) xs) (d : Array α) (hd : d.size = xs.length) (q : Nat) (os : Array Obj) :
    K.Own B (sortWorldK K.enc K.k w g 0 q d os) (.slice (some ⟨g, 0, none⟩) n c) d.toList ∧ But [g] w (sortWorldK K.enc K.k w g 0 q d os) := by
  rcases ho.2 with ⟨e0, _⟩ | ⟨g', cap', cur, e0, hb, hg, hn, hm, hs, ht⟩
  · cases e0
  · injection e0 with e1 e2 e3
    injection e1 with e1
    injection e1 with e1
    subst e1 e2 e3
    have hgl : g < w.heap.size := (Array.getElem?_eq_some_iff.1 hg).1
    constructor
    · refine ⟨by rw [flat_len], .inr ⟨g, c, putCells id 0 (flatK K.enc K.k d) cur, by simp [hd], hb, ?_, by simpa [hd] using hn, hm, by simpa [putCells] using hs, ?_⟩⟩
      · have : (putRowK K.enc K.k (Sort.ahead w q) g 0 d).heap[g]? = some (.cells (putCells id 0 (flatK K.enc K.k d) cur) K.ty (0, 0)) := by
          simp [putRowK, putRow, mapBlock, Sort.ahead, Array.getElem?_modify, hg, onCells]
        show ((putRowK K.enc K.k (Sort.ahead w q) g 0 d).heap ++ os)[g]? = _
        rw [Array.getElem?_append_left (by simp [putRowK, putRow, mapBlock, Sort.ahead]; exact hgl)]
        exact this
      · have hl : d.toList.length = d.size := by simp
        have hcs : xs.length * K.k ≤ cur.size := by
          rw [hs]
          exact Nat.mul_le_mul_right K.k hn
        apply List.ext_getElem?
        intro j
        rw [List.getElem?_take, Array.getElem?_toList, hl]
        by_cases hj : j < d.size * K.k
        · rw [enc_flat K d j hj, if_pos hj]
          have hjc : j < cur.size := by rw [hd] at hj; omega
          simp only [putCells, Array.getElem?_mapIdx, Array.getElem?_eq_getElem hjc, Option.map_some]
          rw [if_pos (by simp; omega)]
          rfl
        · rw [if_neg hj, List.getElem?_eq_none (by rw [flat_len, hl]; exact Nat.le_of_not_lt hj)]
    · refine ⟨rfl, rfl, rfl, by simp [sortWorldK, putRowK, putRow, mapBlock, Sort.ahead], fun i hi hne => ?_⟩
      show ((putRowK K.enc K.k (Sort.ahead w q) g 0 d).heap ++ os)[i]? = _
      rw [Array.getElem?_append_left (by simp [putRowK, putRow, mapBlock, Sort.ahead]; exact hi)]
      have : g ≠ i := fun e => hne (by simp [e])
      simp [putRowK, putRow, mapBlock, Sort.ahead, Array.getElem?_modify, this]
end
end
open Go.RowKit Go.Sort

abbrev MvT := Int × Int × Bool × Bool
abbrev mvV (x : MvT) : Value := .agg #[.int .i64 x.1, .int .i64 x.2.1, .bool x.2.2.1, .bool x.2.2.2]
def cfM (x y : MvT) : Int := IntKind.i64.wrap (x.2.1 - y.2.1)
/-- The moves by their turns. -/
def sortM (xs : List MvT) : List MvT := (insertionSort (ltOf cfM) xs.toArray 0 xs.toArray.size).toList
theorem sortM_len (xs : List MvT) : (sortM xs).length = xs.length := by
  unfold sortM
  rw [Array.length_toList, ins_size]
  simp
theorem cmpM_gr (x y : MvT) (w : World) : Calls Tryz.prog 61 #[mvV x, mvV y] w fun e w' => e = .returned (.int .i64 (cfM x y)) ∧ GR w w' := by
  obtain ⟨z, hz⟩ : ∃ z, z = cfM x y := ⟨_, rfl⟩
  rw [← hz]
  have HZ := Lib.hid (show IntKind.i64.wrap (x.2.1 - y.2.1) = z from hz.symm)
  clear hz
  obtain ⟨a, b, c, d⟩ := x
  obtain ⟨a', b', c', d'⟩ := y
  simp only at HZ ⊢
  have hw : IntKind.i64.wrap (b - b') = z := HZ.out
  go_enter Tryz.func61, Tryz.ntmps61
  go_wp2_with fail
  go_ret
  exact ⟨rfl, ((GR.refl _).alloc _).alloc _⟩
abbrev cmpV : Value := .func (.func 61) #[] #[]
theorem insM_any (B g n c : Nat) (xs : List MvT) (w : World) (ho : moveK.Own B w (.slice (some ⟨g, 0, none⟩) n c) xs) (hn : xs.length = n) (hl : n ≤ 1000000) :
    Calls Tryz.prog 88 #[.slice (some ⟨g, 0, none⟩) n c, .int .i64 0, .int .i64 (n : Int), cmpV] w fun e w' => (∃ v, e = .returned v) ∧ moveK.Own B w' (.slice (some ⟨g, 0, none⟩) n c) (sortM xs) ∧ But [g] w w' := by
  have hgl : g < w.heap.size := (ho.lt g rfl).2
  have eg : ∀ args w, (callFunc 61 args).run Tryz.prog w = .ok (.enter 61 args) w := enters_of Tryz.func61 (by kernel_rfl) rfl
  have hsz : xs.toArray.size = n := by simpa using hn
  have hcmp : CmpLays Tryz.prog 61 #[] moveK.enc moveK.k cfM g 0 xs.toArray.size w := fun m os dk _ x y => (cmpM_gr x y _).mono fun e w' ⟨he, hg⟩ => ⟨he, hg⟩
  have hcon := AnyQ.insertionSortCmpFunc Tryz.moveL moveK.k Tryz.isAgg78 Tryz.sizeOf78 moveK.enc (fun _ => rfl) moveK.one cfM 61 #[] g 0 c 0 xs.toArray.size xs.toArray w eg hcmp (own_holds moveK ho) hgl (Nat.zero_le _) (Nat.le_refl _) (by rw [hsz]; omega)
  change Calls Tryz.prog 88 _ _ _ at hcon
  rw [hsz] at hcon
  refine hcon.mono fun e w' ⟨he, q, os, hw⟩ => ⟨⟨_, he⟩, ?_⟩
  rw [hw, ← hsz]
  have := own_sorted moveK ho (insertionSort (ltOf cfM) xs.toArray 0 xs.toArray.size) (by rw [ins_size]; simp) q os
  rw [← hsz] at this
  exact this
theorem insM_nil (c : Nat) (w : World) : Calls Tryz.prog 88 #[.slice none 0 c, .int .i64 0, .int .i64 ((0 : Nat) : Int), cmpV] w fun e w' => (∃ v, e = .returned v) ∧ Ext w w' := by
  go_enter Tryz.func88, Tryz.ntmps88
  go_wp2_with fail
  go_loopw [8] (fun iv W => iv = .int .i64 1 ∧ W = w) (fun _ _ => 0)
  case atStart => exact ⟨rfl, rfl⟩
  case round =>
    obtain ⟨rfl, rfl⟩ := hrel
    go_wp2_with fail
    go_end0
    exact ⟨⟨_, rfl⟩, Ext.refl _⟩
theorem insM_own (B n : Nat) (v : Value) (A : Option Addr) (c : Nat) (hv : v = .slice A n c) (xs : List MvT) (w : World) (ho : moveK.Own B w v xs) (hn : xs.length = n) (hl : n ≤ 1000000) :
    Calls Tryz.prog 88 #[v, .int .i64 0, .int .i64 (n : Int), cmpV] w fun e w' => (∃ u, e = .returned u) ∧ moveK.Own B w' v (sortM xs) ∧ But v.ownBlock.toList w w' := by
  subst hv
  rcases ho.2 with ⟨e0, h0⟩ | ⟨g', cap', cur, e0, -⟩
  · cases e0
    have hx : xs = [] := List.length_eq_zero_iff.1 (by simpa using h0)
    subst hx
    refine (insM_nil 0 w).mono fun e w' ⟨he, hx⟩ => ⟨he, by rw [show sortM [] = [] from List.length_eq_zero_iff.1 (sortM_len [])]; exact ho.ext hx, hx.but⟩
  · cases e0
    exact insM_any B _ _ _ xs w ho hn hl
set_option maxRecDepth 100000 in
theorem stableM_any (B n : Nat) (v : Value) (A : Option Addr) (c : Nat) (hv : v = .slice A n c) (xs : List MvT) (w : World) (ho : moveK.Own B w v xs) (hn : xs.length = n) (hl : n ≤ 19) :
    Calls Tryz.prog 79 #[v, .int .i64 (n : Int), cmpV] w fun e w' => (∃ u, e = .returned u) ∧ moveK.Own B w' v (sortM xs) ∧ But v.ownBlock.toList w w' := by
  subst hv
  have HI := Lib.hid (insM_own B n _ A c rfl xs w ho hn (by omega))
  obtain ⟨wo, rfl⟩ : ∃ z, z = w := ⟨_, rfl⟩
  have h20 : ¬ (20 : Int) ≤ (n : Int) := by omega
  have h21 : ¬ (20 : Int) < (n : Int) := by omega
  clear ho hn
  go_enter Tryz.func79, Tryz.ntmps79
  go_wp2_with fail
  go_loopw [7, 8] (fun av bv W => av = .int .i64 0 ∧ bv = .int .i64 20 ∧ W = wo) (fun _ _ _ => 0)
  case atStart => exact ⟨rfl, rfl, rfl⟩
  case round =>
    obtain ⟨rfl, rfl, rfl⟩ := hrel
    go_wp2_with fail
    refine HI.out.mono ?_
    rintro e W1 ⟨⟨u, rfl⟩, o1, b1⟩
    have HX := Lib.hid (And.intro o1 b1)
    clear o1 b1
    go_wp2_with fail
    go_loopw [6] (fun av W => av = .int .i64 20 ∧ W = W1) (fun _ _ => 0)
    case atStart => exact ⟨rfl, rfl⟩
    case round =>
      obtain ⟨rfl, rfl⟩ := hrel
      go_wp2_with fail
      go_end0
      exact ⟨⟨_, rfl⟩, HX.out⟩
theorem sortM_any (B n : Nat) (v : Value) (A : Option Addr) (c : Nat) (hv : v = .slice A n c) (xs : List MvT) (w : World) (ho : moveK.Own B w v xs) (hn : xs.length = n) (hl : n ≤ 19) :
    Calls Tryz.prog 60 #[v, cmpV] w fun e w' => (∃ u, e = .returned u) ∧ moveK.Own B w' v (sortM xs) ∧ But v.ownBlock.toList w w' := by
  have HI := Lib.hid (stableM_any B n v A c hv xs w ho hn hl)
  subst hv
  clear ho hn
  go_enter Tryz.func60, Tryz.ntmps60
  go_wp2_with fail
  refine HI.out.mono ?_
  rintro e W1 ⟨⟨u, rfl⟩, h1⟩
  have HX := Lib.hid h1
  clear h1
  go_wp2_with fail
  go_end0
  exact ⟨⟨_, rfl⟩, HX.out⟩
end Go.Proofs.YtkjgcmdabelohaaGreat

namespace Go.Proofs.YtkjgcmdabelohaaGreat
open Go.RowKit

def toJ (bk : Bool) (c j : Nat) : Int := if bk then (c : Int) - j else (c : Int) + j
def turnZ (p : PrT) (t : Nat) (mi bk : Bool) (c j : Nat) : Int := ((if mi then (offN p p true t : Int) + phaseZ p j else (offN p p false t : Int) - phaseZ p j) + phaseZ p (toJ bk c j)) % (t : Int)
def stepZ (p : PrT) (t : Nat) (mi bk : Bool) (c : Nat) (s : Int) (j : Nat) : Option Int := if j = 0 then some (turnZ p t mi bk c j) else if s = turnZ p t mi bk c j then some s else none
def kindO (p : PrT) (t N c : Nat) (mi bk : Bool) : Option MvT := if (offO p p mi).isSome then ((List.range N).foldlM (stepZ p t mi bk c) 0).map fun s => ((c : Int), s, mi, bk) else none
def kindM (k : Nat) : Bool := decide (2 ≤ k)
def kindB (k : Nat) : Bool := decide (k % 2 = 1)
/-- The moves that take c cuts, of the first m kinds. -/
def rowM (p : PrT) (t N c m : Nat) : List MvT := (List.range m).filterMap fun k => kindO p t N c (kindM k) (kindB k)
def symTo (p : PrT) (t N m : Nat) : List MvT := (List.range m).flatMap fun c => sortM (rowM p t N c 4)
/-- The symmetries. -/
def symL (p : PrT) (t : Nat) : List MvT := symTo p t (closN p t) (closN p t)
theorem rowM_some {p : PrT} {t N c k : Nat} {x : MvT} (h : kindO p t N c (kindM k) (kindB k) = some x) : rowM p t N c (k + 1) = rowM p t N c k ++ [x] := by
  unfold rowM
  rw [List.range_succ, List.filterMap_append]
  simp [h]
theorem rowM_none {p : PrT} {t N c k : Nat} (h : kindO p t N c (kindM k) (kindB k) = none) : rowM p t N c (k + 1) = rowM p t N c k := by
  unfold rowM
  rw [List.range_succ, List.filterMap_append]
  simp [h]
theorem rowM_len (p : PrT) (t N c m : Nat) : (rowM p t N c m).length ≤ m := by
  unfold rowM
  have := List.length_filterMap_le (fun k => kindO p t N c (kindM k) (kindB k)) (List.range m)
  rwa [List.length_range] at this
theorem symTo_succ (p : PrT) (t N m : Nat) : symTo p t N (m + 1) = symTo p t N m ++ sortM (rowM p t N m 4) := by
  unfold symTo
  rw [List.range_succ, List.flatMap_append]
  simp
theorem symTo_len (p : PrT) (t N : Nat) : ∀ m, (symTo p t N m).length ≤ 4 * m
  | 0 => by simp [symTo]
  | m + 1 => by
    rw [symTo_succ, List.length_append, sortM_len]
    have := symTo_len p t N m
    have := rowM_len p t N m 4
    omega
/-- Programs with the same lift, throw and shifts have the same symmetries. -/
theorem symL_congr {p q : PrT} (t : Nat) (hl : p.ros.length = q.ros.length) (hL : liftL p.ros p.rub = liftL q.ros q.rub) (ht : p.throw = q.throw) (hs : p.sh = q.sh) : symL p t = symL q t := by
  have e1 : ∀ mi, shF p mi = shF q mi := fun mi => by unfold shF; rw [hL, ht]
  have e2 : ∀ mi, offO p p mi = offO q q mi := fun mi => by unfold offO; rw [hl, e1, e1]
  have e3 : ∀ mi, offN p p mi t = offN q q mi t := fun mi => by unfold offN; rw [e2]
  have e4 : ∀ j, phaseZ p j = phaseZ q j := fun j => by rw [phaseZ_PH, phaseZ_PH, hs, hl]
  have e5 : closN p t = closN q t := by unfold closN turnN; rw [hs, e4]
  have e6 : ∀ mi bk c j, turnZ p t mi bk c j = turnZ q t mi bk c j := fun mi bk c j => by unfold turnZ; rw [e3, e3, e4, e4]
  have e7 : ∀ mi bk c, stepZ p t mi bk c = stepZ q t mi bk c := fun mi bk c => by
    funext s j
    unfold stepZ
    rw [e6]
  have e8 : ∀ N c mi bk, kindO p t N c mi bk = kindO q t N c mi bk := fun N c mi bk => by unfold kindO; rw [e2, e7]
  have e9 : ∀ N c m, rowM p t N c m = rowM q t N c m := fun N c m => by
    unfold rowM
    congr 1
    funext k
    rw [e8]
  unfold symL symTo
  rw [e5]
  congr 1
  funext c
  rw [e9]

/-- The cells of a move's box. -/
def mvS (b : Nat) (c s : Int) (mi bk : Bool) : List (Nat × Nat × Value) := [(b, 0, .int .i64 c), (b, 1, .int .i64 s), (b, 2, .bool mi), (b, 3, .bool bk)]
theorem mvS_of {b : Nat} {c s : Int} {mi bk : Bool} {W : World} (h : BoxAt b #[.int .i64 c, .int .i64 s, .bool mi, .bool bk] 78 W) : CellsAt (mvS b c s mi bk) W := by
  intro t ht
  simp only [mvS, List.mem_cons, List.not_mem_nil, or_false] at ht
  rcases ht with rfl | rfl | rfl | rfl
  · exact ⟨h.cell (i := 0) rfl, frozen_of_row W b 0 _ _ h⟩
  · exact ⟨h.cell (i := 1) rfl, frozen_of_row W b 1 _ _ h⟩
  · exact ⟨h.cell (i := 2) rfl, frozen_of_row W b 2 _ _ h⟩
  · exact ⟨h.cell (i := 3) rfl, frozen_of_row W b 3 _ _ h⟩
theorem mvS_at {b : Nat} {c s : Int} {mi bk : Bool} {W : World} (h : CellsAt (mvS b c s mi bk) W) :
    (W.cell? ⟨b, 0, none⟩ = some (.int .i64 c) ∧ W.cell? ⟨b, 1, none⟩ = some (.int .i64 s) ∧ W.cell? ⟨b, 2, none⟩ = some (.bool mi) ∧ W.cell? ⟨b, 3, none⟩ = some (.bool bk)) ∧
    W.frozen? ⟨b, 0, none⟩ = false ∧ W.frozen? ⟨b, 1, none⟩ = false ∧ W.frozen? ⟨b, 2, none⟩ = false ∧ W.frozen? ⟨b, 3, none⟩ = false := by
  obtain ⟨a0, f0⟩ := h (b, 0, .int .i64 c) (by simp [mvS])
  obtain ⟨a1, f1⟩ := h (b, 1, .int .i64 s) (by simp [mvS])
  obtain ⟨a2, f2⟩ := h (b, 2, .bool mi) (by simp [mvS])
  obtain ⟨a3, f3⟩ := h (b, 3, .bool bk) (by simp [mvS])
  exact ⟨⟨a0, a1, a2, a3⟩, f0, f1, f2, f3⟩
theorem mvS_put {b : Nat} {c s y : Int} {mi bk : Bool} {W : World} (h : CellsAt (mvS b c s mi bk) W) :
    CellsAt (mvS b c y mi bk) ((((W.setCell ⟨b, 0, none⟩ (.int .i64 c)).setCell ⟨b, 1, none⟩ (.int .i64 y)).setCell ⟨b, 2, none⟩ (.bool mi)).setCell ⟨b, 3, none⟩ (.bool bk)) := by
  obtain ⟨⟨a0, a1, a2, a3⟩, f0, f1, f2, f3⟩ := mvS_at h
  intro t ht
  simp only [mvS, List.mem_cons, List.not_mem_nil, or_false] at ht
  rcases ht with rfl | rfl | rfl | rfl
  · exact ⟨(cell_set_other (.inr (by simp))).trans ((cell_set_other (.inr (by simp))).trans ((cell_set_other (.inr (by simp))).trans (cell_set_same a0))), by simp [f0]⟩
  · exact ⟨(cell_set_other (.inr (by simp))).trans ((cell_set_other (.inr (by simp))).trans (cell_set_same ((cell_set_other (.inr (by simp))).trans a1))), by simp [f1]⟩
  · exact ⟨(cell_set_other (.inr (by simp))).trans (cell_set_same ((cell_set_other (.inr (by simp))).trans ((cell_set_other (.inr (by simp))).trans a2))), by simp [f2]⟩
  · exact ⟨cell_set_same ((cell_set_other (.inr (by simp))).trans ((cell_set_other (.inr (by simp))).trans ((cell_set_other (.inr (by simp))).trans a3))), by simp [f3]⟩

/-- Marks that lie in the world. -/
structure Mks (B : Nat) (Ds : List Nat) (W : World) : Prop where
  nd : Ds.Nodup
  mks : ∀ D ∈ Ds, B ≤ D ∧ W.heap[D]? = some (.deferred (some []))
theorem Mks.nil (B : Nat) (W : World) : Mks B [] W := ⟨List.nodup_nil, fun D hD => by cases hD⟩
theorem Mks.ext {B : Nat} {Ds : List Nat} {W W' : World} (h : Mks B Ds W) (x : Ext W W') : Mks B Ds W' :=
  ⟨h.nd, fun D hD => ⟨(h.mks D hD).1, (x.bel.block D (Array.getElem?_eq_some_iff.1 (h.mks D hD).2).1).trans (h.mks D hD).2⟩⟩
theorem Mks.turn {B : Nat} {Ds E : List Nat} {W W' : World} (h : Mks B Ds W) (k : But E W W') (hE : ∀ e ∈ E, ∃ o : Obj, W.heap[e]? = some o ∧ o.isCells = true) : Mks B Ds W' :=
  ⟨h.nd, fun D hD => by
    obtain ⟨h1, h2⟩ := h.mks D hD
    refine ⟨h1, (k.block D (Array.getElem?_eq_some_iff.1 h2).1 (fun hm => ?_)).trans h2⟩
    obtain ⟨o, h3, h4⟩ := hE D hm
    rw [h2] at h3
    obtain rfl := Option.some.inj h3
    cases h4⟩
theorem Mks.mark {B M : Nat} {Ds : List Nat} {W0 W : World} (h0 : Mks B Ds W0) (h : Mks B Ds W) (hB : B ≤ M) (hM : W0.heap.size ≤ M) (hm : W.heap[M]? = some (.deferred (some []))) : Mks B (M :: Ds) W :=
  ⟨List.nodup_cons.2 ⟨fun hD => by have := (Array.getElem?_eq_some_iff.1 (h0.mks M hD).2).1; omega, h.nd⟩, fun D hD => by
    rcases List.mem_cons.1 hD with rfl | hD
    · exact ⟨hB, hm⟩
    · exact h.mks D hD⟩
theorem box_cells {b : Nat} {cs : Array Value} {T : TypeId} {W : World} (h : BoxAt b cs T W) : ∃ o : Obj, W.heap[b]? = some o ∧ o.isCells = true := ⟨_, h, rfl⟩
theorem EK.Own.butN {α : Type} {K : EK α} {B : Nat} {D : List Nat} {w w' : World} {v : Value} {xs : List α} (h : K.Own B w v xs) (k : But D w w') (hd : ∀ g, v.ownBlock = some g → g ∉ D) : K.Own B w' v xs := by
  refine ⟨h.1, ?_⟩
  rcases h.2 with hn | ⟨g, cap, cur, hv, hb, hg, rest⟩
  · exact .inl hn
  · exact .inr ⟨g, cap, cur, hv, hb, (k.block g (Array.getElem?_eq_some_iff.1 hg).1 (hd g (by rw [hv]; rfl))).trans hg, rest⟩
theorem own_blockN {α : Type} {K : EK α} {B : Nat} {w : World} {v : Value} {xs : List α} (h : K.Own B w v xs) {e : Nat} (he : e ∈ v.ownBlock.toList) : B ≤ e ∧ ∃ o : Obj, w.heap[e]? = some o ∧ o.isCells = true := by
  rcases h.2 with ⟨rfl, _⟩ | ⟨g, cap, cur, rfl, hb, hg, _⟩
  · simp [Value.ownBlock] at he
  · simp only [Value.ownBlock, Option.toList_some, List.mem_singleton] at he
    subst he
    exact ⟨hb, _, hg, rfl⟩
/-- What is old but for lb lies on. -/
theorem but_old {lb : Nat} {E : List Nat} {A B C : World} (h : But [lb] A B) (k : But (lb :: E) B C) (hE : ∀ e ∈ E, A.heap.size ≤ e) : But [lb] A C :=
  ⟨k.os.trans h.os, k.tape.trans h.tape, k.output.trans h.output, Nat.le_trans h.size k.size, fun i hi hd => (k.block i (Nat.lt_of_lt_of_le hi h.size) (fun e => by
    rcases List.mem_cons.1 e with e | e
    · exact hd (by simp [e])
    · have := hE i e; omega)).trans (h.block i hi hd)⟩

abbrev symFn (lb : Nat) : Value := .func (.func 34) #[] #[.pointer (some ⟨lb, 0, none⟩)]
set_option maxHeartbeats 1000000 in
/-- The closure grows the list. -/
theorem sym1_any (lb B : Nat) (u : Value) (xs : List MvT) (x : MvT) (w : World) (hlb : BoxAt lb #[u] 38 w) (ho : moveK.Own B w u xs) (hB : lb < B) (hB2 : B ≤ w.heap.size) (hl : xs.length ≤ 1000000) :
    Calls Tryz.prog 34 #[mvV x, .pointer (some ⟨lb, 0, none⟩)] w fun e w' => e = .returned (.bool true) ∧ ∃ u', BoxAt lb #[u'] 38 w' ∧ moveK.Own B w' u' (xs ++ [x]) ∧ But (lb :: u.ownBlock.toList) w w' ∧ Nxt w u.ownBlock u'.ownBlock := by
  obtain ⟨Au, n, cu, rfl⟩ := ho.shape
  have c0 := hlb.cell (i := 0) rfl
  have lc := cell_lt c0
  have HL := Lib.hid hlb
  have HO := Lib.hid ho
  have HLL := Lib.hid hl
  obtain ⟨xa, xb, xc, xd⟩ := x
  clear hlb ho hl
  go_enter Tryz.func34, Tryz.ntmps34
  go_wp2_with (at_builtin; refine EK.app_at (K := moveK) (B := B) (xs := xs) rfl (.tmp 4) (.tmp 6) rfl (w.heap.size + 1) 1 (xa, xb, xc, xd) rfl rfl (fun i u hu => cell_new1 hu) ((HO.out.ext ((Ext.refl _).alloc _)).ext ((Ext.refl _).alloc _)) (by simp; omega) (by have := HLL.out; omega) ?_; intro v' W7 o7 g7 t7; obtain ⟨A7, n7, c7, rfl⟩ := o7.shape; have k7 := app_keep g7 t7; have HK7 := Lib.hid k7; have HO7 := Lib.hid o7; have hb7 := (HL.out.ext (((Ext.refl _).alloc _).alloc _)).but k7.1 (fun e => by have := (own_blockN HO.out e).1; omega); have HB7 := Lib.hid hb7; have d7 := hb7.cell (i := 0) rfl; have f7 := frozen_of_row _ _ 0 _ _ hb7; have l7 := cell_lt d7; clear k7 o7 g7 t7 hb7)
  go_ret
  have hn : ∀ e, e ∈ (Value.slice Au n cu).ownBlock.toList → lb ≠ e := fun e he => by have := (own_blockN HO.out he).1; omega
  refine ⟨rfl, _, HB7.out.setCell 0 _, ?_, ?_, ?_⟩
  · refine HO7.out.kept (grown_set _ _ _ _) ?_
    cases hv : (Value.slice A7 n7 c7).ownBlock with
    | none => exact .inl rfl
    | some r => exact .inr fun e => by have := (HO7.out.lt r hv).1; cases e; omega
  · refine But.setCell (p := ⟨lb, 0, none⟩) ?_ (by simp) _
    refine ((((Ext.refl w).alloc _).alloc _).but (D := _)).trans (but_mono HK7.out.1 (fun d hd => List.mem_cons_of_mem _ hd))
  · refine Nxt.trans (Nxt.refl _ _) ?_ HK7.out.2
    simp
    omega
end Go.Proofs.YtkjgcmdabelohaaGreat
