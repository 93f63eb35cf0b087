/- Elements of a slice of the call's own are read and stored in place. No condition. -/
import Derived.Test.YtkjgcmdabelohaaElem
import Derived.Test.YtkjgcmdabelohaaDraw
import Derived.Test.YtkjgcmdabelohaaQS
namespace Go.Proofs.Ytkjgcmdabelohaa
open Go.RowKit

section
variable {α β : Type} {K : EK α} {K' : EK β}

/-- Two slices of own blocks with other elements do not share their block. -/
theorem own_ne {B B' : Nat} {w : World} {v v' : Value} {xs : List α} {ys : List β} (h : K.Own B w v xs) (h' : K'.Own B' w v' ys) (hne : K.ty ≠ K'.ty) : v.ownBlock = none ∨ v.ownBlock ≠ v'.ownBlock := by
  rcases h.2 with ⟨rfl, _⟩ | ⟨g, cap, cur, rfl, _, hg, _⟩
  · exact .inl rfl
  · rcases h'.2 with ⟨rfl, _⟩ | ⟨g', cap', cur', rfl, _, hg', _⟩
    · exact .inr (by simp [Value.ownBlock])
    · refine .inr fun e => ?_
      simp only [Value.ownBlock, Option.some.injEq] at e
      subst e
      rw [hg] at hg'
      simp only [Option.some.injEq, Obj.cells.injEq] at hg'
      exact hne hg'.2.1

theorem len_two {γ : Type} {l : List γ} (h : l.length = 2) : ∃ a b, l = [a, b] := by
  match l, h with
  | [a, b], _ => exact ⟨a, b, rfl⟩
theorem flat_set1 (hk : K.k = 1) (y : α) (u : Value) (hu : K.enc y = [u]) : ∀ (xs : List α) (j : Nat), j < xs.length → (xs.set j y).flatMap K.enc = (xs.flatMap K.enc).set j u
  | x :: xs, 0, _ => by
    obtain ⟨a, ha⟩ := List.length_eq_one_iff.1 ((K.len x).trans hk)
    simp [hu, ha]
  | x :: xs, j + 1, h => by
    obtain ⟨a, ha⟩ := List.length_eq_one_iff.1 ((K.len x).trans hk)
    have := flat_set1 hk y u hu xs j (by simpa using h)
    simp [ha, this]
theorem flat_set2 (hk : K.k = 2) (y : α) (u0 u1 : Value) (hu : K.enc y = [u0, u1]) : ∀ (xs : List α) (j : Nat), j < xs.length → (xs.set j y).flatMap K.enc = ((xs.flatMap K.enc).set (j * 2) u0).set (j * 2 + 1) u1
  | x :: xs, 0, _ => by
    obtain ⟨a, b, ha⟩ := len_two ((K.len x).trans hk)
    simp [hu, ha]
  | x :: xs, j + 1, h => by
    obtain ⟨a, b, ha⟩ := len_two ((K.len x).trans hk)
    have := flat_set2 hk y u0 u1 hu xs j (by simpa using h)
    rw [show (j + 1) * 2 = j * 2 + 1 + 1 by omega]
    simp [ha, this]

/-- The slot of an element. -/
theorem EK.Own.slot {B : Nat} {w : World} {v : Value} {xs : List α} (h : K.Own B w v xs) {j : Nat} (hj : j < xs.length) :
    ∃ g c, v = .slice (some ⟨g, 0, none⟩) xs.length c ∧ B ≤ g ∧ g < w.heap.size ∧ (∀ i u, (K.enc xs[j])[i]? = some u → w.cell? ⟨g, j * K.k + i, none⟩ = some u) ∧ ∀ o, w.frozen? ⟨g, o, none⟩ = false := by
  have h' := h
  rcases h'.2 with ⟨rfl, h0⟩ | ⟨g, cap, cur, rfl, hb, hg, hn, hm, hs, ht⟩
  · omega
  · refine ⟨g, cap, rfl, hb, (Array.getElem?_eq_some_iff.1 hg).1, fun i u hu => ?_, World.ownsRow.frozenAt h⟩
    have hi : i < K.k := by rw [← K.len xs[j]]; exact (List.getElem?_eq_some_iff.1 hu).1
    have := World.ownsRow.cells h (g := g) rfl (j * K.k + i) u (by rw [flat_at K xs j hj i hi]; exact hu)
    simp only [Addr.add] at this
    split at this
    · rename_i h0
      rw [h0]
      exact this
    · simpa using this
theorem EK.Own.put1 {B : Nat} {w : World} {g c : Nat} {xs : List α} (h : K.Own B w (.slice (some ⟨g, 0, none⟩) xs.length c) xs) {j : Nat} (hj : j < xs.length) (hk : K.k = 1) (y : α) (u : Value) (hu : K.enc y = [u]) :
    K.Own B (w.setCell ⟨g, j, none⟩ u) (.slice (some ⟨g, 0, none⟩) xs.length c) (xs.set j y) := by
  have := (World.ownsRow.stored h j u).1
  rw [← flat_set1 hk y u hu xs j hj] at this
  simpa [EK.Own] using this
theorem EK.Own.put2 {B : Nat} {w : World} {g c : Nat} {xs : List α} (h : K.Own B w (.slice (some ⟨g, 0, none⟩) xs.length c) xs) {j : Nat} (hj : j < xs.length) (hk : K.k = 2) (y : α) (u0 u1 : Value) (hu : K.enc y = [u0, u1]) :
    K.Own B ((w.setCell ⟨g, j * 2, none⟩ u0).setCell ⟨g, j * 2 + 1, none⟩ u1) (.slice (some ⟨g, 0, none⟩) xs.length c) (xs.set j y) := by
  have := (World.ownsRow.stored (World.ownsRow.stored h (j * 2) u0).1 (j * 2 + 1) u1).1
  rw [← flat_set2 hk y u0 u1 hu xs j hj] at this
  simpa [EK.Own] using this
theorem EK.Own.put1N {B : Nat} {w : World} {g c N : Nat} {xs : List α} (h : K.Own B w (.slice (some ⟨g, 0, none⟩) N c) xs) (hl : xs.length = N) {j : Nat} (hj : j < N) (hk : K.k = 1) (y : α) (u : Value) (hu : K.enc y = [u]) :
    K.Own B (w.setCell ⟨g, j, none⟩ u) (.slice (some ⟨g, 0, none⟩) N c) (xs.set j y) := by
  subst hl
  exact h.put1 hj hk y u hu
theorem EK.Own.put2N {B : Nat} {w : World} {g c N : Nat} {xs : List α} (h : K.Own B w (.slice (some ⟨g, 0, none⟩) N c) xs) (hl : xs.length = N) {j : Nat} (hj : j < N) (hk : K.k = 2) (y : α) (u0 u1 : Value) (hu : K.enc y = [u0, u1]) :
    K.Own B ((w.setCell ⟨g, j * 2, none⟩ u0).setCell ⟨g, j * 2 + 1, none⟩ u1) (.slice (some ⟨g, 0, none⟩) N c) (xs.set j y) := by
  subst hl
  exact h.put2 hj hk y u0 u1 hu
theorem grown_set (W : World) (g o : Nat) (u : Value) : W.grownBy (W.setCell ⟨g, o, none⟩ u) (some g) :=
  ⟨rfl, rfl, rfl, by simp, fun i _ hi => heap_setCell_other W ⟨g, o, none⟩ i _ (fun e => hi (by simp [e]))⟩
/-- A slice in another block stays. -/
theorem EK.Own.oth {B : Nat} {w : World} {v : Value} {xs : List α} (h : K.Own B w v xs) {g o : Nat} {u : Value} (hne : v.ownBlock = none ∨ v.ownBlock ≠ some g) : K.Own B (w.setCell ⟨g, o, none⟩ u) v xs := h.kept (grown_set w g o u) hne
end
theorem Acc.after {α : Type} {K : EK α} {W0 W W1 W2 : World} {Bx off : Nat} {ans : List α} {sv : Value} (hA : Acc K W0 Bx off ans W) (hc : W.cell? ⟨Bx, off, none⟩ = some sv) (ho : K.Own W0.heap.size W sv ans) (x : Ext W W1) (g : W1.grownBy W2 sv.ownBlock) :
    W2.cell? ⟨Bx, off, none⟩ = some sv ∧ W2.frozen? ⟨Bx, off, none⟩ = false ∧ Bx < W2.heap.size := by
  have e2 := x.cell_some hc
  have hne : ∀ r, sv.ownBlock = some r → Bx ≠ r := fun r e => by have h1 := (ho.lt r e).1; have h2 := hA.lt; omega
  have e3 := g.cell e2 (fun e => hne _ e.symm rfl)
  refine ⟨e3, ?_, cell_lt e3⟩
  rw [← x.frozen hc hA.fr]
  exact World.frozen?_of_block (g.block Bx (cell_lt e2) (fun e => hne _ e.symm rfl))
/-- A block that was made second. -/
theorem cell_new1 {w : World} {o : Obj} {cs : Array Value} {T : TypeId} {i : Nat} {u : Value} (h : cs.toList[i]? = some u) : ((w.alloc o).alloc (.cells cs T)).cell? ⟨w.heap.size + 1, i, none⟩ = some u := by
  have := cell_new (w := w.alloc o) (T := T) h
  simpa using this
/-- Blocks that are not the slice's own. -/
theorem Acc.notin {α : Type} {K : EK α} {W0 W : World} {ans : List α} {sv : Value} (ho : K.Own W0.heap.size W sv ans) {b : Nat} (hb : b < W0.heap.size ∨ W.heap.size ≤ b) : b ∉ sv.ownBlock.toList :=
  notin_own (fun g hg => by have := ho.lt g hg; omega)
end Go.Proofs.Ytkjgcmdabelohaa
