/- A twin whose cuts are changed in place. No condition. -/
import Derived.Test.YtgeapenglcohfaaQS
import Derived.Test.YtgeapenglcohfaaQTail
import Derived.Test.YtgeapenglcohfaaQDag
import Derived.Maps.AppendAt
import Derived.Test.YtgeapenglcohfaaDraw
import Derived.Test.YtgeapenglcohfaaElem
import Derived.Test.YtgeapenglcohfaaESlot
import Derived.Test.YtgeapenglcohfaaGAppD
import Derived.Test.YtgeapenglcohfaaGChk
import Derived.Deep.Cut
namespace Go.Proofs.Ytgeapenglcohfaa
section
/- GWkA: Works that lie in a block; what is answered. No condition. -/
open Go.RowKit
/-- A slice and an error are answered. -/
def RetEW {α : Type} (K : EK α) (w : World) (zs : List α) (er : Int) (e : Ending) (w' : World) : Prop := ∃ v, e = .returned (.tuple #[v, .int .i64 er]) ∧ K.Own w.heap.size w' v zs ∧ Ext w w'
theorem retEW_mk {α : Type} {K : EK α} {w W : World} {zs zs' : List α} {v : Value} {er er' : Int} (ho : K.Own w.heap.size W v zs) (hz : zs' = zs) (he : er' = er) (x : Ext w W) : RetEW K w zs' er' (.returned (.tuple #[v, .int .i64 er])) W := by
  subst hz he
  exact ⟨v, rfl, ho, x⟩
theorem own_shapeW {α : Type} {K : EK α} {B : Nat} {w : World} {v : Value} {xs : List α} (h : K.Own B w v xs) : ∃ A k c, v = .slice A k c := by
  rcases h.2 with ⟨rfl, _⟩ | ⟨g, cap, cur, rfl, _⟩ <;> exact ⟨_, _, _, rfl⟩

abbrev RowT := Option Addr × Nat × Nat
/-- A work that lies in a block. -/
def WkAt (k : WkT) (sv : Value) (b : Nat) (W : World) : Prop := W.cell? ⟨b, 0, none⟩ = some (.int .i64 k.tip) ∧ W.cell? ⟨b, 1, none⟩ = some (.int .i64 k.num) ∧ W.cell? ⟨b, 2, none⟩ = some (.int .i64 k.den) ∧ W.cell? ⟨b, 3, none⟩ = some (.int .i64 k.bite) ∧ W.cell? ⟨b, 4, none⟩ = some (.int .i64 k.slack) ∧ W.cell? ⟨b, 5, none⟩ = some (.int .i64 k.wall) ∧ W.cell? ⟨b, 6, none⟩ = some (.int .i64 k.deepest) ∧ W.cell? ⟨b, 7, none⟩ = some (.int .i64 k.play) ∧ W.cell? ⟨b, 8, none⟩ = some (.int .i64 k.fx) ∧ W.cell? ⟨b, 9, none⟩ = some (.int .i64 k.fy) ∧ W.cell? ⟨b, 10, none⟩ = some (.int .i64 k.fh) ∧ W.cell? ⟨b, 11, none⟩ = some (.int .i64 k.fd) ∧ W.cell? ⟨b, 12, none⟩ = some sv
theorem WkAt.ext {k : WkT} {sv : Value} {b : Nat} {W W' : World} (h : WkAt k sv b W) (x : Ext W W') : WkAt k sv b W' := by
  obtain ⟨h0, h1, h2, h3, h4, h5, h6, h7, h8, h9, h10, h11, h12⟩ := h
  exact ⟨x.cell_some h0, x.cell_some h1, x.cell_some h2, x.cell_some h3, x.cell_some h4, x.cell_some h5, x.cell_some h6, x.cell_some h7, x.cell_some h8, x.cell_some h9, x.cell_some h10, x.cell_some h11, x.cell_some h12⟩
theorem WkAt.new (k : WkT) (sv : Value) (w : World) : WkAt k sv w.heap.size (w.alloc (.cells #[.int .i64 k.tip, .int .i64 k.num, .int .i64 k.den, .int .i64 k.bite, .int .i64 k.slack, .int .i64 k.wall, .int .i64 k.deepest, .int .i64 k.play, .int .i64 k.fx, .int .i64 k.fy, .int .i64 k.fh, .int .i64 k.fd, sv] 59)) :=
  ⟨cell_new rfl, cell_new rfl, cell_new rfl, cell_new rfl, cell_new rfl, cell_new rfl, cell_new rfl, cell_new rfl, cell_new rfl, cell_new rfl, cell_new rfl, cell_new rfl, cell_new rfl⟩
theorem WkAt.box {k : WkT} {sv : Value} {b : Nat} {W : World} (h : BoxAt b #[.int .i64 k.tip, .int .i64 k.num, .int .i64 k.den, .int .i64 k.bite, .int .i64 k.slack, .int .i64 k.wall, .int .i64 k.deepest, .int .i64 k.play, .int .i64 k.fx, .int .i64 k.fy, .int .i64 k.fh, .int .i64 k.fd, sv] 59 W) : WkAt k sv b W := ⟨h.cell rfl, h.cell rfl, h.cell rfl, h.cell rfl, h.cell rfl, h.cell rfl, h.cell rfl, h.cell rfl, h.cell rfl, h.cell rfl, h.cell rfl, h.cell rfl, h.cell rfl⟩
theorem WkAt.lt {k : WkT} {sv : Value} {b : Nat} {W : World} (h : WkAt k sv b W) : b < W.heap.size := cell_lt h.1
end
section
/- GTwinA: A twin of a work: its cuts lie in blocks of its own. No condition. -/
open Go.RowKit

section
variable {α : Type} {K : EK α}
theorem flat_put : ∀ (xs : List α) (j i : Nat) (y : α) (u : Value) (h : j < xs.length) (_ : i < K.k) (_ : K.enc y = (K.enc xs[j]).set i u), (xs.set j y).flatMap K.enc = (xs.flatMap K.enc).set (j * K.k + i) u
  | x :: xs, 0, i, y, u, _, hi, hy => by
    have hl : i < (K.enc x).length := by rw [K.len]; exact hi
    simp only [List.set_cons_zero, List.flatMap_cons, Nat.zero_mul, Nat.zero_add]
    rw [List.set_append_left _ _ hl]
    simp only [List.getElem_cons_zero] at hy
    rw [hy]
  | x :: xs, j + 1, i, y, u, h, hi, hy => by
    have ih := flat_put xs j i y u (by simpa using h) hi (by simpa using hy)
    simp only [List.set_cons_succ, List.flatMap_cons]
    rw [ih, List.set_append_right _ _ (by rw [K.len, Nat.succ_mul]; omega)]
    congr 2
    rw [K.len, Nat.succ_mul]
    omega
theorem EK.Own.putI {B : Nat} {w : World} {g c N : Nat} {xs : List α} (h : K.Own B w (.slice (some ⟨g, 0, none⟩) N c) xs) (hl : xs.length = N) {j i : Nat} (hj : j < xs.length) (hi : i < K.k) (y : α) (u : Value) (hy : K.enc y = (K.enc xs[j]).set i u) :
    K.Own B (w.setCell ⟨g, j * K.k + i, none⟩ u) (.slice (some ⟨g, 0, none⟩) N c) (xs.set j y) := by
  subst hl
  have := (World.ownsRow.stored h (j * K.k + i) u).1
  rw [← flat_put xs j i y u hj hi hy] at this
  simpa [EK.Own] using this
theorem own_lit2 {w : World} {o1 o2 : Obj} : K.Own w.heap.size (((w.alloc o1).alloc o2).alloc (.cells #[] K.ty)) (.slice (some ⟨w.heap.size + 1 + 1, 0, none⟩) 0 0) [] := by
  have := EK.Own.lit (K := K) (B := w.heap.size) ((w.alloc o1).alloc o2) #[] [] rfl (by simp; omega) (Nat.zero_le _)
  simpa using this
end

/-- The cuts of a twin: in blocks of its own, no two in the same one. -/
structure TwinM (k : WkT) (B : Nat) (w0 w : World) (v : Value) (Ts : List CutR) (j : Nat) : Prop where
  own : cutK.Own B w v Ts
  len : Ts.length = k.cuts.length
  rest : ∀ q (h : q < Ts.length) (h' : q < k.cuts.length), Ts[q].2 = k.cuts[q].2
  done : ∀ q (h : q < Ts.length) (h' : q < k.cuts.length), q < j → spotK.Own B w (rowV Ts[q].1) k.cuts[q].1
  old : ∀ q (h : q < Ts.length) (h' : q < k.cuts.length), j ≤ q → spotK.Is w0 (rowV Ts[q].1) k.cuts[q].1
  dist : ∀ p q (h : p < Ts.length) (h' : q < Ts.length), p < j → q < j → p ≠ q → (rowV Ts[p].1).ownBlock = none ∨ (rowV Ts[p].1).ownBlock ≠ (rowV Ts[q].1).ownBlock
theorem TwinM.ext {k : WkT} {B : Nat} {w0 w w' : World} {v : Value} {Ts : List CutR} {j : Nat} (h : TwinM k B w0 w v Ts j) (x : Ext w w') : TwinM k B w0 w' v Ts j :=
  ⟨h.own.ext x, h.len, h.rest, fun q a b c => (h.done q a b c).ext x, h.old, h.dist⟩
theorem TwinM.cuts {k : WkT} {B : Nat} {w0 w : World} {v : Value} {Ts : List CutR} (h : TwinM k B w0 w v Ts k.cuts.length) : CutsIs w v k.cuts :=
  ⟨Ts, h.own.is, h.len, fun q a b => ⟨(h.done q a b b).is, h.rest q a b⟩⟩

theorem spot_cut_ne : spotK.ty ≠ cutK.ty := by decide
/-- One more of the cuts' spots are copied. -/
theorem TwinM.step {k : WkT} {B : Nat} {w0 w w1 : World} {g c N : Nat} {Ts : List CutR} {j : Nat} (h : TwinM k B w0 w (.slice (some ⟨g, 0, none⟩) N c) Ts j) (hN : Ts.length = N) (hj : j < Ts.length) (hjk : j < k.cuts.length) (T1 : RowT) (x : Ext w w1)
    (ho : spotK.Own w.heap.size w1 (rowV T1) k.cuts[j].1) (hB : B ≤ w.heap.size) : TwinM k B w0 (w1.setCell ⟨g, j * 3, none⟩ (rowV T1)) (.slice (some ⟨g, 0, none⟩) N c) (Ts.set j (T1, Ts[j].2)) (j + 1) := by
  have e : ∀ q (hq : q < (Ts.set j (T1, Ts[j].2)).length), (Ts.set j (T1, Ts[j].2))[q] = if j = q then (T1, Ts[j].2) else Ts[q]'(by simpa using hq) := fun q hq => List.getElem_set ..
  have ho1 := h.own.ext x
  have hne : ∀ {B' : Nat} {v : Value} {xs : List (Int × Int)}, spotK.Own B' w1 v xs → spotK.Own B' (w1.setCell ⟨g, j * 3, none⟩ (rowV T1)) v xs := fun {B' v xs} hs => hs.oth (by
    have := own_ne hs ho1 spot_cut_ne
    simpa [Value.ownBlock] using this)
  refine ⟨?_, by simpa using h.len, fun q a b => ?_, fun q a b hq => ?_, fun q a b hq => ?_, fun p q a b hp hq hpq => ?_⟩
  · have := ho1.putI hN (j := j) (i := 0) hj (by decide) (T1, Ts[j].2) (rowV T1) rfl
    rw [Nat.add_zero] at this
    exact this
  · rw [e]
    split
    · rename_i hjq
      subst hjq
      exact h.rest j hj b
    · exact h.rest q (by simpa using a) b
  · rw [e]
    split
    · rename_i hjq
      subst hjq
      exact (hne ho).mono hB
    · exact hne ((h.done q (by simpa using a) b (by omega)).ext x)
  · rw [e, if_neg (by omega)]
    exact h.old q (by simpa using a) b (by omega)
  · have ha : p < Ts.length := by simpa using a
    have hb : q < Ts.length := by simpa using b
    have hlk := h.len
    rw [e, e]
    have key : ∀ p (ha : p < Ts.length), p < j → ∀ r, (rowV Ts[p].1).ownBlock = some r → r < w.heap.size := fun p ha hp r hr => ((h.done p ha (by omega) hp).lt r hr).2
    have keyj : ∀ r, (rowV T1).ownBlock = some r → w.heap.size ≤ r := fun r hr => (ho.lt r hr).1
    by_cases hpj : j = p
    · rw [if_pos hpj, if_neg (by omega)]
      cases hr : (rowV T1).ownBlock with
      | none => exact .inl rfl
      | some r =>
        refine .inr fun he => ?_
        have h1 := keyj r hr
        have h2 := key q hb (by omega) r he.symm
        omega
    · rw [if_neg hpj]
      by_cases hqj : j = q
      · rw [if_pos hqj]
        cases hr : (rowV Ts[p].1).ownBlock with
        | none => exact .inl rfl
        | some r =>
          refine .inr fun he => ?_
          have h1 := key p ha (by omega) r hr
          have h2 := keyj r he.symm
          omega
      · rw [if_neg hqj]
        exact h.dist p q ha hb (by omega) (by omega) hpq
theorem twin_len {B : Nat} {w : World} {A : Option Addr} {k c n : Nat} {Ts : List CutR} (h : cutK.Own B w (.slice A k c) Ts) (hn : Ts.length = n) : k = n := by
  obtain ⟨_, _, he, _⟩ := h.is
  simp only [Value.slice.injEq] at he
  omega
theorem twin_boxes {w w3 : World} {cs ds : Array Value} {T S U : TypeId} (b3 : Below w.heap.size (((w.alloc (.cells cs T)).alloc (.cells ds S)).alloc (.cells #[] U)) w3) (g3 : (((w.alloc (.cells cs T)).alloc (.cells ds S)).alloc (.cells #[] U)).grownBy w3 (Value.slice (some ⟨w.heap.size + 1 + 1, 0, none⟩) 0 0).ownBlock) :
    BoxAt w.heap.size cs T w3 ∧ BoxAt (w.heap.size + 1) ds S w3 ∧ Ext w w3 := by
  have h1 : BoxAt w.heap.size cs T (((w.alloc (.cells cs T)).alloc (.cells ds S)).alloc (.cells #[] U)) := ((BoxAt.new w cs T).ext (((Ext.refl _).alloc _).alloc _))
  have h2 : BoxAt (w.heap.size + 1) ds S (((w.alloc (.cells cs T)).alloc (.cells ds S)).alloc (.cells #[] U)) := by
    have := (BoxAt.new (w.alloc (.cells cs T)) ds S).ext ((Ext.refl _).alloc (.cells #[] U))
    simpa using this
  refine ⟨(g3.block _ h1.lt (by simp [Value.ownBlock] <;> omega)).trans h1, (g3.block _ h2.lt (by simp [Value.ownBlock])).trans h2, ?_⟩
  exact Ext.below (((Ext.refl w).alloc _).alloc _ |>.alloc _) b3 (Nat.le_refl _)

/-- A struct of another type is stored whole: the twin's cuts stay. -/
theorem TwinM.row {k : WkT} {B b : Nat} {w0 w w' : World} {v : Value} {Ts : List CutR} {j : Nat} {cs : Array Value} {T : TypeId} (h : TwinM k B w0 w v Ts j) (hb : BoxAt b cs T w) (h1 : cutK.ty ≠ T) (h2 : spotK.ty ≠ T) (x : But [b] w w') : TwinM k B w0 w' v Ts j :=
  ⟨h.own.kept (but_grown' x) (.inr (h.own.box_ne hb h1)), h.len, h.rest, fun q a c d => (h.done q a c d).kept (but_grown' x) (.inr ((h.done q a c d).box_ne hb h2)), h.old, h.dist⟩
end
open Go.RowKit

def withC (k : WkT) (cs : List CutT) : WkT := { k with cuts := cs }
/-- A coordinate of a spot is stored. -/
theorem TwinM.spot {k : WkT} {B : Nat} {w0 w : World} {v : Value} {Ts : List CutR} (h : TwinM k B w0 w v Ts k.cuts.length) {i : Nat} (hi : i < Ts.length) (hi' : i < k.cuts.length) {gi c N : Nat} (hv : rowV Ts[i].1 = .slice (some ⟨gi, 0, none⟩) N c)
    {t e : Nat} (ht : t < k.cuts[i].1.length) (he : e < 2) (y : Int × Int) (u : Value) (hy : spotK.enc y = (spotK.enc k.cuts[i].1[t]).set e u) :
    TwinM (withC k (k.cuts.set i (k.cuts[i].1.set t y, k.cuts[i].2))) B w0 (w.setCell ⟨gi, t * 2 + e, none⟩ u) v Ts (withC k (k.cuts.set i (k.cuts[i].1.set t y, k.cuts[i].2))).cuts.length := by
  have hd := h.done i hi hi' hi'
  rw [hv] at hd
  have hN : k.cuts[i].1.length = N := by
    obtain ⟨_, _, e1, _⟩ := hd.is
    simp only [Value.slice.injEq] at e1
    exact e1.2.1.symm
  have hlen : (withC k (k.cuts.set i (k.cuts[i].1.set t y, k.cuts[i].2))).cuts.length = k.cuts.length := by simp [withC]
  have hat : ∀ q (a : q < (withC k (k.cuts.set i (k.cuts[i].1.set t y, k.cuts[i].2))).cuts.length), (withC k (k.cuts.set i (k.cuts[i].1.set t y, k.cuts[i].2))).cuts[q] = if i = q then (k.cuts[i].1.set t y, k.cuts[i].2) else k.cuts[q]'(by rw [hlen] at a; exact a) := fun q a => List.getElem_set ..
  refine ⟨?_, by rw [hlen]; exact h.len, fun q a b => ?_, fun q a b _ => ?_, fun q a b hq => ?_, fun p q a b hp hq => h.dist p q a b (by omega) (by omega)⟩
  · refine h.own.oth ?_
    have := own_ne h.own hd (Ne.symm spot_cut_ne)
    simpa [Value.ownBlock] using this
  · rw [hat]
    split
    · rename_i hq
      subst hq
      exact h.rest i a hi'
    · exact h.rest q a (by omega)
  · rw [hat]
    split
    · rename_i hq
      subst hq
      rw [hv]
      exact hd.putI hN ht he y u hy
    · rename_i hq
      have h1 := h.done q a (by omega) (by omega)
      refine h1.oth ?_
      have := h.dist q i a hi (by omega) hi' (fun e => hq e.symm)
      rw [hv] at this
      simpa [Value.ownBlock] using this
  · omega
/-- A cut's press is stored. -/
theorem TwinM.press {k : WkT} {B : Nat} {w0 w : World} {g c N : Nat} {Ts : List CutR} (h : TwinM k B w0 w (.slice (some ⟨g, 0, none⟩) N c) Ts k.cuts.length) {i : Nat} (hi : i < Ts.length) (hi' : i < k.cuts.length) (p : Int) :
    TwinM (withC k (k.cuts.set i (k.cuts[i].1, p, k.cuts[i].2.2))) B w0 (w.setCell ⟨g, i * 3 + 1, none⟩ (.int .i64 p)) (.slice (some ⟨g, 0, none⟩) N c) (Ts.set i (Ts[i].1, p, k.cuts[i].2.2)) (withC k (k.cuts.set i (k.cuts[i].1, p, k.cuts[i].2.2))).cuts.length := by
  have hN : Ts.length = N := by
    obtain ⟨_, _, e1, _⟩ := h.own.is
    simp only [Value.slice.injEq] at e1
    exact e1.2.1.symm
  have hlen : (withC k (k.cuts.set i (k.cuts[i].1, p, k.cuts[i].2.2))).cuts.length = k.cuts.length := by simp [withC]
  have hat : ∀ q (a : q < (withC k (k.cuts.set i (k.cuts[i].1, p, k.cuts[i].2.2))).cuts.length), (withC k (k.cuts.set i (k.cuts[i].1, p, k.cuts[i].2.2))).cuts[q] = if i = q then (k.cuts[i].1, p, k.cuts[i].2.2) else k.cuts[q]'(by rw [hlen] at a; exact a) := fun q a => List.getElem_set ..
  have hts : ∀ q (a : q < (Ts.set i (Ts[i].1, p, k.cuts[i].2.2)).length), (Ts.set i (Ts[i].1, p, k.cuts[i].2.2))[q] = if i = q then (Ts[i].1, p, k.cuts[i].2.2) else Ts[q]'(by simpa using a) := fun q a => List.getElem_set ..
  have hfst : ∀ q (a : q < (Ts.set i (Ts[i].1, p, k.cuts[i].2.2)).length), (Ts.set i (Ts[i].1, p, k.cuts[i].2.2))[q].1 = (Ts[q]'(by simpa using a)).1 := fun q a => by
    rw [hts]
    split
    · rename_i hq
      subst hq
      rfl
    · rfl
  refine ⟨?_, by rw [hlen]; simpa using h.len, fun q a b => ?_, fun q a b _ => ?_, fun q a b hq => ?_, fun p q a b hp hq hpq => ?_⟩
  · refine h.own.putI hN hi (by decide) _ _ ?_
    have := h.rest i hi hi'
    show [_, _, _] = List.set [_, _, _] 1 _
    rw [← this]
    rfl
  · rw [hat, hts]
    split
    · rfl
    · exact h.rest q (by simpa using a) (by omega)
  · rw [hfst]
    have h1 := h.done q (by simpa using a) (by omega) (by omega)
    have h2 : spotK.Own B (w.setCell ⟨g, i * 3 + 1, none⟩ (.int .i64 p)) (rowV (Ts[q]'(by simpa using a)).1) (k.cuts[q]'(by omega)).1 := by
      refine h1.oth ?_
      have := own_ne h1 h.own spot_cut_ne
      simpa [Value.ownBlock] using this
    rw [hat]
    split
    · rename_i hq
      subst hq
      exact h2
    · exact h2
  · omega
  · rw [hfst, hfst]
    exact h.dist p q (by simpa using a) (by simpa using b) (by omega) (by omega) hpq
end Go.Proofs.Ytgeapenglcohfaa
