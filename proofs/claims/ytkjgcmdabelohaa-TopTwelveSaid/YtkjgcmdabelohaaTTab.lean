/- Slices of slices, each in a block of its own. No condition. -/
import Derived.Test.YtkjgcmdabelohaaESlot
namespace Go.Proofs.Ytkjgcmdabelohaa
open Go.RowKit

section
abbrev RowH := Option Addr × Nat × Nat
def rowH (T : RowH) : Value := .slice T.1 T.2.1 T.2.2
variable {α : Type} {K : EK α} {O : EK RowH}
/-- A table: the outer slice and the rows lie in blocks of their own, no two rows in the same one. -/
structure TabM (O : EK RowH) (K : EK α) (B : Nat) (w : World) (v : Value) (Ts : List RowH) (xss : List (List α)) : Prop where
  own : O.Own B w v Ts
  len : Ts.length = xss.length
  row : ∀ q (h : q < Ts.length) (h' : q < xss.length), K.Own B w (rowH Ts[q]) xss[q]
  dist : ∀ p q (h : p < Ts.length) (h' : q < Ts.length), p ≠ q → (rowH Ts[p]).ownBlock = none ∨ (rowH Ts[p]).ownBlock ≠ (rowH Ts[q]).ownBlock
theorem TabM.ext {B : Nat} {w w' : World} {v : Value} {Ts : List RowH} {xss : List (List α)} (h : TabM O K B w v Ts xss) (x : Ext w w') : TabM O K B w' v Ts xss :=
  ⟨h.own.ext x, h.len, fun q a b => (h.row q a b).ext x, h.dist⟩
theorem TabM.mono {B B' : Nat} {w : World} {v : Value} {Ts : List RowH} {xss : List (List α)} (h : TabM O K B w v Ts xss) (hB : B' ≤ B) : TabM O K B' w v Ts xss :=
  ⟨h.own.mono hB, h.len, fun q a b => (h.row q a b).mono hB, h.dist⟩
/-- What lies in a row's block has changed. -/
theorem TabM.upd {B i : Nat} {w w' : World} {v : Value} {Ts : List RowH} {xss : List (List α)} {ys : List α} (h : TabM O K B w v Ts xss) (hi : i < Ts.length) (hi' : i < xss.length) (hne : O.ty ≠ K.ty) (g : w.grownBy w' (rowH Ts[i]).ownBlock) (ho : K.Own B w' (rowH Ts[i]) ys) :
    TabM O K B w' v Ts (xss.set i ys) := by
  have e : ∀ q (hq : q < (xss.set i ys).length), (xss.set i ys)[q] = if i = q then ys else xss[q]'(by simpa using hq) := fun q hq => List.getElem_set ..
  refine ⟨h.own.kept g (own_ne h.own (h.row i hi hi') hne), by simpa using h.len, fun q a b => ?_, h.dist⟩
  rw [e]
  split
  · rename_i hq
    subst hq
    exact ho
  · rename_i hq
    exact (h.row q a (by simpa using b)).kept g (h.dist q i a hi (fun e => hq e.symm))
/-- A new row is stored in a slot. -/
theorem TabM.setRow {B i : Nat} {w w1 : World} {g c N : Nat} {Ts : List RowH} {xss : List (List α)} {ys : List α} (h : TabM O K B w (.slice (some ⟨g, 0, none⟩) N c) Ts xss) (hN : Ts.length = N) (hk : O.k = 1) (he : ∀ T, O.enc T = [rowH T]) (hi : i < Ts.length) (hne : K.ty ≠ O.ty) (T1 : RowH) (x : Ext w w1) (ho : K.Own w.heap.size w1 (rowH T1) ys) (hB : B ≤ w.heap.size) :
    TabM O K B (w1.setCell ⟨g, i, none⟩ (rowH T1)) (.slice (some ⟨g, 0, none⟩) N c) (Ts.set i T1) (xss.set i ys) := by
  have e : ∀ q (hq : q < (Ts.set i T1).length), (Ts.set i T1)[q] = if i = q then T1 else Ts[q]'(by simpa using hq) := fun q hq => List.getElem_set ..
  have e' : ∀ q (hq : q < (xss.set i ys).length), (xss.set i ys)[q] = if i = q then ys else xss[q]'(by simpa using hq) := fun q hq => List.getElem_set ..
  have ho1 := h.own.ext x
  have hn : ∀ {B' : Nat} {v : Value} {xs : List α}, K.Own B' w1 v xs → K.Own B' (w1.setCell ⟨g, i, none⟩ (rowH T1)) v xs := fun {B' v xs} hs => hs.oth (by
    have := own_ne hs ho1 hne
    simpa [Value.ownBlock] using this)
  refine ⟨ho1.put1N hN (by omega) hk T1 _ (he T1), by simpa using h.len, fun q a b => ?_, fun p q a b hpq => ?_⟩
  · rw [e, e']
    split
    · exact (hn ho).mono hB
    · exact hn ((h.row q (by simpa using a) (by simpa using b)).ext x)
  · have ha : p < Ts.length := by simpa using a
    have hb : q < Ts.length := by simpa using b
    have hl := h.len
    have key : ∀ p (ha : p < Ts.length), ∀ r, (rowH Ts[p]).ownBlock = some r → r < w.heap.size := fun p ha r hr => ((h.row p ha (by omega)).lt r hr).2
    have keyj : ∀ r, (rowH T1).ownBlock = some r → w.heap.size ≤ r := fun r hr => (ho.lt r hr).1
    rw [e, e]
    by_cases hpj : i = p
    · rw [if_pos hpj, if_neg (by omega)]
      cases hr : (rowH T1).ownBlock with
      | none => exact .inl rfl
      | some r =>
        refine .inr fun he => ?_
        have h1 := keyj r hr
        have h2 := key q hb r he.symm
        omega
    · rw [if_neg hpj]
      by_cases hqj : i = q
      · rw [if_pos hqj]
        cases hr : (rowH Ts[p]).ownBlock with
        | none => exact .inl rfl
        | some r =>
          refine .inr fun he => ?_
          have h1 := key p ha r hr
          have h2 := keyj r he.symm
          omega
      · rw [if_neg hqj]
        exact h.dist p q ha hb hpq
/-- A table that reads. -/
def TabIs (O : EK RowH) (K : EK α) (w : World) (v : Value) (xss : List (List α)) : Prop := ∃ Ts, O.Is w v Ts ∧ Ts.length = xss.length ∧ ∀ q (h : q < Ts.length) (h' : q < xss.length), K.Is w (rowH Ts[q]) xss[q]
theorem TabIs.ext {w w' : World} {v : Value} {xss : List (List α)} (h : TabIs O K w v xss) (x : Ext w w') : TabIs O K w' v xss := by
  obtain ⟨Ts, h1, h2, h3⟩ := h
  exact ⟨Ts, h1.ext x, h2, fun q a b => (h3 q a b).ext x⟩
theorem TabM.is {B : Nat} {w : World} {v : Value} {Ts : List RowH} {xss : List (List α)} (h : TabM O K B w v Ts xss) : TabIs O K w v xss := ⟨Ts, h.own.is, h.len, fun q a b => (h.row q a b).is⟩
/-- Rows that are built one behind the other: only the last one grows; its block, if it has one, is Bi or later, those of the others lie ahead of Bi. -/
structure RowsM (O : EK RowH) (K : EK α) (B Bi : Nat) (w : World) (v : Value) (Ts : List RowH) (T : RowH) (xss : List (List α)) (ys : List α) : Prop where
  own : O.Own B w v (Ts ++ [T])
  len : Ts.length = xss.length
  old : ∀ q (h : q < Ts.length) (h' : q < xss.length), K.Own B w (rowH Ts[q]) xss[q] ∧ ∀ r, (rowH Ts[q]).ownBlock = some r → r < Bi
  cur : K.Own Bi w (rowH T) ys
  bi : B ≤ Bi
theorem RowsM.ext {B Bi : Nat} {w w' : World} {v : Value} {Ts : List RowH} {T : RowH} {xss : List (List α)} {ys : List α} (h : RowsM O K B Bi w v Ts T xss ys) (x : Ext w w') : RowsM O K B Bi w' v Ts T xss ys :=
  ⟨h.own.ext x, h.len, fun q a b => ⟨(h.old q a b).1.ext x, (h.old q a b).2⟩, h.cur.ext x, h.bi⟩
theorem RowsM.is {B Bi : Nat} {w : World} {v : Value} {Ts : List RowH} {T : RowH} {xss : List (List α)} {ys : List α} (h : RowsM O K B Bi w v Ts T xss ys) : TabIs O K w v (xss ++ [ys]) := by
  refine ⟨Ts ++ [T], h.own.is, by simp [h.len], fun q a b => ?_⟩
  by_cases hq : q < Ts.length
  · rw [List.getElem_append_left hq, List.getElem_append_left (by rw [← h.len]; exact hq)]
    exact (h.old q hq (by rw [← h.len]; exact hq)).1.is
  · have e : q = Ts.length := by
      simp only [List.length_append, List.length_singleton] at a
      omega
    subst e
    have h2 : Ts.length - xss.length = 0 := by rw [h.len]; omega
    rw [List.getElem_append_right (Nat.le_refl _), List.getElem_append_right (by rw [h.len]; exact Nat.le_refl _)]
    simp only [Nat.sub_self, h2, List.getElem_cons_zero]
    exact h.cur.is
/-- The last row has grown, and its slice is stored. -/
theorem RowsM.grow {B Bi : Nat} {w w1 : World} {g c N : Nat} {Ts : List RowH} {T : RowH} {xss : List (List α)} {ys zs : List α} (h : RowsM O K B Bi w (.slice (some ⟨g, 0, none⟩) N c) Ts T xss ys) (hN : Ts.length + 1 = N) (hk : O.k = 1) (he : ∀ T, O.enc T = [rowH T]) (hne : O.ty ≠ K.ty) (T1 : RowH)
    (g1 : w.grownBy w1 (rowH T).ownBlock) (o1 : K.Own Bi w1 (rowH T1) zs) : RowsM O K B Bi (w1.setCell ⟨g, Ts.length, none⟩ (rowH T1)) (.slice (some ⟨g, 0, none⟩) N c) Ts T1 xss zs := by
  have ho1 := h.own.kept g1 (own_ne h.own h.cur hne)
  have hn : ∀ {B' : Nat} {v : Value} {xs : List α}, K.Own B' w1 v xs → K.Own B' (w1.setCell ⟨g, Ts.length, none⟩ (rowH T1)) v xs := fun {B' v xs} hs => hs.oth (by
    have := own_ne hs ho1 (Ne.symm hne)
    simpa [Value.ownBlock] using this)
  refine ⟨?_, h.len, fun q a b => ⟨hn ((h.old q a b).1.kept g1 ?_), (h.old q a b).2⟩, hn o1, h.bi⟩
  · have := ho1.put1N (j := Ts.length) (by simpa using hN) (by omega) hk T1 _ (he T1)
    rwa [List.set_append_right _ _ (Nat.le_refl _), Nat.sub_self, List.set_cons_zero] at this
  · cases hr : (rowH Ts[q]).ownBlock with
    | none => exact .inl rfl
    | some r =>
      refine .inr fun e => ?_
      have h1 := (h.old q a b).2 r hr
      have h2 := (h.cur.lt r e.symm).1
      omega
/-- One more row, empty as yet. -/
theorem RowsM.new {B Bi : Nat} {w w1 : World} {v v' : Value} {Ts : List RowH} {T : RowH} {xss : List (List α)} {ys : List α} (h : RowsM O K B Bi w v Ts T xss ys) (hne : O.ty ≠ K.ty) (g1 : w.grownBy w1 v.ownBlock) (o1 : O.Own B w1 v' ((Ts ++ [T]) ++ [(none, 0, 0)])) (hB : B ≤ w.heap.size) :
    RowsM O K B w.heap.size w1 v' (Ts ++ [T]) (none, 0, 0) (xss ++ [ys]) [] := by
  refine ⟨o1, by simp [h.len], fun q a b => ?_, EK.Own.nil _ _, hB⟩
  by_cases hq : q < Ts.length
  · have hq' : q < xss.length := by rw [← h.len]; exact hq
    rw [List.getElem_append_left hq']
    have e : (Ts ++ [T])[q] = Ts[q] := List.getElem_append_left hq
    rw [e]
    have ho := (h.old q hq hq').1
    exact ⟨ho.kept g1 (own_ne ho h.own (Ne.symm hne)), fun r hr => (ho.lt r hr).2⟩
  · have e : q = Ts.length := by
      simp only [List.length_append, List.length_singleton] at a
      omega
    subst e
    have h2 : Ts.length - xss.length = 0 := by rw [h.len]; omega
    have e1 : (Ts ++ [T])[Ts.length] = T := by simp
    rw [e1, List.getElem_append_right (by rw [h.len]; exact Nat.le_refl _)]
    simp only [h2, List.getElem_cons_zero]
    have ho := h.cur.mono h.bi
    exact ⟨ho.kept g1 (own_ne ho h.own (Ne.symm hne)), fun r hr => (ho.lt r hr).2⟩
theorem RowsM.first {B : Nat} {w w1 : World} {v' : Value} (o1 : O.Own B w1 v' ([] ++ [(none, 0, 0)])) (hB : B ≤ w.heap.size) : RowsM O K B w.heap.size w1 v' [] (none, 0, 0) [] [] :=
  ⟨o1, rfl, fun q a _ => absurd a (by simp), EK.Own.nil _ _, hB⟩
end
end Go.Proofs.Ytkjgcmdabelohaa
