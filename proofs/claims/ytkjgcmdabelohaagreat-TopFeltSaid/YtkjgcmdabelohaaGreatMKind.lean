/- The kinds of light. No condition. -/
/- The reference's comparisons of lists. Condition: the slices read as lists. -/
/- The kind of spans: structs of two numbers. No condition. -/
/- Slices of slices, each in a block of its own. No condition. -/
/- Slices of slices of bools. No condition. -/
/- Maps that the call makes: keys with a decidable equality, elements of one cell. Condition: the map's kind (MK). -/
/- Maps that the call makes, whose keys are known: look up with 'ok', range. Condition: the map's kind (MK); what is laid is never the zero. -/
import Derived.Test.YtkjgcmdabelohaaGreatMAcc
import Derived.ChangeMaps4
import Derived.Laws.StructEq
import Derived.Maps.RangeWalk
namespace Go.Proofs.YtkjgcmdabelohaaGreat
open Go.RowKit

def boolK : EK Bool := ⟨4, 91, 1, fun x => [.bool x], .bool false, 1, Tryz.underlying91, by kernel_rfl, rfl, by decide, by decide, fun _ => rfl, by simp [Value.oneCell']⟩
/-- What makes a slice of its own. -/
def RetE {α : Type} (K : EK α) (w : World) (xs : List α) (e : Ending) (w' : World) : Prop := ∃ v, e = .returned v ∧ K.Own w.heap.size w' v xs ∧ Ext w w'
/-- .. with an error number. -/
def RetEE {α : Type} (K : EK α) (w : World) (xs : List α) (k : Int) (e : Ending) (w' : World) : Prop := ∃ v, e = .returned (.tuple #[v, .int .i64 k]) ∧ K.Own w.heap.size w' v xs ∧ Ext w w'

theorem EK.Own.shape {α : Type} {K : EK α} {B : Nat} {w : World} {v : Value} {xs : List α} (h : K.Own B w v xs) : ∃ A k c, v = .slice A k c := by
  rcases h.2 with ⟨rfl, _⟩ | ⟨g, cap, _, rfl, _⟩
  · exact ⟨_, _, _, rfl⟩
  · exact ⟨_, _, _, rfl⟩
end Go.Proofs.YtkjgcmdabelohaaGreat

namespace Go.Proofs.YtkjgcmdabelohaaGreat
open Go.RowKit

theorem pairs_at {K : EK (Int × Int)} (hk : K.k = 2) (he : ∀ x, K.enc x = [.int .i64 x.1, .int .i64 x.2]) {w : World} {A : Option Addr} {xs : List (Int × Int)} (h : K.Row w A xs) (j : Nat) (hj : j < xs.length) :
    ∃ b o, A = some ⟨b, o, none⟩ ∧ b < w.heap.size ∧ w.cell? ⟨b, o + j * 2, none⟩ = some (.int .i64 xs[j].1) ∧ w.cell? ⟨b, o + j * 2 + 1, none⟩ = some (.int .i64 xs[j].2) := by
  obtain ⟨b, o, rfl, hb, hc⟩ := h j hj
  rw [hk] at hc
  exact ⟨b, o, rfl, hb, hc 0 _ (by rw [he]; rfl), hc 1 _ (by rw [he]; rfl)⟩
theorem bools_at {w : World} {A : Option Addr} {xs : List Bool} (h : boolK.Row w A xs) (j : Nat) (hj : j < xs.length) : ∃ b o, A = some ⟨b, o, none⟩ ∧ b < w.heap.size ∧ w.cell? ⟨b, o + j, none⟩ = some (.bool xs[j]) := by
  obtain ⟨b, o, rfl, hb, hc⟩ := h j hj
  have := hc 0 _ rfl
  exact ⟨b, o, rfl, hb, by simpa [boolK] using this⟩
theorem ints_at {w : World} {A : Option Addr} {xs : List Int} (h : intK.Row w A xs) (j : Nat) (hj : j < xs.length) : ∃ b o, A = some ⟨b, o, none⟩ ∧ b < w.heap.size ∧ w.cell? ⟨b, o + j, none⟩ = some (.int .i64 xs[j]) := by
  obtain ⟨b, o, rfl, hb, hc⟩ := h j hj
  have := hc 0 _ rfl
  exact ⟨b, o, rfl, hb, by simpa [intK] using this⟩
theorem same_no {α : Type} {xs ys : List α} {j : Nat} (h1 : j < xs.length) (h2 : j < ys.length) (h : xs[j] ≠ ys[j]) : xs ≠ ys := fun e => by
  subst e
  exact h rfl
theorem same_yes {α : Type} {xs ys : List α} (hl : xs.length = ys.length) (h : ∀ (j : Nat) (h1 : j < xs.length) (h2 : j < ys.length), xs[j] = ys[j]) : xs = ys := List.ext_getElem hl fun j h1 h2 => h j h1 h2

theorem EK.Own.setCell {α : Type} {K : EK α} {B : Nat} {w : World} {v : Value} {xs : List α} (h : K.Own B w v xs) {b o : Nat} {u : Value} (hb : b < B) : K.Own B (w.setCell ⟨b, o, none⟩ u) v xs := by
  refine h.kept (row := some b) ⟨rfl, rfl, rfl, by simp, fun i _ hi => heap_setCell_other w ⟨b, o, none⟩ i _ (fun e => hi (by simp [e]))⟩ ?_
  rcases h' : v.ownBlock with _ | g
  · exact .inl rfl
  · refine .inr fun e => ?_
    have := (h.lt g h').1
    simp only [Option.some.injEq] at e
    omega

end Go.Proofs.YtkjgcmdabelohaaGreat

namespace Go.Proofs.YtkjgcmdabelohaaGreat
open Go.RowKit
def spanK : EK (Int × Int) := ⟨123, 120, 2, fun x => [.int .i64 x.1, .int .i64 x.2], .agg #[.int .i64 0, .int .i64 0], 16, Tryz.underlying120, by kernel_rfl, rfl, by decide, by decide, fun _ => rfl, by simp [Value.oneCell']⟩
end Go.Proofs.YtkjgcmdabelohaaGreat

namespace Go.Proofs.YtkjgcmdabelohaaGreat
open Go.RowKit

section
abbrev RowH := Option Addr × Nat × Nat
def rowH (T : RowH) : Value := .slice T.1 T.2.1 T.2.2
variable {α : Type} {K : EK α} {O : EK RowH}
/-- A table: the outer slice and the rows lie in blocks of their own, no two rows in the same one. -/
structure TabM (O : EK RowH) (K : EK α) (B : Nat) (w : World) (v : Value) (Ts : List RowH) (xss : List (List α)) : Prop where
  own : O.Own B w v Ts
  len : Ts.length = xss.length
  row : ∀ q (h : q < Ts.length) (h' : q < xss.length), K.Own B w (rowH Ts[q]) xss[q]
  dist : ∀ p q (h : p < Ts.length) (h' : q < Ts.length), p ≠ q → (rowH Ts[p]).ownBlock = none ∨ (rowH Ts[p]).ownBlock ≠ (rowH Ts[q]).ownBlock
theorem TabM.ext {B : Nat} {w w' : World} {v : Value} {Ts : List RowH} {xss : List (List α)} (h : TabM O K B w v Ts xss) (x : Ext w w') : TabM O K B w' v Ts xss :=
  ⟨h.own.ext x, h.len, fun q a b => (h.row q a b).ext x, h.dist⟩
theorem TabM.mono {B B' : Nat} {w : World} {v : Value} {Ts : List RowH} {xss : List (List α)} (h : TabM O K B w v Ts xss) (hB : B' ≤ B) : TabM O K B' w v Ts xss :=
  ⟨h.own.mono hB, h.len, fun q a b => (h.row q a b).mono hB, h.dist⟩
/-- What lies in a row's block has changed. -/
theorem TabM.upd {B i : Nat} {w w' : World} {v : Value} {Ts : List RowH} {xss : List (List α)} {ys : List α} (h : TabM O K B w v Ts xss) (hi : i < Ts.length) (hi' : i < xss.length) (hne : O.ty ≠ K.ty) (g : w.grownBy w' (rowH Ts[i]).ownBlock) (ho : K.Own B w' (rowH Ts[i]) ys) :
    TabM O K B w' v Ts (xss.set i ys) := by
  have e : ∀ q (hq : q < (xss.set i ys).length), (xss.set i ys)[q] = if i = q then ys else xss[q]'(by simpa using hq) := fun q hq => List.getElem_set ..
  refine ⟨h.own.kept g (own_ne h.own (h.row i hi hi') hne), by simpa using h.len, fun q a b => ?_, h.dist⟩
  rw [e]
  split
  · rename_i hq
    subst hq
    exact ho
  · rename_i hq
    exact (h.row q a (by simpa using b)).kept g (h.dist q i a hi (fun e => hq e.symm))
/-- A new row is stored in a slot. -/
theorem TabM.setRow {B i : Nat} {w w1 : World} {g c N : Nat} {Ts : List RowH} {xss : List (List α)} {ys : List α} (h : TabM O K B w (.slice (some ⟨g, 0, none⟩) N c) Ts xss) (hN : Ts.length = N) (hk : O.k = 1) (he : ∀ T, O.enc T = [rowH T]) (hi : i < Ts.length) (hne : K.ty ≠ O.ty) (T1 : RowH) (x : Ext w w1) (ho : K.Own w.heap.size w1 (rowH T1) ys) (hB : B ≤ w.heap.size) :
    TabM O K B (w1.setCell ⟨g, i, none⟩ (rowH T1)) (.slice (some ⟨g, 0, none⟩) N c) (Ts.set i T1) (xss.set i ys) := by
  have e : ∀ q (hq : q < (Ts.set i T1).length), (Ts.set i T1)[q] = if i = q then T1 else Ts[q]'(by simpa using hq) := fun q hq => List.getElem_set ..
  have e' : ∀ q (hq : q < (xss.set i ys).length), (xss.set i ys)[q] = if i = q then ys else xss[q]'(by simpa using hq) := fun q hq => List.getElem_set ..
  have ho1 := h.own.ext x
  have hn : ∀ {B' : Nat} {v : Value} {xs : List α}, K.Own B' w1 v xs → K.Own B' (w1.setCell ⟨g, i, none⟩ (rowH T1)) v xs := fun {B' v xs} hs => hs.oth (by
    have := own_ne hs ho1 hne
    simpa [Value.ownBlock] using this)
  refine ⟨ho1.put1N hN (by omega) hk T1 _ (he T1), by simpa using h.len, fun q a b => ?_, fun p q a b hpq => ?_⟩
  · rw [e, e']
    split
    · exact (hn ho).mono hB
    · exact hn ((h.row q (by simpa using a) (by simpa using b)).ext x)
  · have ha : p < Ts.length := by simpa using a
    have hb : q < Ts.length := by simpa using b
    have hl := h.len
    have key : ∀ p (ha : p < Ts.length), ∀ r, (rowH Ts[p]).ownBlock = some r → r < w.heap.size := fun p ha r hr => ((h.row p ha (by omega)).lt r hr).2
    have keyj : ∀ r, (rowH T1).ownBlock = some r → w.heap.size ≤ r := fun r hr => (ho.lt r hr).1
    rw [e, e]
    by_cases hpj : i = p
    · rw [if_pos hpj, if_neg (by omega)]
      cases hr : (rowH T1).ownBlock with
      | none => exact .inl rfl
      | some r =>
        refine .inr fun he => ?_
        have h1 := keyj r hr
        have h2 := key q hb r he.symm
        omega
    · rw [if_neg hpj]
      by_cases hqj : i = q
      · rw [if_pos hqj]
        cases hr : (rowH Ts[p]).ownBlock with
        | none => exact .inl rfl
        | some r =>
          refine .inr fun he => ?_
          have h1 := key p ha r hr
          have h2 := keyj r he.symm
          omega
      · rw [if_neg hqj]
        exact h.dist p q ha hb hpq
/-- A table that reads. -/
def TabIs (O : EK RowH) (K : EK α) (w : World) (v : Value) (xss : List (List α)) : Prop := ∃ Ts, O.Is w v Ts ∧ Ts.length = xss.length ∧ ∀ q (h : q < Ts.length) (h' : q < xss.length), K.Is w (rowH Ts[q]) xss[q]
theorem TabIs.ext {w w' : World} {v : Value} {xss : List (List α)} (h : TabIs O K w v xss) (x : Ext w w') : TabIs O K w' v xss := by
  obtain ⟨Ts, h1, h2, h3⟩ := h
  exact ⟨Ts, h1.ext x, h2, fun q a b => (h3 q a b).ext x⟩
theorem TabM.is {B : Nat} {w : World} {v : Value} {Ts : List RowH} {xss : List (List α)} (h : TabM O K B w v Ts xss) : TabIs O K w v xss := ⟨Ts, h.own.is, h.len, fun q a b => (h.row q a b).is⟩
/-- Rows that are built one behind the other: only the last one grows; its block, if it has one, is Bi or later, those of the others lie ahead of Bi. -/
structure RowsM (O : EK RowH) (K : EK α) (B Bi : Nat) (w : World) (v : Value) (Ts : List RowH) (T : RowH) (xss : List (List α)) (ys : List α) : Prop where
  own : O.Own B w v (Ts ++ [T])
  len : Ts.length = xss.length
  old : ∀ q (h : q < Ts.length) (h' : q < xss.length), K.Own B w (rowH Ts[q]) xss[q] ∧ ∀ r, (rowH Ts[q]).ownBlock = some r → r < Bi
  cur : K.Own Bi w (rowH T) ys
  bi : B ≤ Bi
theorem RowsM.ext {B Bi : Nat} {w w' : World} {v : Value} {Ts : List RowH} {T : RowH} {xss : List (List α)} {ys : List α} (h : RowsM O K B Bi w v Ts T xss ys) (x : Ext w w') : RowsM O K B Bi w' v Ts T xss ys :=
  ⟨h.own.ext x, h.len, fun q a b => ⟨(h.old q a b).1.ext x, (h.old q a b).2⟩, h.cur.ext x, h.bi⟩
theorem RowsM.is {B Bi : Nat} {w : World} {v : Value} {Ts : List RowH} {T : RowH} {xss : List (List α)} {ys : List α} (h : RowsM O K B Bi w v Ts T xss ys) : TabIs O K w v (xss ++ [ys]) := by
  refine ⟨Ts ++ [T], h.own.is, by simp [h.len], fun q a b => ?_⟩
  by_cases hq : q < Ts.length
  · rw [List.getElem_append_left hq, List.getElem_append_left (by rw [← h.len]; exact hq)]
    exact (h.old q hq (by rw [← h.len]; exact hq)).1.is
  · have e : q = Ts.length := by
      simp only [List.length_append, List.length_singleton] at a
      omega
    subst e
    have h2 : Ts.length - xss.length = 0 := by rw [h.len]; omega
    rw [List.getElem_append_right (Nat.le_refl _), List.getElem_append_right (by rw [h.len]; exact Nat.le_refl _)]
    simp only [Nat.sub_self, h2, List.getElem_cons_zero]
    exact h.cur.is
/-- The last row has grown, and its slice is stored. -/
theorem RowsM.grow {B Bi : Nat} {w w1 : World} {g c N : Nat} {Ts : List RowH} {T : RowH} {xss : List (List α)} {ys zs : List α} (h : RowsM O K B Bi w (.slice (some ⟨g, 0, none⟩) N c) Ts T xss ys) (hN : Ts.length + 1 = N) (hk : O.k = 1) (he : ∀ T, O.enc T = [rowH T]) (hne : O.ty ≠ K.ty) (T1 : RowH)
    (g1 : w.grownBy w1 (rowH T).ownBlock) (o1 : K.Own Bi w1 (rowH T1) zs) : RowsM O K B Bi (w1.setCell ⟨g, Ts.length, none⟩ (rowH T1)) (.slice (some ⟨g, 0, none⟩) N c) Ts T1 xss zs := by
  have ho1 := h.own.kept g1 (own_ne h.own h.cur hne)
  have hn : ∀ {B' : Nat} {v : Value} {xs : List α}, K.Own B' w1 v xs → K.Own B' (w1.setCell ⟨g, Ts.length, none⟩ (rowH T1)) v xs := fun {B' v xs} hs => hs.oth (by
    have := own_ne hs ho1 (Ne.symm hne)
    simpa [Value.ownBlock] using this)
  refine ⟨?_, h.len, fun q a b => ⟨hn ((h.old q a b).1.kept g1 ?_), (h.old q a b).2⟩, hn o1, h.bi⟩
  · have := ho1.put1N (j := Ts.length) (by simpa using hN) (by omega) hk T1 _ (he T1)
    rwa [List.set_append_right _ _ (Nat.le_refl _), Nat.sub_self, List.set_cons_zero] at this
  · cases hr : (rowH Ts[q]).ownBlock with
    | none => exact .inl rfl
    | some r =>
      refine .inr fun e => ?_
      have h1 := (h.old q a b).2 r hr
      have h2 := (h.cur.lt r e.symm).1
      omega
/-- One more row, empty as yet. -/
theorem RowsM.new {B Bi : Nat} {w w1 : World} {v v' : Value} {Ts : List RowH} {T : RowH} {xss : List (List α)} {ys : List α} (h : RowsM O K B Bi w v Ts T xss ys) (hne : O.ty ≠ K.ty) (g1 : w.grownBy w1 v.ownBlock) (o1 : O.Own B w1 v' ((Ts ++ [T]) ++ [(none, 0, 0)])) (hB : B ≤ w.heap.size) :
    RowsM O K B w.heap.size w1 v' (Ts ++ [T]) (none, 0, 0) (xss ++ [ys]) [] := by
  refine ⟨o1, by simp [h.len], fun q a b => ?_, EK.Own.nil _ _, hB⟩
  by_cases hq : q < Ts.length
  · have hq' : q < xss.length := by rw [← h.len]; exact hq
    rw [List.getElem_append_left hq']
    have e : (Ts ++ [T])[q] = Ts[q] := List.getElem_append_left hq
    rw [e]
    have ho := (h.old q hq hq').1
    exact ⟨ho.kept g1 (own_ne ho h.own (Ne.symm hne)), fun r hr => (ho.lt r hr).2⟩
  · have e : q = Ts.length := by
      simp only [List.length_append, List.length_singleton] at a
      omega
    subst e
    have h2 : Ts.length - xss.length = 0 := by rw [h.len]; omega
    have e1 : (Ts ++ [T])[Ts.length] = T := by simp
    rw [e1, List.getElem_append_right (by rw [h.len]; exact Nat.le_refl _)]
    simp only [h2, List.getElem_cons_zero]
    have ho := h.cur.mono h.bi
    exact ⟨ho.kept g1 (own_ne ho h.own (Ne.symm hne)), fun r hr => (ho.lt r hr).2⟩
theorem RowsM.first {B : Nat} {w w1 : World} {v' : Value} (o1 : O.Own B w1 v' ([] ++ [(none, 0, 0)])) (hB : B ≤ w.heap.size) : RowsM O K B w.heap.size w1 v' [] (none, 0, 0) [] [] :=
  ⟨o1, rfl, fun q a _ => absurd a (by simp), EK.Own.nil _ _, hB⟩
end
end Go.Proofs.YtkjgcmdabelohaaGreat

namespace Go.Proofs.YtkjgcmdabelohaaGreat
open Go.RowKit

def rowsK : EK RowH := ⟨91, 88, 1, fun x => [.slice x.1 x.2.1 x.2.2], .slice none 0 0, 24, Tryz.underlying88, by kernel_rfl, rfl, by decide, by decide, fun _ => rfl, by simp [Value.oneCell']⟩
theorem rows_ne : rowsK.ty ≠ boolK.ty := by decide
end Go.Proofs.YtkjgcmdabelohaaGreat

namespace Go.Proofs.YtkjgcmdabelohaaGreat
open Go.RowKit Go.ChangeMaps

section
variable {κ ε : Type} [DecidableEq κ]

/-- An entry: its key, its element, and when it was laid. -/
def entM (key : κ → Value) (val : ε → Value) (e : κ × ε × Nat) : MapEntry := { key := key e.1, val := val e.2.1, born := e.2.2 }
def findM (val : ε → Value) (a : κ) : List (κ × ε × Nat) → Nat → Option (Nat × Value)
  | [], _ => none
  | e :: es, i => if a = e.1 then some (i, val e.2.1) else findM val a es (i + 1)
def lookM (z : ε) (a : κ) : List (κ × ε × Nat) → ε
  | [] => z
  | e :: es => if a = e.1 then e.2.1 else lookM z a es
def setM (a : κ) (v : ε) (clock : Nat) : List (κ × ε × Nat) → List (κ × ε × Nat)
  | [] => [(a, v, clock)]
  | e :: es => if a = e.1 then (e.1, v, e.2.2) :: es else e :: setM a v clock es
def hasM (a : κ) (es : List (κ × ε × Nat)) : Bool := es.any fun e => decide (a = e.1)
def updM' (m : κ → ε) (a : κ) (v : ε) (b : κ) : ε := if b = a then v else m b
theorem lookM_set (z : ε) (a b : κ) (v : ε) (clock : Nat) : ∀ es, lookM z b (setM a v clock es) = if b = a then v else lookM z b es
  | [] => by
    unfold setM lookM
    split <;> simp_all [lookM]
  | e :: es => by
    unfold setM
    by_cases h : a = e.1
    · rw [if_pos h]
      subst h
      unfold lookM
      by_cases hb : b = e.1
      · rw [if_pos hb, if_pos hb]
      · rw [if_neg hb, if_neg hb, if_neg hb]
    · rw [if_neg h]
      unfold lookM
      by_cases hb : b = e.1
      · rw [if_pos hb, if_neg (fun hh : b = a => h (hh.symm.trans hb)), if_pos hb]
      · rw [if_neg hb, if_neg hb, lookM_set z a b v clock es]
theorem findM_look (val : ε → Value) (z : ε) (a : κ) : ∀ (es : List (κ × ε × Nat)) (i : Nat), (findM val a es i = none ∧ lookM z a es = z) ∨ ∃ j, findM val a es i = some (j, val (lookM z a es))
  | [], i => .inl ⟨rfl, rfl⟩
  | e :: es, i => by
    unfold findM lookM
    by_cases h : a = e.1
    · rw [if_pos h, if_pos h]
      exact .inr ⟨i, rfl⟩
    · rw [if_neg h, if_neg h]
      exact findM_look val z a es (i + 1)
theorem findM_some (val : ε → Value) (a : κ) (v : ε) (clock : Nat) : ∀ (es : List (κ × ε × Nat)) (i : Nat) {j : Nat} {x : Value}, findM val a es i = some (j, x) →
    ∃ k e, j = i + k ∧ es[k]? = some e ∧ a = e.1 ∧ setM a v clock es = es.set k (e.1, v, e.2.2)
  | [], i, j, x, h => by simp [findM] at h
  | e :: es, i, j, x, h => by
    unfold findM at h
    by_cases hk : a = e.1
    · rw [if_pos hk] at h
      simp only [Option.some.injEq, Prod.mk.injEq] at h
      exact ⟨0, e, by omega, rfl, hk, by rw [setM, if_pos hk]; rfl⟩
    · rw [if_neg hk] at h
      obtain ⟨k, e', h1, h2, h3, h4⟩ := findM_some val a v clock es (i + 1) h
      exact ⟨k + 1, e', by omega, by simpa using h2, h3, by rw [setM, if_neg hk, h4]; rfl⟩
theorem findM_none (val : ε → Value) (a : κ) (v : ε) (clock : Nat) : ∀ (es : List (κ × ε × Nat)) (i : Nat), findM val a es i = none → hasM a es = false ∧ setM a v clock es = es ++ [(a, v, clock)]
  | [], i, _ => ⟨rfl, rfl⟩
  | e :: es, i, h => by
    unfold findM at h
    by_cases hk : a = e.1
    · rw [if_pos hk] at h; cases h
    · rw [if_neg hk] at h
      obtain ⟨h1, h2⟩ := findM_none val a v clock es (i + 1) h
      refine ⟨?_, by rw [setM, if_neg hk, h2]; rfl⟩
      unfold hasM at h1 ⊢
      rw [List.any_cons, h1, decide_eq_false hk]
      rfl

/-- A kind of maps. -/
structure MK (κ ε : Type) [DecidableEq κ] where
  T : TypeId
  K : TypeId
  E : TypeId
  key : κ → Value
  val : ε → Value
  z : ε
  und : Tryz.prog.underlying T = some (.map K E)
  find : ∀ (w : World) (a : κ) (es : List (κ × ε × Nat)), (Instr.findKey K (key a) (es.map (entM key val))).run Tryz.prog w = .ok (findM val a es 0) w
  check : ∀ (w : World) (e : Bool) (a : κ), (Instr.checkKey e 10000 K (key a)).run Tryz.prog w = .ok () w
  bits : ∀ a, Instr.sameBits 10000 (key a) (key a) = true
  zero : ∀ w, (zeroValue E).run Tryz.prog w = .ok (val z) w

variable (G : MK κ ε)
def MK.ents (es : List (κ × ε × Nat)) : Array MapEntry := (es.map (entM G.key G.val)).toArray
/-- In block b lies a map that leads from each key to an element. -/
def MK.At (b : Nat) (m : κ → ε) (W : World) : Prop := ∃ es clock, W.heap[b]? = some (.map (G.ents es) clock) ∧ ∀ a, lookM G.z a es = m a
variable {G}
theorem MK.At.lt {b : Nat} {m : κ → ε} {W : World} (h : G.At b m W) : b < W.heap.size := by
  obtain ⟨es, clock, h1, _⟩ := h
  exact (Array.getElem?_eq_some_iff.1 h1).1
theorem MK.At.ext {b : Nat} {m : κ → ε} {W W' : World} (h : G.At b m W) (x : Ext W W') : G.At b m W' := by
  obtain ⟨es, clock, h1, h2⟩ := h
  exact ⟨es, clock, (x.bel.block b (Array.getElem?_eq_some_iff.1 h1).1).trans h1, h2⟩
theorem MK.At.but {b : Nat} {m : κ → ε} {D : List Nat} {W W' : World} (h : G.At b m W) (x : But D W W') (hb : b ∉ D) : G.At b m W' := by
  obtain ⟨es, clock, h1, h2⟩ := h
  exact ⟨es, clock, (x.block b (Array.getElem?_eq_some_iff.1 h1).1 hb).trans h1, h2⟩
theorem MK.At.new (W : World) : G.At W.heap.size (fun _ => G.z) (W.alloc (.map #[] 0)) := ⟨[], 0, heap_alloc_new W _, fun _ => rfl⟩
theorem MK.At.congr {b : Nat} {m m' : κ → ε} {W : World} (h : G.At b m W) (e : ∀ a, m a = m' a) : G.At b m' W := by
  obtain ⟨es, clock, h1, h2⟩ := h
  exact ⟨es, clock, h1, fun a => (h2 a).trans (e a)⟩
/-- m[a]. -/
theorem MK.At.look {b : Nat} {m : κ → ε} {W : World} (h : G.At b m W) (a : κ) : (Instr.lookup G.T (.map (some b)) (G.key a) false).run Tryz.prog W = .ok (G.val (m a)) W := by
  obtain ⟨es, clock, h1, h2⟩ := h
  have hf := G.find W a es
  have hg : (getObj b).run Tryz.prog W = .ok (.map (G.ents es) clock) W := by simp [getObj, Sem.run, h1]
  simp only [Instr.lookup, Sem.run_bind, run_underlying G.und, Result.andThen_ok, hg, Sem.run_pure, G.check]
  rw [show (G.ents es).toList = es.map (entM G.key G.val) by simp [MK.ents], hf, ← h2 a]
  rcases findM_look G.val G.z a es 0 with ⟨e1, e2⟩ | ⟨j, e1⟩
  · rw [e1, e2]
    simp only [Result.andThen_ok, Sem.run_bind, G.zero, Sem.run_pure]
    rfl
  · rw [e1]
    simp only [Result.andThen_ok]
    rfl
theorem modify_setM (es : List (κ × ε × Nat)) (k : Nat) (e : κ × ε × Nat) (h : es[k]? = some e) (f : MapEntry → MapEntry) (e' : κ × ε × Nat) (hf : f (entM G.key G.val e) = entM G.key G.val e') :
    (G.ents es).modify k f = G.ents (es.set k e') := by
  obtain ⟨hk, rfl⟩ := List.getElem?_eq_some_iff.1 h
  apply Array.ext
  · simp [MK.ents]
  · intro i h1 h2
    simp only [MK.ents, List.getElem_toArray, List.getElem_map, List.getElem_set, Array.getElem_modify]
    split
    · rename_i hki; subst hki; exact hf
    · rfl
theorem setBlock_selfM (w : World) (b : Nat) (o : Obj) (h : b < w.heap.size) : (setBlock w b o).heap[b]? = some o := by
  unfold setBlock
  exact Array.getElem?_setIfInBounds_self_of_lt h
theorem setBlock_but (w : World) (b : Nat) (o : Obj) : But [b] w (setBlock w b o) := by
  refine ⟨rfl, rfl, rfl, ?_, fun i hi hne => ?_⟩
  · show w.heap.size ≤ (w.heap.setIfInBounds b o).size
    rw [Array.size_setIfInBounds]
    exact Nat.le_refl _
  · show (w.heap.setIfInBounds b o)[i]? = _
    rw [Array.getElem?_setIfInBounds_ne (fun e => hne (by simp [e]))]
/-- m[a] = v. -/
theorem MK.At.put {b : Nat} {m : κ → ε} {W : World} (h : G.At b m W) (a : κ) (v : ε) : ∃ o, (Instr.mapUpdate G.T (.map (some b)) (G.key a) (G.val v)).run Tryz.prog W = .ok () (setBlock W b o) ∧ G.At b (updM' m a v) (setBlock W b o) := by
  have hlt := h.lt
  obtain ⟨es, clock, h1, h2⟩ := h
  have hf := G.find W a es
  have hg : (getObj b).run Tryz.prog W = .ok (.map (G.ents es) clock) W := by simp [getObj, Sem.run, h1]
  have hset : ∀ o', (setObj b o').run Tryz.prog W = .ok () (setBlock W b o') := fun o' => by simp [setObj, Sem.run, h1, setBlock]
  have hl : (G.ents es).toList = es.map (entM G.key G.val) := by simp [MK.ents]
  refine ⟨.map (G.ents (setM a v clock es)) (clock + if hasM a es then 0 else 1), ?_, _, _, setBlock_selfM _ _ _ hlt, fun c => by rw [lookM_set, h2]; rfl⟩
  simp only [Instr.mapUpdate, Sem.run_bind, run_underlying G.und, Result.andThen_ok, hg, G.check]
  rw [hl, hf]
  cases hr : findM G.val a es 0 with
  | none =>
    obtain ⟨e1, e2⟩ := findM_none G.val a v clock es 0 hr
    simp only [Result.andThen_ok, hset, e1, e2, Bool.false_eq_true, if_false]
    simp [MK.ents, entM]
  | some p =>
    obtain ⟨j, x⟩ := p
    obtain ⟨k, e, hj, hk, ha, hs⟩ := findM_some G.val a v clock es 0 hr
    obtain rfl : j = k := by omega
    have hh : hasM a es = true := by
      simp only [hasM, List.any_eq_true]
      exact ⟨e, List.mem_of_getElem? hk, by simp [ha]⟩
    have hkey : (((G.ents es)[j]?).map (·.key)).getD (G.key a) = G.key a := by
      simp only [MK.ents, List.getElem?_toArray, List.getElem?_map, hk, Option.map_some, Option.getD_some]
      rw [ha]
      rfl
    have hstay : (Instr.keyThatStays (G.key a) (G.key a)).run Tryz.prog W = .ok (G.key a) W := by
      simp [Instr.keyThatStays, G.bits]
    simp only [Result.andThen_ok, Sem.run_bind, hkey, hstay, hset, hh, if_true, Nat.add_zero]
    rw [hs, modify_setM es j e hk _ (e.1, v, e.2.2) (by simp [entM, ha])]
end

/-- Keys that are numbers. -/
theorem find_intM {ε : Type} (K : TypeId) (hK : Tryz.prog.underlying K = some (.int .i64)) (val : ε → Value) (w : World) (a : Int) (es : List (Int × ε × Nat)) : (Instr.findKey K (.int .i64 a) (es.map (entM (Value.int .i64) val))).run Tryz.prog w = .ok (findM val a es 0) w := by
  have h : ∀ (es : List (Int × ε × Nat)) (i : Nat), Instr.findNow (.int .i64) (.int .i64 a) (es.map (entM (Value.int .i64) val)) i = some (findM val a es i) := by
    intro es
    induction es with
    | nil => intro i; rfl
    | cons e es ih =>
      intro i
      rw [List.map_cons]
      unfold Instr.findNow findM
      show (match (if IntKind.i64 = IntKind.i64 then some (a == e.1) else none) with | some true => _ | some false => _ | none => _) = _
      rw [if_pos rfl]
      by_cases hk : a = e.1
      · rw [if_pos hk, show (a == e.1) = true by simpa using hk]
        rfl
      · rw [if_neg hk, show (a == e.1) = false by simpa using hk]
        exact ih (i + 1)
  simp only [Instr.findKey, Sem.run_bind, run_underlying hK, Result.andThen_ok, h]
  rfl
theorem check_intM (K : TypeId) (hK : Tryz.prog.underlying K = some (.int .i64)) (w : World) (e : Bool) (a : Int) : (Instr.checkKey e 10000 K (.int .i64 a)).run Tryz.prog w = .ok () w := by
  show (Instr.checkKey e (9999 + 1) K (.int .i64 a)).run Tryz.prog w = _
  unfold Instr.checkKey
  simp [run_underlying hK]
end Go.Proofs.YtkjgcmdabelohaaGreat

namespace Go.Proofs.YtkjgcmdabelohaaGreat
open Go.RowKit Go.ChangeMaps
set_option linter.unusedSectionVars false

section
variable {κ ε : Type} [DecidableEq κ] [DecidableEq ε]
/-- The map leads from each key to an element; only keys with an element other than zero are in it. -/
structure PtE (G : MK κ ε) (m : κ → ε) (es : List (κ × ε × Nat)) (clock : Nat) : Prop where
  look : ∀ a, lookM G.z a es = m a
  full : ∀ e ∈ es, m e.1 ≠ G.z
  born : (es.map fun e => e.2.2).Nodup
  old : ∀ e ∈ es, e.2.2 < clock
  vals : ∀ e ∈ es, m e.1 = e.2.1
  keys : (es.map fun e => e.1).Nodup
def MK.Pt (G : MK κ ε) (b : Nat) (m : κ → ε) (W : World) : Prop := ∃ es clock, W.heap[b]? = some (.map (G.ents es) clock) ∧ PtE G m es clock
variable {G : MK κ ε}
theorem nodup_inj {α β : Type} {f : α → β} : ∀ {l : List α}, (l.map f).Nodup → ∀ {x y : α}, x ∈ l → y ∈ l → f x = f y → x = y
  | [], _, _, _, hx, _, _ => by simp at hx
  | a :: l, hn, x, y, hx, hy, h => by
    rw [List.map_cons, List.nodup_cons] at hn
    rcases List.mem_cons.1 hx with e | hx <;> rcases List.mem_cons.1 hy with e2 | hy
    · rw [e, e2]
    · exact absurd (List.mem_map.2 ⟨y, hy, by rw [← h, e]⟩) hn.1
    · exact absurd (List.mem_map.2 ⟨x, hx, by rw [h, e2]⟩) hn.1
    · exact nodup_inj hn.2 hx hy h
theorem MK.Pt.at {b : Nat} {m : κ → ε} {W : World} (h : G.Pt b m W) : G.At b m W := by
  obtain ⟨es, ck, h1, h2⟩ := h
  exact ⟨es, ck, h1, h2.look⟩
theorem MK.Pt.lt {b : Nat} {m : κ → ε} {W : World} (h : G.Pt b m W) : b < W.heap.size := h.at.lt
theorem MK.Pt.ext {b : Nat} {m : κ → ε} {W W' : World} (h : G.Pt b m W) (x : Ext W W') : G.Pt b m W' := by
  obtain ⟨es, ck, h1, h2⟩ := h
  exact ⟨es, ck, (x.bel.block b (Array.getElem?_eq_some_iff.1 h1).1).trans h1, h2⟩
theorem MK.Pt.but {b : Nat} {m : κ → ε} {D : List Nat} {W W' : World} (h : G.Pt b m W) (x : But D W W') (hb : b ∉ D) : G.Pt b m W' := by
  obtain ⟨es, ck, h1, h2⟩ := h
  exact ⟨es, ck, (x.block b (Array.getElem?_eq_some_iff.1 h1).1 hb).trans h1, h2⟩
theorem MK.Pt.new (W : World) : G.Pt W.heap.size (fun _ => G.z) (W.alloc (.map #[] 0)) := ⟨[], 0, heap_alloc_new W _, fun _ => rfl, by simp, by simp, by simp, by simp, by simp⟩
theorem MK.Pt.congr {b : Nat} {m m' : κ → ε} {W : World} (h : G.Pt b m W) (e : ∀ a, m a = m' a) : G.Pt b m' W := by
  obtain rfl : m = m' := funext e
  exact h
theorem lookM_none {z : ε} {a : κ} : ∀ {es : List (κ × ε × Nat)}, hasM a es = false → lookM z a es = z
  | [], _ => rfl
  | e :: es, h => by
    unfold hasM at h
    rw [List.any_cons, Bool.or_eq_false_iff] at h
    unfold lookM
    rw [if_neg (of_decide_eq_false h.1)]
    exact lookM_none (es := es) h.2
theorem hasM_iff {a : κ} {es : List (κ × ε × Nat)} : hasM a es = true ↔ ∃ e ∈ es, a = e.1 := by
  unfold hasM
  rw [List.any_eq_true]
  constructor
  · rintro ⟨e, he, h⟩; exact ⟨e, he, of_decide_eq_true h⟩
  · rintro ⟨e, he, h⟩; exact ⟨e, he, decide_eq_true h⟩
theorem PtE.has {m : κ → ε} {es : List (κ × ε × Nat)} {ck : Nat} (h : PtE G m es ck) (a : κ) : hasM a es = true ↔ m a ≠ G.z := by
  constructor
  · intro hh
    obtain ⟨e, he, rfl⟩ := hasM_iff.1 hh
    exact h.full e he
  · intro hm
    rcases hh : hasM a es with _ | _
    · exact absurd ((h.look a).symm.trans (lookM_none hh)) hm
    · rfl
theorem findM_hasM (val : ε → Value) (a : κ) : ∀ (es : List (κ × ε × Nat)) (i : Nat), findM val a es i = none ↔ hasM a es = false
  | [], i => by simp [findM, hasM]
  | e :: es, i => by
    unfold findM hasM
    rw [List.any_cons]
    by_cases h : a = e.1
    · rw [if_pos h, decide_eq_true h]
      simp
    · rw [if_neg h, decide_eq_false h, Bool.false_or]
      exact findM_hasM val a es (i + 1)
/-- v, ok := m[a]. -/
theorem MK.Pt.lookOk {b : Nat} {m : κ → ε} {W : World} (h : G.Pt b m W) (a : κ) : (Instr.lookup G.T (.map (some b)) (G.key a) true).run Tryz.prog W = .ok (.tuple #[G.val (m a), .bool (decide (m a ≠ G.z))]) W := by
  obtain ⟨es, clock, h1, h2⟩ := h
  have hf := G.find W a es
  have hg : (getObj b).run Tryz.prog W = .ok (.map (G.ents es) clock) W := by simp [getObj, Sem.run, h1]
  simp only [Instr.lookup, Sem.run_bind, run_underlying G.und, Result.andThen_ok, hg, Sem.run_pure, G.check]
  rw [show (G.ents es).toList = es.map (entM G.key G.val) by simp [MK.ents], hf, ← h2.look a]
  have hh := h2.has a
  have hn := findM_hasM G.val a es 0
  rcases findM_look G.val G.z a es 0 with ⟨e1, e2⟩ | ⟨j, e1⟩
  · rw [e1, e2]
    simp only [Result.andThen_ok, Sem.run_bind, G.zero, Sem.run_pure]
    simp
  · rw [e1]
    have h3 : lookM G.z a es ≠ G.z := by
      rw [h2.look a]
      refine hh.1 ?_
      rcases hq : hasM a es with _ | _
      · rw [hn.2 hq] at e1; cases e1
      · rfl
    simp only [Result.andThen_ok]
    simp [h3]
theorem setM_new (a : κ) (v : ε) (ck : Nat) : ∀ {es : List (κ × ε × Nat)}, hasM a es = false → setM a v ck es = es ++ [(a, v, ck)]
  | [], _ => rfl
  | e :: es, h => by
    unfold hasM at h
    rw [List.any_cons, Bool.or_eq_false_iff] at h
    unfold setM
    rw [if_neg (of_decide_eq_false h.1), setM_new a v ck (es := es) h.2]
    rfl
theorem setM_old (a : κ) (v : ε) (ck : Nat) : ∀ {es : List (κ × ε × Nat)}, (es.map fun e => e.1).Nodup → hasM a es = true → setM a v ck es = es.map fun e => if e.1 = a then (a, v, e.2.2) else e
  | [], _, h => by simp [hasM] at h
  | e :: es, hn, h => by
    rw [List.map_cons, List.nodup_cons] at hn
    unfold setM
    by_cases hk : a = e.1
    · rw [if_pos hk, List.map_cons, if_pos hk.symm, ← hk]
      have : (es.map fun x => if x.1 = a then (a, v, x.2.2) else x) = es := by
        rw [List.map_congr_left (g := id) fun x hx => ?_, List.map_id]
        rw [if_neg]
        · rfl
        · intro hxa
          exact hn.1 (List.mem_map.2 ⟨x, hx, hxa.trans hk⟩)
      rw [this]
    · rw [if_neg hk, List.map_cons, if_neg (fun h' => hk h'.symm)]
      unfold hasM at h
      rw [List.any_cons, decide_eq_false hk, Bool.false_or] at h
      rw [setM_old a v ck (es := es) hn.2 h]
theorem PtE.put {m : κ → ε} {es : List (κ × ε × Nat)} {ck : Nat} (h : PtE G m es ck) (a : κ) {v : ε} (hv : v ≠ G.z) : PtE G (updM' m a v) (setM a v ck es) (ck + if hasM a es then 0 else 1) := by
  have hl : ∀ b, lookM G.z b (setM a v ck es) = updM' m a v b := fun b => by rw [lookM_set, h.look]; rfl
  rcases hh : hasM a es with _ | _
  · rw [setM_new a v ck hh] at hl ⊢
    have hne : ∀ e ∈ es, e.1 ≠ a := fun e he e' => by
      have := hasM_iff.2 ⟨e, he, e'.symm⟩
      rw [hh] at this; cases this
    refine ⟨hl, fun e he => ?_, ?_, fun e he => ?_, fun e he => ?_, ?_⟩
    · rcases List.mem_append.1 he with he | he
      · unfold updM'; rw [if_neg (hne e he)]; exact h.full e he
      · obtain rfl := List.mem_singleton.1 he
        unfold updM'; rw [if_pos rfl]; exact hv
    · rw [List.map_append, List.nodup_append]
      refine ⟨h.born, by simp, fun x hx y hy => ?_⟩
      obtain ⟨e, he, rfl⟩ := List.mem_map.1 hx
      obtain rfl : y = ck := by simpa using hy
      exact Nat.ne_of_lt (h.old e he)
    · rcases List.mem_append.1 he with he | he
      · have := h.old e he; simp; omega
      · obtain rfl := List.mem_singleton.1 he
        simp
    · rcases List.mem_append.1 he with he | he
      · unfold updM'; rw [if_neg (hne e he)]; exact h.vals e he
      · obtain rfl := List.mem_singleton.1 he
        unfold updM'; rw [if_pos rfl]
    · rw [List.map_append, List.nodup_append]
      refine ⟨h.keys, by simp, fun x hx y hy => ?_⟩
      obtain ⟨e, he, rfl⟩ := List.mem_map.1 hx
      obtain rfl : y = a := by simpa using hy
      exact hne e he
  · rw [setM_old a v ck h.keys hh] at hl ⊢
    have hb : ((es.map fun e => if e.1 = a then (a, v, e.2.2) else e).map fun e => e.2.2) = es.map fun e => e.2.2 := by
      rw [List.map_map]
      refine List.map_congr_left fun x _ => ?_
      show (if x.1 = a then (a, v, x.2.2) else x).2.2 = x.2.2
      split <;> rfl
    have hk : ((es.map fun e => if e.1 = a then (a, v, e.2.2) else e).map fun e => e.1) = es.map fun e => e.1 := by
      rw [List.map_map]
      refine List.map_congr_left fun x _ => ?_
      show (if x.1 = a then (a, v, x.2.2) else x).1 = x.1
      split
      · rename_i hx; exact hx.symm
      · rfl
    refine ⟨hl, fun e he => ?_, hb ▸ h.born, fun e he => ?_, fun e he => ?_, hk ▸ h.keys⟩
    all_goals
      obtain ⟨x, hx, rfl⟩ := List.mem_map.1 he
      by_cases hxa : x.1 = a
    · rw [if_pos hxa]; unfold updM'; rw [if_pos rfl]; exact hv
    · rw [if_neg hxa]; unfold updM'; rw [if_neg hxa]; exact h.full x hx
    · rw [if_pos hxa]; exact h.old x hx
    · rw [if_neg hxa]; exact h.old x hx
    · rw [if_pos hxa]; unfold updM'; rw [if_pos rfl]
    · rw [if_neg hxa]; unfold updM'; rw [if_neg hxa]; exact h.vals x hx
theorem put_runM {b : Nat} {W : World} {es : List (κ × ε × Nat)} {clock : Nat} (h1 : W.heap[b]? = some (.map (G.ents es) clock)) (a : κ) (v : ε) :
    (Instr.mapUpdate G.T (.map (some b)) (G.key a) (G.val v)).run Tryz.prog W = .ok () (setBlock W b (.map (G.ents (setM a v clock es)) (clock + if hasM a es then 0 else 1))) := by
  have hf := G.find W a es
  have hg : (getObj b).run Tryz.prog W = .ok (.map (G.ents es) clock) W := by simp [getObj, Sem.run, h1]
  have hset : ∀ o', (setObj b o').run Tryz.prog W = .ok () (setBlock W b o') := fun o' => by simp [setObj, Sem.run, h1, setBlock]
  have hl : (G.ents es).toList = es.map (entM G.key G.val) := by simp [MK.ents]
  simp only [Instr.mapUpdate, Sem.run_bind, run_underlying G.und, Result.andThen_ok, hg, G.check]
  rw [hl, hf]
  cases hr : findM G.val a es 0 with
  | none =>
    obtain ⟨e1, e2⟩ := findM_none G.val a v clock es 0 hr
    simp only [Result.andThen_ok, hset, e1, e2, Bool.false_eq_true, if_false]
    simp [MK.ents, entM]
  | some p =>
    obtain ⟨j, x⟩ := p
    obtain ⟨k, e, hj, hk, ha, hs⟩ := findM_some G.val a v clock es 0 hr
    obtain rfl : j = k := by omega
    have hh : hasM a es = true := by
      simp only [hasM, List.any_eq_true]
      exact ⟨e, List.mem_of_getElem? hk, by simp [ha]⟩
    have hkey : (((G.ents es)[j]?).map (·.key)).getD (G.key a) = G.key a := by
      simp only [MK.ents, List.getElem?_toArray, List.getElem?_map, hk, Option.map_some, Option.getD_some]
      rw [ha]
      rfl
    have hstay : (Instr.keyThatStays (G.key a) (G.key a)).run Tryz.prog W = .ok (G.key a) W := by
      simp [Instr.keyThatStays, G.bits]
    simp only [Result.andThen_ok, Sem.run_bind, hkey, hstay, hset, hh, if_true, Nat.add_zero]
    rw [hs, modify_setM es j e hk _ (e.1, v, e.2.2) (by simp [entM, ha])]
/-- m[a] = v. -/
theorem MK.Pt.put {b : Nat} {m : κ → ε} {W : World} (h : G.Pt b m W) (a : κ) {v : ε} (hv : v ≠ G.z) : ∃ o, (Instr.mapUpdate G.T (.map (some b)) (G.key a) (G.val v)).run Tryz.prog W = .ok () (setBlock W b o) ∧ G.Pt b (updM' m a v) (setBlock W b o) := by
  have hlt := h.lt
  obtain ⟨es, clock, h1, h2⟩ := h
  exact ⟨_, put_runM h1 a v, _, _, setBlock_selfM _ _ _ hlt, h2.put a hv⟩

/-- A range over the map under way: 'seen': the keys that have come out. -/
def MK.Rg (G : MK κ ε) (b r : Nat) (m : κ → ε) (S : κ → Bool) (W : World) : Prop := ∃ es ck seen, W.heap[r]? = some (.mapIter (some b) ck seen ck) ∧ W.heap[b]? = some (.map (G.ents es) ck) ∧ PtE G m es ck ∧ ∀ e ∈ es, S e.1 = seen.contains e.2.2
theorem MK.Rg.pt {b r : Nat} {m : κ → ε} {S : κ → Bool} {W : World} (h : G.Rg b r m S W) : G.Pt b m W := by
  obtain ⟨es, ck, seen, _, h1, h2, _⟩ := h
  exact ⟨es, ck, h1, h2⟩
theorem MK.Rg.ext {b r : Nat} {m : κ → ε} {S : κ → Bool} {W W' : World} (h : G.Rg b r m S W) (x : Ext W W') : G.Rg b r m S W' := by
  obtain ⟨es, ck, seen, h0, h1, h2⟩ := h
  exact ⟨es, ck, seen, (x.bel.block r (Array.getElem?_eq_some_iff.1 h0).1).trans h0, (x.bel.block b (Array.getElem?_eq_some_iff.1 h1).1).trans h1, h2⟩
theorem ents_mem {es : List (κ × ε × Nat)} {x : MapEntry} (h : x ∈ (G.ents es).toList) : ∃ e ∈ es, x = entM G.key G.val e := by
  simp only [MK.ents, List.mem_map] at h
  obtain ⟨e, he, rfl⟩ := h
  exact ⟨e, he, rfl⟩
theorem ents_born (es : List (κ × ε × Nat)) : (G.ents es).toList.map (·.born) = es.map fun e => e.2.2 := by simp [MK.ents, entM, Function.comp_def]
section
variable {w : World} {ops : Array Oper} {rest : List Oper} {o : Oper} {a : Act} {Q : Exit → Act → World → Prop}
theorem wpList_rangeM (hg : o.guard = none) (mm : Operand) (hop : o.op = Op.range G.T mm) {M : Nat} {m : κ → ε} (hm : a.eval mm = .map (some M)) (hb : G.Pt M m w)
    (hK : ∀ w', Ext w w' → G.Rg M w.heap.size m (fun _ => false) w' → w'.heap.size = w.heap.size + 1 → wpList Tryz.prog ops Q rest (a.put o.dst (.pointer (some ⟨w.heap.size, 0, none⟩))) w') :
    wpList Tryz.prog ops Q (o :: rest) a w := by
  obtain ⟨es, ck, h1, h2⟩ := hb
  refine wpList_plain hg fun K' hK' => ?_
  have hrun := run_range_map (P := Tryz.prog) w G.T _ _ M (G.ents es) ck G.und h1
  unfold Oper.wp
  simp [execOp, hop, hm, hrun, Result.andThen]
  refine hK' _ _ (hK _ ((Ext.refl w).alloc _) ⟨es, ck, #[], heap_alloc_new w _, ?_, h2, fun e _ => by simp⟩ (by simp))
  rw [heap_alloc_old w _ (Array.getElem?_eq_some_iff.1 h1).1]
  exact h1
theorem wpList_nextM (hg : o.guard = none) (it : Operand) (hop : o.op = Op.next it false) {M r : Nat} {m : κ → ε} {S : κ → Bool} (hit : a.eval it = .pointer (some ⟨r, 0, none⟩)) (h : G.Rg M r m S w)
    (hDone : (∀ x, m x ≠ G.z → S x = true) → wpList Tryz.prog ops Q rest (a.put o.dst (.tuple #[.bool false])) w)
    (hMore : ∀ x, m x ≠ G.z → S x = false → ∀ w', w.grownBy w' (some r) → w'.heap.size = w.heap.size → G.Rg M r m (fun y => decide (y = x) || S y) w' → w'.rangeLeft M r < w.rangeLeft M r →
      (Instr.entry (.pointer (some ⟨r, 0, none⟩))).run Tryz.prog w' = .ok (.tuple #[G.key x, G.val (m x)]) w' → wpList Tryz.prog ops Q rest (a.put o.dst (.tuple #[.bool true, G.key x, G.val (m x)])) w') :
    wpList Tryz.prog ops Q (o :: rest) a w := by
  obtain ⟨es, ck, seen, hr, hb, hp, hS⟩ := h
  refine wpList_plain hg fun K' hK' => ?_
  unfold Oper.wp
  have hold : ∀ x ∈ (G.ents es).toList, x.born < ck := fun x hx => by
    obtain ⟨e, he, rfl⟩ := ents_mem hx
    exact hp.old e he
  rcases run_next_at (P := Tryz.prog) w o.type r M ck ck seen (G.ents es) ck hr hb hold (Nat.le_refl _) with ⟨h0, hrun⟩ | ⟨x, hx, w1, hw1, hrun⟩
  · simp [execOp, hop, hit, hrun, Result.andThen]
    refine hK' _ _ (hDone fun y hy => ?_)
    obtain ⟨e, he, rfl⟩ := hasM_iff.1 ((hp.has y).2 hy)
    rw [hS e he]
    exact all_seen (G.ents es) seen h0 (entM G.key G.val e) (by simp only [MK.ents, List.mem_map]; exact ⟨e, he, rfl⟩)
  · obtain ⟨hx1, hx2⟩ := mem_left hx
    obtain ⟨e, he, rfl⟩ := ents_mem hx1
    simp [execOp, hop, hit, hrun, Result.andThen]
    have hr1 : w1.heap[r]? = some (.mapIter (some M) ck seen ck) := by rcases hw1 with rfl | rfl <;> exact hr
    have hb1 : w1.heap[M]? = some (.map (G.ents es) ck) := by rcases hw1 with rfl | rfl <;> exact hb
    have hlt := (Array.getElem?_eq_some_iff.1 hr1).1
    have hne : r ≠ M := fun e => by rw [e, hb1] at hr1; cases hr1
    have hr' : (setBlock w1 r (.mapIter (some M) ck (seen.push e.2.2) ck)).heap[r]? = some (.mapIter (some M) ck (seen.push e.2.2) ck) := Array.getElem?_setIfInBounds_self_of_lt hlt
    have hb' : (setBlock w1 r (.mapIter (some M) ck (seen.push e.2.2) ck)).heap[M]? = some (.map (G.ents es) ck) := by
      show (w1.heap.setIfInBounds r _)[M]? = _
      rw [Array.getElem?_setIfInBounds_ne hne]; exact hb1
    have hsz : (setBlock w1 r (.mapIter (some M) ck (seen.push e.2.2) ck)).heap.size = w.heap.size := by
      show (w1.heap.setIfInBounds r _).size = _
      rw [Array.size_setIfInBounds]
      rcases hw1 with rfl | rfl <;> rfl
    have hv := hp.vals e he
    have hK2 := hMore e.1 (hp.full e he) ((hS e he).trans hx2) (setBlock w1 r (.mapIter (some M) ck (seen.push e.2.2) ck))
    rw [hv] at hK2
    refine hK' _ _ (hK2 ⟨?_, ?_, ?_, Nat.le_of_eq hsz.symm, fun i hi hi' => ?_⟩ hsz ⟨es, ck, _, hr', hb', hp, fun e2 he2 => ?_⟩ ?_ ?_)
    · rcases hw1 with rfl | rfl <;> rfl
    · rcases hw1 with rfl | rfl <;> rfl
    · rcases hw1 with rfl | rfl <;> rfl
    · show (w1.heap.setIfInBounds r _)[i]? = _
      rw [Array.getElem?_setIfInBounds_ne (fun e => hi' (by rw [e]))]
      rcases hw1 with rfl | rfl <;> rfl
    · show (decide (e2.1 = e.1) || S e2.1) = _
      rw [contains_push, hS e2 he2]
      have hiff : (e2.1 = e.1) ↔ (e2.2.2 = e.2.2) := by
        constructor
        · intro hq
          exact congrArg (fun x : κ × ε × Nat => x.2.2) (nodup_inj hp.keys he2 he hq)
        · intro hq
          exact congrArg (fun x : κ × ε × Nat => x.1) (nodup_inj hp.born he2 he hq)
      rw [Bool.or_comm]
      congr 1
      by_cases hq : e2.1 = e.1
      · rw [decide_eq_true hq]; simpa using hiff.1 hq
      · rw [decide_eq_false hq]; simpa using fun h' => hq (hiff.2 h')
    · unfold World.rangeLeft
      rw [hr', hb', hr, hb]
      exact left_shrinks (G.ents es) seen (entM G.key G.val e) hx
    · exact run_entry_at _ r M ck seen (G.ents es) ck (entM G.key G.val e) hr' hb' hx1 (by rw [ents_born]; exact hp.born)
end
end
end Go.Proofs.YtkjgcmdabelohaaGreat
