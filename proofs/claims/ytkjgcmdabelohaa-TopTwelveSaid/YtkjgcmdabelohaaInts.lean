/- Slices of ints that the call made itself, and those that came in. No condition. -/
import Derived.Test.YtkjgcmdabelohaaLay
import Derived.OwnWalk
import Derived.Test.YtkjgcmdabelohaaProg
import Derived.Laws.AppendOwnNone
namespace Go.Proofs.Ytkjgcmdabelohaa
open Go.RowKit

theorem Ext.below {W w w' : World} {B : Nat} (h : Ext W w) (hb : Below B w w') (hB : W.heap.size ≤ B) : Ext W w' := .of (h.bel.trans (hb.mono hB))
theorem Ext.grow {w w' : World} (h : Ext w w') (row : Option Nat) : w.grownBy w' row := ⟨h.bel.os, h.bel.tape, h.bel.output, h.bel.size, fun k hk _ => h.bel.block k hk⟩
theorem Ext.le {W w : World} (h : Ext W w) {n : Nat} (hn : n ≤ W.heap.size) : n ≤ w.heap.size := Nat.le_trans hn h.bel.size

/-- v is a slice of ints that reads as zs, and its cells are the call's own: they lie in a block from B on. -/
def OwnI (B : Nat) (w : World) (v : Value) (zs : List Int) : Prop := w.ownsRow B 3 1 v zs.length (zs.map (Value.int .i64))
/-- v is a slice of ints that reads as zs. -/
def IsI (w : World) (v : Value) (zs : List Int) : Prop := ∃ A c, v = .slice A zs.length c ∧ (A = none → c = 0) ∧ (zs.length ≤ c ∧ c ≤ maxLen) ∧ RowI w A zs.length zs

theorem IsI.ext {w w' : World} {v : Value} {zs : List Int} (h : IsI w v zs) (hx : Ext w w') : IsI w' v zs := by
  obtain ⟨A, c, rfl, h0, hc, hr⟩ := h
  exact ⟨A, c, rfl, h0, hc, hr.ext hx⟩
theorem IsI.of_row {w : World} {A : Option Addr} {n c : Nat} {zs : List Int} (h0 : A = none → c = 0) (hc : n ≤ c) (hm : c ≤ maxLen) (h : RowI w A n zs) : IsI w (.slice A n c) zs := by
  obtain rfl := h.len
  exact ⟨A, c, rfl, h0, ⟨hc, hm⟩, h⟩
theorem OwnI.nil (B : Nat) (w : World) : OwnI B w (.slice none 0 0) [] := World.ownsRow_nil w B _ 1
theorem OwnI.ext {B : Nat} {w w' : World} {v : Value} {zs : List Int} (h : OwnI B w v zs) (hx : Ext w w') : OwnI B w' v zs :=
  World.ownsRow.kept h (hx.grow none) (by cases v.ownBlock <;> simp)
theorem OwnI.mono {B B' : Nat} {w : World} {v : Value} {zs : List Int} (h : OwnI B w v zs) (hB : B' ≤ B) : OwnI B' w v zs := by
  refine ⟨h.1, ?_⟩
  rcases h.2 with hn | ⟨g, cap, cur, hv, hb, rest⟩
  · exact .inl hn
  · exact .inr ⟨g, cap, cur, hv, Nat.le_trans hB hb, rest⟩
theorem OwnI.isI {B : Nat} {w : World} {v : Value} {zs : List Int} (h : OwnI B w v zs) : IsI w v zs := by
  rcases h.2 with ⟨rfl, h0⟩ | ⟨g, cap, cur, rfl, hb, hg, hn, hm, hs, ht⟩
  · exact ⟨none, 0, by rw [h0], fun _ => rfl, ⟨by omega, by omega⟩, ⟨rfl, by omega, fun k hk => by omega⟩⟩
  · refine ⟨_, cap, rfl, by simp, ⟨hn, hm⟩, ⟨rfl, by omega, fun k hk => ⟨g, 0, rfl, (Array.getElem?_eq_some_iff.1 hg).1, ?_⟩⟩⟩
    have := World.ownsRow.cells h (g := g) rfl k (.int .i64 (zs[k]?.getD 0)) (by simp [List.getElem?_eq_getElem hk])
    simp only [Addr.add] at this
    split at this <;> simp_all
theorem IsI.len {w : World} {v : Value} {zs : List Int} (h : IsI w v zs) : zs.length ≤ maxLen := by
  obtain ⟨A, c, rfl, _, _, hr⟩ := h
  exact hr.max
theorem OwnI.made (B : Nat) (w : World) (cap : Nat) (hb : B ≤ w.heap.size) (cur : Array Value) (hm : cap ≤ maxLen) (hs : cur.size = cap) :
    OwnI B (w.alloc (.cells cur 3)) (.slice (some ⟨w.heap.size, 0, none⟩) 0 cap) [] := World.ownsRow_made w cur cap hb hm (by omega)

theorem IsI.open_ {w : World} {v : Value} {zs : List Int} (h : IsI w v zs) : ∃ A n c, v = .slice A n c ∧ (A = none → c = 0) ∧ RowI w A n zs ∧ n ≤ 9223372036854775807 := by
  obtain ⟨A, c, rfl, h0, _, hr⟩ := h
  exact ⟨A, _, c, rfl, h0, hr, by have := hr.max; simpa [maxLen] using this⟩

theorem IsI.caps {w : World} {A : Option Addr} {n c : Nat} {zs : List Int} (h : IsI w (.slice A n c) zs) : n ≤ c ∧ c ≤ 9223372036854775807 := by
  obtain ⟨_, _, he, _, hc, _⟩ := h
  cases he
  simpa [maxLen] using hc

theorem intInfo : (Try.prog.info? 3).map (fun i => (i.zero, i.size, i.bytes)) = some (some (.int .i64 0), 1, 8) := by kernel_rfl

theorem app_one {w : World} {ops : Array Oper} {rest : List Oper} {o : Oper} {a : Act} {Q : Exit → Act → World → Prop} (hgd : o.guard = none) (s x : Operand)
    (ho : o.op = .call { callee := .builtin .append, args := #[s, x], argTypes := #[22, 22] })
    {B : Nat} {v : Value} {zs : List Int} (b c : Nat) (y : Int) (hs : a.eval s = v) (hx : a.eval x = .slice (some ⟨b, 0, none⟩) 1 c)
    (hcell : w.cell? ⟨b, 0, none⟩ = some (.int .i64 y)) (hown : OwnI B w v zs) (hB : B ≤ w.heap.size) (hlen : zs.length ≤ 1000000000)
    (h : ∀ v' w', OwnI B w' v' (zs ++ [y]) → Below B w w' → wpList Try.prog ops Q rest (a.put o.dst v') w') : wpList Try.prog ops Q (o :: rest) a w := by
  obtain ⟨i0, hi, hz0, hz1, hz2⟩ := info_parts intInfo
  refine wpList_append_own w hgd s x 22 ho B 3 i0 (.int .i64 0) 1 8 Try.underlying22 hi hz0 hz1 hz2 rfl (by decide) v _ _ hs hown ⟨b, 0, none⟩ 1 c [.int .i64 y] hx rfl (fun j u hj => ?_) (by simp [Value.oneCell']) (by simp only [maxLen]; omega) (by omega) hB (fun v' w' h1 h2 _ => h v' w' (by simpa [OwnI] using h1) ?_)
  · match j with
    | 0 => simp at hj; subst hj; exact hcell
    | j + 1 => simp at hj
  · exact (Below.refl B w).grown h2 hB fun k hk => (World.ownsRow.lt hown k hk).1

theorem app_all {w : World} {ops : Array Oper} {rest : List Oper} {o : Oper} {a : Act} {Q : Exit → Act → World → Prop} (hgd : o.guard = none) (s x : Operand)
    (ho : o.op = .call { callee := .builtin .append, args := #[s, x], argTypes := #[22, 22] })
    {B : Nat} {v u : Value} {zs ys : List Int} (hs : a.eval s = v) (hx : a.eval x = u)
    (hu : IsI w u ys) (hown : OwnI B w v zs) (hB : B ≤ w.heap.size) (hlen : zs.length + ys.length ≤ 10000000000)
    (h : ∀ v' w', OwnI B w' v' (zs ++ ys) → Below B w w' → wpList Try.prog ops Q rest (a.put o.dst v') w') : wpList Try.prog ops Q (o :: rest) a w := by
  obtain ⟨i0, hi, hz0, hz1, hz2⟩ := info_parts intInfo
  obtain ⟨A, c, rfl, hc0, _, hr⟩ := hu
  match A with
  | none => 
    have h0 : ys.length = 0 := by
      rcases Nat.eq_zero_or_pos ys.length with h | h
      · exact h
      · obtain ⟨_, _, he, _⟩ := hr.at_ 0 h
        cases he
    obtain rfl := List.length_eq_zero_iff.1 h0
    obtain rfl := hc0 rfl
    refine wpList_append_own_none hgd s x 22 ho B 3 i0 1 Try.underlying22 hi v _ _ hs hown hx (h v w (by simpa using hown) (Below.refl B w))
  | some ad =>
    refine wpList_append_own w hgd s x 22 ho B 3 i0 (.int .i64 0) 1 8 Try.underlying22 hi hz0 hz1 hz2 rfl (by decide) v _ _ hs hown ad ys.length c (ys.map (Value.int .i64)) hx (by simp) (fun j u hj => ?_) (by simp [Value.oneCell']) (by simp only [maxLen]; omega) (by omega) hB (fun v' w' h1 h2 _ => h v' w' (by simpa [OwnI] using h1) ?_)
    · have hj' : j < ys.length := by
        rcases Nat.lt_or_ge j ys.length with h | h
        · exact h
        · simp [List.getElem?_eq_none h] at hj
      obtain ⟨b, o', he, hlt, hc⟩ := hr.at_ j hj'
      simp only [Option.some.injEq] at he
      subst he
      simp [List.getElem?_eq_getElem hj'] at hj hc
      subst hj
      simp only [Addr.add]
      split <;> simp_all
    · exact (Below.refl B w).grown h2 hB fun k hk => (World.ownsRow.lt hown k hk).1
end Go.Proofs.Ytkjgcmdabelohaa
