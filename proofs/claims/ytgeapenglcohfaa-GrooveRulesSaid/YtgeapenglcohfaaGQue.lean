/- A queue: a slice of the call's own that may begin behind its block's first cell. No condition. -/
import Derived.Test.YtgeapenglcohfaaGAppD
import Derived.ArgAppend
namespace Go.Proofs.Ytgeapenglcohfaa
open Go.RowKit

/-- v is a slice of ints of the call's own (its block is from B on) that reads as zs; it may begin anywhere in its block. -/
def QueI (B : Nat) (w : World) (v : Value) (zs : List Int) : Prop := ∃ (b o c : Nat) (cur : Array Value), v = .slice (some ⟨b, o, none⟩) zs.length c ∧ B ≤ b ∧ w.heap[b]? = some (.cells cur 3) ∧ (o + c ≤ cur.size) ∧ (zs.length ≤ c ∧ c ≤ maxLen) ∧ ∀ j (h : j < zs.length), cur[o + j]? = some (.int .i64 zs[j])
theorem QueI.of_own {B : Nat} {w : World} {v : Value} {zs : List Int} (h : intK.Own B w v zs) (h0 : v ≠ .slice none 0 0) : QueI B w v zs := by
  rcases h.2 with ⟨rfl, _⟩ | ⟨g, cap, cur, rfl, hb, hg, hn, hm, hs, ht⟩
  · exact absurd rfl h0
  · refine ⟨g, 0, cap, cur, rfl, hb, hg, by simp [intK] at hs; omega, ⟨hn, hm⟩, fun j hj => ?_⟩
    rw [flat_ints] at ht
    have h1 : (cur.toList.take (zs.length * intK.k))[j]? = some (.int .i64 zs[j]) := by rw [ht]; simp [hj]
    rw [List.getElem?_take_of_lt (by simp [intK]; omega)] at h1
    simpa using h1
theorem QueI.cell {B : Nat} {w : World} {zs : List Int} {b o c : Nat} {N : Nat} (h : QueI B w (.slice (some ⟨b, o, none⟩) N c) zs) {j : Nat} (hj : j < zs.length) : w.cell? ⟨b, o + j, none⟩ = some (.int .i64 zs[j]) := by
  obtain ⟨b', o', c', cur, he, _, hg, _, _, hc⟩ := h
  cases he
  have := hc j hj
  unfold World.cell?
  simp [hg, this]
theorem QueI.shape {B : Nat} {w : World} {v : Value} {zs : List Int} (h : QueI B w v zs) : ∃ b o c, v = .slice (some ⟨b, o, none⟩) zs.length c ∧ B ≤ b ∧ b < w.heap.size ∧ zs.length ≤ c ∧ c ≤ maxLen := by
  obtain ⟨b, o, c, cur, rfl, hB, hg, _, hn, _⟩ := h
  exact ⟨b, o, c, rfl, hB, (Array.getElem?_eq_some_iff.1 hg).1, hn⟩
theorem QueI.kept {B b o N c : Nat} {w w' : World} {row : Option Nat} {zs : List Int} (h : QueI B w (.slice (some ⟨b, o, none⟩) N c) zs) (hg : w.grownBy w' row) (hne : row ≠ some b) : QueI B w' (.slice (some ⟨b, o, none⟩) N c) zs := by
  obtain ⟨b', o', c', cur, he, hB, hb, hs, hn, hc⟩ := h
  cases he
  exact ⟨b, o, c, cur, rfl, hB, (hg.block b (Array.getElem?_eq_some_iff.1 hb).1 (fun e => hne e.symm)).trans hb, hs, hn, hc⟩
theorem QueI.ext {B : Nat} {w w' : World} {v : Value} {zs : List Int} (h : QueI B w v zs) (x : Ext w w') : QueI B w' v zs := by
  obtain ⟨b, o, c, cur, rfl, hB, hb, hs, hn, hc⟩ := h
  exact ⟨b, o, c, cur, rfl, hB, (x.bel.block b (Array.getElem?_eq_some_iff.1 hb).1).trans hb, hs, hn, hc⟩
/-- The first one is taken. -/
theorem QueI.tail1 {B : Nat} {w : World} {b o N : Nat} {z : Int} {zs : List Int} (h : QueI B w (.slice (some ⟨b, o, none⟩) N 1) (z :: zs)) : QueI B w (.slice (some ⟨b, o, none⟩) 0 0) zs ∧ N = 1 ∧ zs = [] := by
  obtain ⟨b', o', c', cur, he, hB, hb, hs, hn, hc⟩ := h
  cases he
  have hz : zs = [] := List.eq_nil_of_length_eq_zero (by have := hn.1; rw [List.length_cons] at this; omega)
  subst hz
  exact ⟨⟨b, o, 0, cur, rfl, hB, hb, by omega, ⟨by simp, by simp [maxLen]⟩, fun j hj => by simp at hj⟩, rfl, rfl⟩
theorem QueI.tail {B : Nat} {w : World} {b o N c : Nat} {z : Int} {zs : List Int} (h : QueI B w (.slice (some ⟨b, o, none⟩) N c) (z :: zs)) : QueI B w (.slice (some ⟨b, o + 1, none⟩) (N - 1) (c - 1)) zs := by
  obtain ⟨b', o', c', cur, he, hB, hb, hs, hn, hc⟩ := h
  cases he
  simp only [List.length_cons] at hn hc ⊢
  refine ⟨b, o + 1, c - 1, cur, by simp, hB, hb, by omega, ⟨by omega, by simp only [maxLen] at *; omega⟩, fun j hj => ?_⟩
  have := hc (j + 1) (by omega)
  rw [Nat.add_assoc, Nat.add_comm 1 j]
  simpa using this
theorem setCells_one (w : World) (b o : Nat) (u : Value) : w.setCells b o [u] = w.setCell ⟨b, o, none⟩ u := by
  simp [World.setCells]
/-- One more. -/
theorem QueI.app {w : World} {ops : Array Oper} {rest : List Oper} {o : Oper} {a : Act} {Q : Exit → Act → World → Prop} (hgd : o.guard = none) (s x : Operand)
    (ho : o.op = .call { callee := .builtin .append, args := #[s, x], argTypes := #[intK.st, intK.st] })
    {B : Nat} {bq oq N cq : Nat} {zs : List Int} (b c : Nat) (y : Int) (hs : a.eval s = .slice (some ⟨bq, oq, none⟩) N cq) (hx : a.eval x = .slice (some ⟨b, 0, none⟩) 1 c)
    (hcell : w.cell? ⟨b, 0, none⟩ = some (.int .i64 y)) (hown : QueI B w (.slice (some ⟨bq, oq, none⟩) N cq) zs) (hB : B ≤ w.heap.size) (hlen : zs.length ≤ 1000000000)
    (h : ∀ v' w', QueI B w' v' (zs ++ [y]) → Below B w w' → w.grownBy w' (some bq) → wpList Try.prog ops Q rest (a.put o.dst v') w') : wpList Try.prog ops Q (o :: rest) a w := by
  obtain ⟨i0, hi, hz0, hz1, hz2⟩ := info_parts intK.info
  obtain ⟨b', o', c', cur, he, hBq, hbq, hsz, hn, hc⟩ := hown
  cases he
  refine wpList_append_arg w hgd s x intK.st ho intK.ty i0 intK.z intK.k intK.bytes intK.und hi hz0 hz1 hz2 rfl (by decide) bq oq zs.length cq (zs.map (Value.int .i64)) hs (by simp [intK]) (fun j u hj => ?_) ⟨b, 0, none⟩ 1 c [.int .i64 y] hx rfl (fun j u hj => ?_) (by simp [Value.oneCell']) (fun hr j hj => ?_) (by simp only [maxLen]; omega) (by simp [intK]; omega) (fun hr => ?_) (fun hr v' w' hv hg => ?_)
  · rw [List.getElem?_map] at hj
    cases hzj : zs[j]? with
    | none => rw [hzj] at hj; cases hj
    | some z =>
      rw [hzj] at hj
      cases hj
      obtain ⟨hl, rfl⟩ := List.getElem?_eq_some_iff.1 hzj
      have := hc j hl
      unfold World.cell?
      simp [hbq, this]
  · cases j with
    | zero =>
      cases hj
      simpa [Addr.add] using hcell
    | succ j => simp at hj
  · have h1 : j = 0 := by simp at hj; omega
    subst h1
    simp only [intK, Nat.mul_one, Nat.add_zero]
    have hlt : oq + zs.length < cur.size := by omega
    unfold World.cell? World.frozen?
    simp [hbq, hlt]
  · simp only [intK, Nat.mul_one]
    rw [setCells_one]
    refine h _ _ ⟨bq, oq, cq, cur.set! (oq + zs.length) (.int .i64 y), by simp, hBq, ?_, by simpa using hsz, ⟨by simp; omega, hn.2⟩, fun j hj => ?_⟩ ?_ ?_
    · rw [heap_setCell_same w bq _ cur _ _ hbq]
      simp
    · have hlt : oq + zs.length < cur.size := by omega
      rw [List.length_append, List.length_singleton] at hj
      by_cases e : j = zs.length
      · subst e
        simp [hlt]
      · have hj' : j < zs.length := by omega
        have := hc j hj'
        rw [List.getElem_append_left hj']
        simp only [Array.set!_eq_setIfInBounds]
        rw [Array.getElem?_setIfInBounds_ne (by omega)]
        exact this
    · exact (Below.refl B w).grown (grown_set w bq (oq + zs.length) (.int .i64 y)) hB (fun k hk => by cases hk; exact hBq)
    · exact grown_set w bq (oq + zs.length) (.int .i64 y)
  · have hg' : w.grownBy w' (some bq) := ⟨hg.os, hg.tape, hg.output, hg.size, fun k hk _ => hg.block k hk (by simp)⟩
    refine h v' w' ?_ ((Below.refl B w).grown hg hB (fun k hk => by cases hk)) hg'
    have h1 : intK.Own w.heap.size w' v' (zs ++ [y]) := by
      unfold EK.Own
      rw [flat_ints, List.map_append, List.length_append]
      exact hv
    refine QueI.of_own (h1.mono hB) fun e => ?_
    have := h1.is
    obtain ⟨_, _, he, _⟩ := this
    rw [e] at he
    simp at he
theorem QueI.sliced {B : Nat} {w : World} {b o N c : Nat} {z : Int} {zs : List Int} (h : QueI B w (.slice (some ⟨b, o, none⟩) N c) (z :: zs)) : QueI B w (Go.sliced (some ⟨b, o, none⟩) 1 N c 1) zs := by
  unfold Go.sliced
  by_cases hc : c = 1
  · subst hc
    obtain ⟨h1, h2, h3⟩ := h.tail1
    subst h2
    rw [if_pos rfl]
    exact h1
  · rw [if_neg hc]
    have := h.tail
    simpa [Addr.add] using this
/-- q[1:]. -/
theorem wpList_que_tail {w : World} {ops : Array Oper} {rest : List Oper} {o : Oper} {a : Act} {Q : Exit → Act → World → Prop} (hgd : o.guard = none) (x : Operand)
    (ho : o.op = .slice intK.st x (some (.const (.int .i64 1))) none none) {B : Nat} {b oq N c : Nat} {z : Int} {zs : List Int} (hs : a.eval x = .slice (some ⟨b, oq, none⟩) N c) (hq : QueI B w (.slice (some ⟨b, oq, none⟩) N c) (z :: zs))
    (h : ∀ v', QueI B w v' zs → wpList Try.prog ops Q rest (a.put o.dst v') w) : wpList Try.prog ops Q (o :: rest) a w := by
  refine wpList_plain hgd fun K hK' => ?_
  have hN : (1 : Int) ≤ (N : Int) := by
    obtain ⟨_, _, _, _, he, _⟩ := hq
    cases he
    simp
    omega
  have hel : Try.prog.elem intK.st = intK.ty := by
    unfold Program.elem
    rw [intK.und]
  have hu : Try.prog.underlying intK.st = some (.slice (Try.prog.elem intK.st)) := by rw [hel]; exact intK.und
  obtain ⟨i0, hi, _, hz1, _⟩ := info_parts intK.info
  have hk := hK' _ _ (h _ hq.sliced)
  have h1 : (1 : Int).toNat = 1 := rfl
  unfold Oper.wp
  have h2 : a.eval (.const (.int .i64 1)) = .int .i64 1 := rfl
  have h3 := (run_sliceAt_slice (P := Try.prog) w intK.st (.slice (some ⟨b, oq, none⟩) N c) (some (.int .i64 1)) none none hu).trans (run_slice_l w intK.st (some ⟨b, oq, none⟩) N c hu .i64 1 (by decide) hN)
  have h4 : (sizeOf (Try.prog.elem intK.st)).run Try.prog w = .ok 1 w := by
    rw [hel]
    simp [sizeOf, typeInfo, hi, hz1]
    rfl
  rw [h4] at h3
  have hr : (execOp a.eval o).run Try.prog w = .ok (.value (Go.sliced (some ⟨b, oq, none⟩) 1 N c 1)) w := by
    simp only [execOp, ho, Option.map_some, Option.map_none, hs, h2, Sem.run_bind, h3, Result.andThen_ok]
    rfl
  rw [hr]
  exact hk
end Go.Proofs.Ytgeapenglcohfaa
