/- groove.Loop: the first loop with the fewest cuts. Condition: the cuts read as a list. -/
import Derived.Test.YtgeapenglcohfaaGTwinP
import Derived.ArgAppend
import Derived.Test.YtgeapenglcohfaaGLoopP
import Derived.Deep.Cut
namespace Go.Proofs.Ytgeapenglcohfaa
section
/- GQue: A queue: a slice of the call's own that may begin behind its block's first cell. No condition. -/
open Go.RowKit

/-- v is a slice of ints of the call's own (its block is from B on) that reads as zs; it may begin anywhere in its block. -/
def QueI (B : Nat) (w : World) (v : Value) (zs : List Int) : Prop := ∃ (b o c : Nat) (cur : Array Value), v = .slice (some ⟨b, o, none⟩) zs.length c ∧ B ≤ b ∧ w.heap[b]? = some (.cells cur 3) ∧ (o + c ≤ cur.size) ∧ (zs.length ≤ c ∧ c ≤ maxLen) ∧ ∀ j (h : j < zs.length), cur[o + j]? = some (.int .i64 zs[j])
theorem QueI.of_own {B : Nat} {w : World} {v : Value} {zs : List Int} (h : intK.Own B w v zs) (h0 : v ≠ .slice none 0 0) : QueI B w v zs := by
  rcases h.2 with ⟨rfl, _⟩ | ⟨g, cap, cur, rfl, hb, hg, hn, hm, hs, ht⟩
  · exact absurd rfl h0
  · refine ⟨g, 0, cap, cur, rfl, hb, hg, by simp [intK] at hs; omega, ⟨hn, hm⟩, fun j hj => ?_⟩
    rw [flat_ints] at ht
    have h1 : (cur.toList.take (zs.length * intK.k))[j]? = some (.int .i64 zs[j]) := by rw [ht]; simp [hj]
    rw [List.getElem?_take_of_lt (by simp [intK]; omega)] at h1
    simpa using h1
theorem QueI.cell {B : Nat} {w : World} {zs : List Int} {b o c : Nat} {N : Nat} (h : QueI B w (.slice (some ⟨b, o, none⟩) N c) zs) {j : Nat} (hj : j < zs.length) : w.cell? ⟨b, o + j, none⟩ = some (.int .i64 zs[j]) := by
  obtain ⟨b', o', c', cur, he, _, hg, _, _, hc⟩ := h
  cases he
  have := hc j hj
  unfold World.cell?
  simp [hg, this]
theorem QueI.shape {B : Nat} {w : World} {v : Value} {zs : List Int} (h : QueI B w v zs) : ∃ b o c, v = .slice (some ⟨b, o, none⟩) zs.length c ∧ B ≤ b ∧ b < w.heap.size ∧ zs.length ≤ c ∧ c ≤ maxLen := by
  obtain ⟨b, o, c, cur, rfl, hB, hg, _, hn, _⟩ := h
  exact ⟨b, o, c, rfl, hB, (Array.getElem?_eq_some_iff.1 hg).1, hn⟩
theorem QueI.kept {B b o N c : Nat} {w w' : World} {row : Option Nat} {zs : List Int} (h : QueI B w (.slice (some ⟨b, o, none⟩) N c) zs) (hg : w.grownBy w' row) (hne : row ≠ some b) : QueI B w' (.slice (some ⟨b, o, none⟩) N c) zs := by
  obtain ⟨b', o', c', cur, he, hB, hb, hs, hn, hc⟩ := h
  cases he
  exact ⟨b, o, c, cur, rfl, hB, (hg.block b (Array.getElem?_eq_some_iff.1 hb).1 (fun e => hne e.symm)).trans hb, hs, hn, hc⟩
theorem QueI.ext {B : Nat} {w w' : World} {v : Value} {zs : List Int} (h : QueI B w v zs) (x : Ext w w') : QueI B w' v zs := by
  obtain ⟨b, o, c, cur, rfl, hB, hb, hs, hn, hc⟩ := h
  exact ⟨b, o, c, cur, rfl, hB, (x.bel.block b (Array.getElem?_eq_some_iff.1 hb).1).trans hb, hs, hn, hc⟩
/-- The first one is taken. -/
theorem QueI.tail1 {B : Nat} {w : World} {b o N : Nat} {z : Int} {zs : List Int} (h : QueI B w (.slice (some ⟨b, o, none⟩) N 1) (z :: zs)) : QueI B w (.slice (some ⟨b, o, none⟩) 0 0) zs ∧ N = 1 ∧ zs = [] := by
  obtain ⟨b', o', c', cur, he, hB, hb, hs, hn, hc⟩ := h
  cases he
  have hz : zs = [] := List.eq_nil_of_length_eq_zero (by have := hn.1; rw [List.length_cons] at this; omega)
  subst hz
  exact ⟨⟨b, o, 0, cur, rfl, hB, hb, by omega, ⟨by simp, by simp [maxLen]⟩, fun j hj => by simp at hj⟩, rfl, rfl⟩
theorem QueI.tail {B : Nat} {w : World} {b o N c : Nat} {z : Int} {zs : List Int} (h : QueI B w (.slice (some ⟨b, o, none⟩) N c) (z :: zs)) : QueI B w (.slice (some ⟨b, o + 1, none⟩) (N - 1) (c - 1)) zs := by
  obtain ⟨b', o', c', cur, he, hB, hb, hs, hn, hc⟩ := h
  cases he
  simp only [List.length_cons] at hn hc ⊢
  refine ⟨b, o + 1, c - 1, cur, by simp, hB, hb, by omega, ⟨by omega, by simp only [maxLen] at *; omega⟩, fun j hj => ?_⟩
  have := hc (j + 1) (by omega)
  rw [Nat.add_assoc, Nat.add_comm 1 j]
  simpa using this
theorem setCells_one (w : World) (b o : Nat) (u : Value) : w.setCells b o [u] = w.setCell ⟨b, o, none⟩ u := by
  simp [World.setCells]
/-- One more. -/
theorem QueI.app {w : World} {ops : Array Oper} {rest : List Oper} {o : Oper} {a : Act} {Q : Exit → Act → World → Prop} (hgd : o.guard = none) (s x : Operand)
    (ho : o.op = .call { callee := .builtin .append, args := #[s, x], argTypes := #[intK.st, intK.st] })
    {B : Nat} {bq oq N cq : Nat} {zs : List Int} (b c : Nat) (y : Int) (hs : a.eval s = .slice (some ⟨bq, oq, none⟩) N cq) (hx : a.eval x = .slice (some ⟨b, 0, none⟩) 1 c)
    (hcell : w.cell? ⟨b, 0, none⟩ = some (.int .i64 y)) (hown : QueI B w (.slice (some ⟨bq, oq, none⟩) N cq) zs) (hB : B ≤ w.heap.size) (hlen : zs.length ≤ 1000000000)
    (h : ∀ v' w', QueI B w' v' (zs ++ [y]) → Below B w w' → w.grownBy w' (some bq) → wpList Try.prog ops Q rest (a.put o.dst v') w') : wpList Try.prog ops Q (o :: rest) a w := by
  obtain ⟨i0, hi, hz0, hz1, hz2⟩ := info_parts intK.info
  obtain ⟨b', o', c', cur, he, hBq, hbq, hsz, hn, hc⟩ := hown
  cases he
  refine wpList_append_arg w hgd s x intK.st ho intK.ty i0 intK.z intK.k intK.bytes intK.und hi hz0 hz1 hz2 rfl (by decide) bq oq zs.length cq (zs.map (Value.int .i64)) hs (by simp [intK]) (fun j u hj => ?_) ⟨b, 0, none⟩ 1 c [.int .i64 y] hx rfl (fun j u hj => ?_) (by simp [Value.oneCell']) (fun hr j hj => ?_) (by simp only [maxLen]; omega) (by simp [intK]; omega) (fun hr => ?_) (fun hr v' w' hv hg => ?_)
  · rw [List.getElem?_map] at hj
    cases hzj : zs[j]? with
    | none => rw [hzj] at hj; cases hj
    | some z =>
      rw [hzj] at hj
      cases hj
      obtain ⟨hl, rfl⟩ := List.getElem?_eq_some_iff.1 hzj
      have := hc j hl
      unfold World.cell?
      simp [hbq, this]
  · cases j with
    | zero =>
      cases hj
      simpa [Addr.add] using hcell
    | succ j => simp at hj
  · have h1 : j = 0 := by simp at hj; omega
    subst h1
    simp only [intK, Nat.mul_one, Nat.add_zero]
    have hlt : oq + zs.length < cur.size := by omega
    unfold World.cell? World.frozen?
    simp [hbq, hlt]
  · simp only [intK, Nat.mul_one]
    rw [setCells_one]
    refine h _ _ ⟨bq, oq, cq, cur.set! (oq + zs.length) (.int .i64 y), by simp, hBq, ?_, by simpa using hsz, ⟨by simp; omega, hn.2⟩, fun j hj => ?_⟩ ?_ ?_
    · rw [heap_setCell_same w bq _ cur _ _ hbq]
      simp
    · have hlt : oq + zs.length < cur.size := by omega
      rw [List.length_append, List.length_singleton] at hj
      by_cases e : j = zs.length
      · subst e
        simp [hlt]
      · have hj' : j < zs.length := by omega
        have := hc j hj'
        rw [List.getElem_append_left hj']
        simp only [Array.set!_eq_setIfInBounds]
        rw [Array.getElem?_setIfInBounds_ne (by omega)]
        exact this
    · exact (Below.refl B w).grown (grown_set w bq (oq + zs.length) (.int .i64 y)) hB (fun k hk => by cases hk; exact hBq)
    · exact grown_set w bq (oq + zs.length) (.int .i64 y)
  · have hg' : w.grownBy w' (some bq) := ⟨hg.os, hg.tape, hg.output, hg.size, fun k hk _ => hg.block k hk (by simp)⟩
    refine h v' w' ?_ ((Below.refl B w).grown hg hB (fun k hk => by cases hk)) hg'
    have h1 : intK.Own w.heap.size w' v' (zs ++ [y]) := by
      unfold EK.Own
      rw [flat_ints, List.map_append, List.length_append]
      exact hv
    refine QueI.of_own (h1.mono hB) fun e => ?_
    have := h1.is
    obtain ⟨_, _, he, _⟩ := this
    rw [e] at he
    simp at he
theorem QueI.sliced {B : Nat} {w : World} {b o N c : Nat} {z : Int} {zs : List Int} (h : QueI B w (.slice (some ⟨b, o, none⟩) N c) (z :: zs)) : QueI B w (Go.sliced (some ⟨b, o, none⟩) 1 N c 1) zs := by
  unfold Go.sliced
  by_cases hc : c = 1
  · subst hc
    obtain ⟨h1, h2, h3⟩ := h.tail1
    subst h2
    rw [if_pos rfl]
    exact h1
  · rw [if_neg hc]
    have := h.tail
    simpa [Addr.add] using this
/-- q[1:]. -/
theorem wpList_que_tail {w : World} {ops : Array Oper} {rest : List Oper} {o : Oper} {a : Act} {Q : Exit → Act → World → Prop} (hgd : o.guard = none) (x : Operand)
    (ho : o.op = .slice intK.st x (some (.const (.int .i64 1))) none none) {B : Nat} {b oq N c : Nat} {z : Int} {zs : List Int} (hs : a.eval x = .slice (some ⟨b, oq, none⟩) N c) (hq : QueI B w (.slice (some ⟨b, oq, none⟩) N c) (z :: zs))
    (h : ∀ v', QueI B w v' zs → wpList Try.prog ops Q rest (a.put o.dst v') w) : wpList Try.prog ops Q (o :: rest) a w := by
  refine wpList_plain hgd fun K hK' => ?_
  have hN : (1 : Int) ≤ (N : Int) := by
    obtain ⟨_, _, _, _, he, _⟩ := hq
    cases he
    simp
    omega
  have hel : Try.prog.elem intK.st = intK.ty := by
    unfold Program.elem
    rw [intK.und]
  have hu : Try.prog.underlying intK.st = some (.slice (Try.prog.elem intK.st)) := by rw [hel]; exact intK.und
  obtain ⟨i0, hi, _, hz1, _⟩ := info_parts intK.info
  have hk := hK' _ _ (h _ hq.sliced)
  have h1 : (1 : Int).toNat = 1 := rfl
  unfold Oper.wp
  have h2 : a.eval (.const (.int .i64 1)) = .int .i64 1 := rfl
  have h3 := (run_sliceAt_slice (P := Try.prog) w intK.st (.slice (some ⟨b, oq, none⟩) N c) (some (.int .i64 1)) none none hu).trans (run_slice_l w intK.st (some ⟨b, oq, none⟩) N c hu .i64 1 (by decide) hN)
  have h4 : (sizeOf (Try.prog.elem intK.st)).run Try.prog w = .ok 1 w := by
    rw [hel]
    simp [sizeOf, typeInfo, hi, hz1]
    rfl
  rw [h4] at h3
  have hr : (execOp a.eval o).run Try.prog w = .ok (.value (Go.sliced (some ⟨b, oq, none⟩) 1 N c 1)) w := by
    simp only [execOp, ho, Option.map_some, Option.map_none, hs, h2, Sem.run_bind, h3, Result.andThen_ok]
    rfl
  rw [hr]
  exact hk
end
open Go.RowKit

def loopO (k : WkT) : Option (List Nat) := lpTo (ruleM k) k.cuts.length k.cuts.length
def loopL (k : WkT) : List Int := if workB k then natsI ((loopO k).getD []) else []
def loopE (k : WkT) : Int := if workB k then (if (loopO k).isSome then 0 else 6) else 51
theorem loop_no {k : WkT} (hb : workB k = false) : loopL k = [] ∧ loopE k = 51 := ⟨if_neg (by rw [hb]; exact Bool.false_ne_true), if_neg (by rw [hb]; exact Bool.false_ne_true)⟩
theorem loop_none {k : WkT} (hb : workB k = true) (h : lpTo (ruleM k) k.cuts.length k.cuts.length = none) : loopL k = [] ∧ loopE k = 6 :=
  ⟨by unfold loopL loopO; rw [if_pos hb, h]; rfl, by unfold loopE loopO; rw [if_pos hb, h]; rfl⟩
theorem loop_some {k : WkT} (hb : workB k = true) {l : List Nat} (h : lpTo (ruleM k) k.cuts.length k.cuts.length = some l) : loopL k = natsI l ∧ loopE k = 0 :=
  ⟨by unfold loopL loopO; rw [if_pos hb, h]; rfl, by unfold loopE loopO; rw [if_pos hb, h]; rfl⟩
def nI (bk : Nat → Nat) (a : Nat) : Int := (bk a : Int)
/-- The best loop so far: nil, or a slice of its own. -/
def BestIs (B : Nat) (w : World) (v : Value) (o : Option (List Nat)) : Prop := (o = none ∧ v = .slice none 0 0) ∨ ∃ l, o = some l ∧ intK.Own B w v (natsI l) ∧ ∃ b c, v = .slice (some ⟨b, 0, none⟩) l.length c
theorem BestIs.ext {B : Nat} {w w' : World} {v : Value} {o : Option (List Nat)} (h : BestIs B w v o) (x : Ext w w') : BestIs B w' v o := by
  rcases h with h | ⟨l, h1, h2, h3⟩
  · exact .inl h
  · exact .inr ⟨l, h1, h2.ext x, h3⟩
/-- How much is left to do: the queue, and the cuts that are not reached. -/
def zeroAt (W : World) (wb a : Nat) : Bool := match W.cell? ⟨wb, a, none⟩ with
  | some (.int _ z) => z == 0
  | _ => false
def cntZ (W : World) (wb : Nat) : Nat → Nat
  | 0 => 0
  | a + 1 => cntZ W wb a + if zeroAt W wb a = true then 1 else 0
def lenV (v : Value) : Nat := match v with
  | .slice _ n _ => n
  | _ => 0
def qMeas (wb n : Nat) (qv : Value) (W : World) : Nat := lenV qv + cntZ W wb n
theorem cntZ_eq {W : World} {wb : Nat} {bk : Nat → Nat} (h : CellsAt (wCells wb (nI bk)) W) : ∀ {n : Nat}, n ≤ 16 → cntZ W wb n = unset n bk
  | 0, _ => rfl
  | n + 1, hn => by
    unfold cntZ unset
    rw [cntZ_eq h (by omega)]
    congr 1
    have := (wCells_at.1 h n (by omega)).1
    unfold zeroAt nI at *
    rw [this]
    by_cases e : bk n = 0
    · rw [if_pos e, if_pos (by simp [e])]
    · rw [if_neg e, if_neg (by simp [e])]
theorem qMeas_eq {W : World} {wb n : Nat} {bk : Nat → Nat} (h : CellsAt (wCells wb (nI bk)) W) (hn : n ≤ 16) (A : Option Addr) (N c : Nat) : qMeas wb n (.slice A N c) W = N + unset n bk := by
  unfold qMeas
  rw [cntZ_eq h hn]
  rfl
theorem QueI.put {B b : Nat} {W : World} {v : Value} {zs : List Int} (h : QueI B W v zs) (hb : b < B) (o : Nat) (u : Value) : QueI B (W.setCell ⟨b, o, none⟩ u) v zs := by
  obtain ⟨b', o', c, cur, rfl, hB, rest⟩ := h
  exact QueI.kept ⟨b', o', c, cur, rfl, hB, rest⟩ (grown_set W b o u) (by simp; omega)
theorem wCells_que {g B bq : Nat} {s : Nat → Int} {A A' : World} (h : CellsAt (wCells g s) A) (hg : A.grownBy A' (some bq)) (hB : B ≤ bq) (hgB : g < B) : CellsAt (wCells g s) A' := wCells_grown h hg (.inr (by simp; omega))
theorem aTo_succ (M : Nat → Nat → Bool) (f b v : Nat) (s : List Nat × (Nat → Nat)) (m : Nat) : aTo M f b v s (m + 1) = aStep M b v (aTo M f b v s m) (f + m) := rfl
/-- Not taken: nothing changes. -/
theorem aStep_no {M : Nat → Nat → Bool} {b v a : Nat} {s : List Nat × (Nat → Nat)} (h : M a b = false ∨ s.2 a ≠ 0) : aStep M b v s a = s := by
  unfold aStep
  rw [if_neg]
  rcases h with h | h
  · simp [h]
  · simp [h]
theorem aStep_yes {M : Nat → Nat → Bool} {b v a : Nat} {s : List Nat × (Nat → Nat)} (h : M a b = true) (h0 : s.2 a = 0) : aStep M b v s a = (s.1 ++ [a], fun q => if q = a then v + 1 else s.2 q) := by
  unfold aStep
  rw [if_pos]
  simp [h, h0]
theorem aTo_b {M : Nat → Nat → Bool} {f b v : Nat} {s : List Nat × (Nat → Nat)} (hM : M b b = false) (m : Nat) : (aTo M f b v s m).2 b = s.2 b := by
  rw [aTo_bk, if_neg]
  intro h
  rw [hM] at h
  cases h.2.1
theorem aTo_le {M : Nat → Nat → Bool} {f b v : Nat} {s : List Nat × (Nat → Nat)} {K : Nat} (h : ∀ q, s.2 q ≤ K) (hv : v + 1 ≤ K) (m q : Nat) : (aTo M f b v s m).2 q ≤ K := by
  rw [aTo_bk]
  split
  · exact hv
  · exact h q
theorem bTo_le {M : Nat → Nat → Bool} {f n : Nat} : ∀ (t q : Nat), (bTo M f n t).2 q ≤ t
  | 0, q => Nat.le_refl _
  | t + 1, q => by
    have ih := bTo_le (M := M) (f := f) (n := n) t
    show (bStep M f n (bTo M f n t)).2 q ≤ t + 1
    unfold bStep
    split
    · exact Nat.le_succ_of_le (ih q)
    · rename_i b l _
      refine aTo_le (s := (l, (bTo M f n t).2)) (fun q => Nat.le_succ_of_le (ih q)) ?_ _ q
      unfold vOf
      split
      · omega
      · exact Nat.succ_le_succ (ih _)
theorem bTo_mem {M : Nat → Nat → Bool} {f n : Nat} (hf : f < n) : ∀ (t : Nat), ∀ a ∈ (bTo M f n t).1, f ≤ a ∧ a < n
  | 0, a, h => by
    obtain rfl : a = f := List.mem_singleton.1 h
    exact ⟨Nat.le_refl _, hf⟩
  | t + 1, a, h => by
    have hi := BInv.to (M := M) hf t
    have := hi.low a (hi.mem a h)
    exact ⟨this.1, this.2.1⟩
theorem unset_len {M : Nat → Nat → Bool} {f n t : Nat} (hf : f < n) : (bTo M f n t).1.length ≤ n + 1 := by
  rcases bTo_size (M := M) hf t with h | h
  · rw [h]; simp
  · omega
theorem put_first {bk : Nat → Nat} {a vb : Nat} (h : vb = 0) (q : Nat) : (if q = a then (1 : Int) else nI bk q) = nI (fun q => if q = a then vb + 1 else bk q) q := by
  subst h
  unfold nI
  by_cases e : q = a
  · simp only [if_pos e]
    rfl
  · simp only [if_neg e]
theorem put_next {bk : Nat → Nat} {a vb : Nat} (q : Nat) : (if q = a then 1 + (vb : Int) else (if q = a then (1 : Int) else nI bk q)) = nI (fun q => if q = a then vb + 1 else bk q) q := by
  unfold nI
  by_cases e : q = a
  · simp only [if_pos e]
    omega
  · simp only [if_neg e]

set_option maxRecDepth 100000 in
set_option maxHeartbeats 8000000 in
theorem loop_any (k : WkT) (v : Value) (w : World) (hI : CutsIs w v k.cuts) :
    Calls Try.prog 51 #[k.val v] w (RetEW intK w (loopL k) (loopE k)) := by
  obtain ⟨A, c, rfl, -⟩ := cutsIs_at hI
  cases hb : workB k
  · have HW := Lib.hid fun (W : World) (x : Ext w W) => check_no (k := k) (hI.ext x) hb
    have HR := Lib.hid (loop_no hb)
    clear hb hI
    go_enter Try.func51, Try.ntmps51
    go_wp2_with fail
    refine (HW.out _ (by (repeat' (first | with_reducible exact Ext.refl _ | with_reducible apply Ext.alloc | with_reducible apply Ext.drew | with_reducible apply Ext.drewN | with_reducible refine Ext.setCell ?_ ?_ _ | with_reducible apply Ext.step | with_reducible assumption | with_reducible exact Nat.le_refl _ | (simp; done) | (simp; omega))))).mono ?_
    rintro e W1 ⟨rfl, x1⟩
    have HX1 := Lib.hid (show Ext w W1 from Ext.trans (by (repeat' (first | with_reducible exact Ext.refl _ | with_reducible apply Ext.alloc | with_reducible apply Ext.drew | with_reducible apply Ext.drewN | with_reducible refine Ext.setCell ?_ ?_ _ | with_reducible apply Ext.step | with_reducible assumption | with_reducible exact Nat.le_refl _ | (simp; done) | (simp; omega)))) x1)
    clear x1
    go_wp2_with fail
    go_ret2
    exact retEW_mk (EK.Own.nil _ _) HR.out.1 HR.out.2 HX1.out
  have HW := Lib.hid fun (W : World) (x : Ext w W) => check_ok (k := k) (hI.ext x) hb
  have HS := Lib.hid fun (W : World) (x : Ext w W) => rulesOf_any k _ W (hI.ext x) hb
  obtain ⟨_, _, h16, _⟩ := workB_iff.1 hb
  have HLN := Lib.hid (loop_none (k := k) hb)
  have HLS := Lib.hid fun (l : List Nat) => loop_some (k := k) hb (l := l)
  have HIR := Lib.hid (ruleM_same k)
  obtain ⟨n, hn⟩ : ∃ n, n = k.cuts.length := ⟨_, rfl⟩
  obtain ⟨M, hM⟩ : ∃ M, M = ruleM k := ⟨_, rfl⟩
  rw [← hn] at HW HS h16 HLN HLS ⊢
  rw [← hM] at HS HLN HLS HIR
  clear hb hn hI hM
  go_enter Try.func51, Try.ntmps51
  go_wp2_with fail
  refine (HW.out _ (by (repeat' (first | with_reducible exact Ext.refl _ | with_reducible apply Ext.alloc | with_reducible apply Ext.drew | with_reducible apply Ext.drewN | with_reducible refine Ext.setCell ?_ ?_ _ | with_reducible apply Ext.step | with_reducible assumption | with_reducible exact Nat.le_refl _ | (simp; done) | (simp; omega))))).mono ?_
  rintro e W1 ⟨rfl, x1⟩
  have HX1 := Lib.hid (show Ext w W1 from Ext.trans (by (repeat' (first | with_reducible exact Ext.refl _ | with_reducible apply Ext.alloc | with_reducible apply Ext.drew | with_reducible apply Ext.drewN | with_reducible refine Ext.setCell ?_ ?_ _ | with_reducible apply Ext.step | with_reducible assumption | with_reducible exact Nat.le_refl _ | (simp; done) | (simp; omega)))) x1)
  have HA1 := Lib.hid ((WkAt.new k (.slice A n c) w).ext x1)
  obtain ⟨h0, h1, h2, h3, h4, h5, h6, h7, h8, h9, h10, h11, h12⟩ := HA1.out
  have lh0 := cell_lt h0
  clear x1
  go_wp2_with fail
  have q0 := But.cells (D := []) h0 (by simp)
  have q1 := But.cells (D := []) h1 (by simp)
  have q2 := But.cells (D := []) h2 (by simp)
  have q3 := But.cells (D := []) h3 (by simp)
  have q4 := But.cells (D := []) h4 (by simp)
  have q5 := But.cells (D := []) h5 (by simp)
  have q6 := But.cells (D := []) h6 (by simp)
  have q7 := But.cells (D := []) h7 (by simp)
  have q8 := But.cells (D := []) h8 (by simp)
  have q9 := But.cells (D := []) h9 (by simp)
  have q10 := But.cells (D := []) h10 (by simp)
  have q11 := But.cells (D := []) h11 (by simp)
  have q12 := But.cells (D := []) h12 (by simp)
  refine (wpIn_wide (n := 3)).1 ?_
  refine wpIn_region_steps [] 6 [(0, true), (2, true), (3, true), (4, true), (1, false), (5, true)] (by kernel_rfl) (by kernel_rfl) ?_
  iterate 4 (refine wpSD_q (by rfl) (fun _ _ _ => trivial) (fun K hK => ?_); go_simp; refine hK _ ?_; clear hK K)
  refine wpSD_m (by rfl) (fun _ _ _ => trivial) (fun δ K hK => ?_)
  go_simp
  refine (callsIn_wide.2 (HS.out δ.wd (HX1.out.trans ⟨δ, rfl⟩))).mono ?_
  rintro e Wb ⟨g, rfl, hmat, hgg, xb⟩
  refine ⟨_, rfl, xb.but, hK _ _ ?_⟩
  clear hK K
  refine wpSD_q (by rfl) (fun _ _ _ => trivial) (fun K hK => ?_)
  go_simp
  refine hK _ ?_
  clear hK K
  refine wpSD_nil ?_
  intro W3 x3
  have HX3 := Lib.hid (((HX1.out.trans ⟨δ, rfl⟩).trans xb).trans x3)
  have HMT := Lib.hid (hmat.ext x3)
  clear q0 q1 q2 q3 q4 q5 q6 q7 q8 q9 q10 q11 q12 h0 h1 h2 h3 h4 h5 h6 h7 h8 h9 h10 h11 h12 lh0 x3 xb hmat hgg
  simp only [List.drop_succ_cons, List.drop_zero]
  gi_wp2
  go_wp2_with fail
  go_loopw [7, 27] (fun bv iv wr => ∃ i : Nat, i ≤ n ∧ iv = .int .i64 (i : Int) ∧ BestIs W3.heap.size wr bv (lpTo M n i) ∧ Ext W3 wr) (fun _ iv _ => n - (intOf iv).toNat)
  case atStart => exact ⟨0, by omega, rfl, .inl ⟨rfl, rfl⟩, Ext.refl _⟩
  case round =>
    obtain ⟨f, hf, rfl, hbest, hx⟩ := hrel
    have HBS := Lib.hid hbest
    have HXR := Lib.hid hx
    clear hbest hx
    by_cases hlt : f < n
    · have hfi : (f : Int) < (n : Int) := by omega
      obtain ⟨wq, rfl⟩ : ∃ wq, wq = wr := ⟨_, rfl⟩
      go_wp2_with fail
      obtain ⟨wb, hwb⟩ : ∃ wb, wb = wq.heap.size := ⟨_, rfl⟩
      have hbx := BoxAt.new wq #[.int .i64 0, .int .i64 0, .int .i64 0, .int .i64 0, .int .i64 0, .int .i64 0, .int .i64 0, .int .i64 0, .int .i64 0, .int .i64 0, .int .i64 0, .int .i64 0, .int .i64 0, .int .i64 0, .int .i64 0, .int .i64 0] 143
      refine lay_wp (fun W => CellsAt (wCells wq.heap.size (nI fun _ => 0)) W ∧ QueI (wq.heap.size + 1) W (.slice (some ⟨wq.heap.size + 1, 0, none⟩) 1 1) (natsI [f]) ∧ Ext wq W) ⟨wCells_new (hbx.ext ((Ext.refl _).alloc _)) rfl, ?_, ((Ext.refl _).alloc _).alloc _⟩ ?_
      · have := EK.Own.lit (K := intK) (B := wq.heap.size + 1) (wq.alloc (.cells #[.int .i64 0, .int .i64 0, .int .i64 0, .int .i64 0, .int .i64 0, .int .i64 0, .int .i64 0, .int .i64 0, .int .i64 0, .int .i64 0, .int .i64 0, .int .i64 0, .int .i64 0, .int .i64 0, .int .i64 0, .int .i64 0] 143)) #[.int .i64 (f : Int)] [(f : Int)] rfl (by simp) (by simp [maxLen])
        rw [World.size_alloc] at this
        exact QueI.of_own this (by simp)
      clear hbx
      rintro W4 ⟨hc4, hq4, x4⟩
      rw [← hwb] at hc4 hq4 ⊢
      have HWB := Lib.hid hwb
      have HC4 := Lib.hid hc4
      have HQ4 := Lib.hid hq4
      have HX4 := Lib.hid x4
      clear hwb hc4 hq4 x4
      go_loopw [10] (fun qv W => ∃ t : Nat, t ≤ n + 1 ∧ QueI (wb + 1) W qv (natsI (bTo M f n t).1) ∧ CellsAt (wCells wb (nI (bTo M f n t).2)) W ∧ Ext wq W) (fun qv W => qMeas wb n qv W)
      case atStart => exact ⟨0, by omega, HQ4.out, HC4.out, HX4.out⟩
      case round =>
        obtain ⟨t, ht, hq, hcl, hx⟩ := hrel
        have HINV := Lib.hid (bTo_mem (M := M) hlt t)
        have HLE := Lib.hid fun q => bTo_le (M := M) (f := f) (n := n) t q
        have HSZ := Lib.hid (bTo_size (M := M) hlt t)
        have HST := Lib.hid (show bTo M f n (t + 1) = bStep M f n (bTo M f n t) from rfl)
        have HBSZ := Lib.hid fun h => bStep_size (M := M) (s := bTo M f n t) hlt h
        have HEND := Lib.hid fun h => bTo_bkF (M := M) (t := t) hlt h
        obtain ⟨qs, hqs⟩ : ∃ qs, qs = bTo M f n t := ⟨_, rfl⟩
        rw [← hqs] at hq hcl HINV HLE HSZ HST HBSZ HEND
        obtain ⟨q, bk⟩ := qs
        simp only at hq hcl
        have HCL := Lib.hid hcl
        have HX := Lib.hid hx
        have HQT := Lib.hid hqs
        have HQ := Lib.hid hq
        obtain ⟨bq, oq, cq, rfl, hbq, hbl, hlc, hcm⟩ := hq.shape
        rw [natsI_len] at hlc ⊢
        simp only at HINV HLE HSZ HST HBSZ HEND hlc ⊢
        clear hq hcl hx hqs
        cases q with
        | nil =>
          have HBK := Lib.hid (show bk = bkF M f n from HEND.out rfl)
          have HTB := Lib.hid (takeB_iff (M := M) (n := n) (i := f) (o := lpTo M n f))
          have HLP := Lib.hid (show lpTo M n (f + 1) = if takeB M n f (lpTo M n f) then some (gTo M f n (bkF M f n f - 1)) else lpTo M n f from rfl)
          have HBS' := Lib.hid (HBS.out.ext HX.out)
          have HXA := Lib.hid (HXR.out.trans HX.out)
          have hf16 : f < 16 := by omega
          have hf16i : (f : Int) < 16 := by omega
          obtain ⟨y0, y1⟩ := wCells_at.1 HCL.out f hf16
          unfold nI at y0
          have ly0 := cell_lt y0
          have hbf := HLE.out f
          rw [← HBK.out] at HTB HLP
          simp only [List.length_nil, Nat.zero_le] at hlc ⊢
          by_cases h0 : bk f = 0
          · have HN := Lib.hid (show lpTo M n (f + 1) = lpTo M n f by rw [HLP.out, if_neg fun h => (HTB.out.1 h).1 h0])
            rw [h0] at y0
            clear h0
            go_wp2_with fail
            go_roundw
            case rel => exact ⟨f + 1, by omega, by go_num, by rw [HN.out]; exact HBS'.out, HXA.out⟩
            case measure => simp [intOf]; omega
          have hz : ((bk f : Nat) : Int) ≠ 0 := by omega
          have hzb : (((bk f : Nat) : Int) == 0) = false := by simpa using hz
          have hcase : (∃ lb, lpTo M n f = some lb ∧ lb.length ≤ bk f) ∨ ∀ lb, lpTo M n f = some lb → bk f < lb.length := by
            cases hl : lpTo M n f with
            | none => exact .inr fun lb h => by cases h
            | some lb =>
              by_cases h : lb.length ≤ bk f
              · exact .inl ⟨lb, rfl, h⟩
              · exact .inr fun lb' h' => by cases h'; omega
          rcases hcase with ⟨lb, hlb, hle⟩ | htk
          · have HN := Lib.hid (show lpTo M n (f + 1) = lpTo M n f by rw [HLP.out, if_neg fun h => by have := (HTB.out.1 h).2 lb hlb; omega])
            obtain ⟨bb, cb, hu⟩ : ∃ b c, u7 = .slice (some ⟨b, 0, none⟩) lb.length c := by
              rcases HBS'.out with ⟨h, _⟩ | ⟨l', h, _, h3⟩
              · rw [hlb] at h
                cases h
              · rw [hlb] at h
                cases h
                exact h3
            subst hu
            have hlei : ((lb.length : Nat) : Int) ≤ ((bk f : Nat) : Int) := by omega
            generalize ((bk f : Nat) : Int) = z at *
            clear hlb hle hz
            go_wp2_with fail
            go_roundw
            case rel => exact ⟨f + 1, by omega, by go_num, by rw [HN.out]; exact HBS'.out, HXA.out⟩
            case measure => simp [intOf]; omega
          have HN := Lib.hid (show lpTo M n (f + 1) = some (gTo M f n (bk f - 1)) by rw [HLP.out, if_pos (HTB.out.2 ⟨h0, htk⟩)])
          have hu : u7 = .slice none 0 0 ∨ ∃ b N c, u7 = .slice (some ⟨b, 0, none⟩) N c ∧ bk f < N := by
            rcases HBS'.out with ⟨_, h⟩ | ⟨l', h, _, b', c', h3⟩
            · exact .inl h
            · exact .inr ⟨b', _, c', h3, htk l' h⟩
          obtain ⟨wz, rfl⟩ : ∃ wz, wz = wr := ⟨_, rfl⟩
          have hbkn : bkF M f n f ≠ 0 := by rw [← HBK.out]; exact h0
          have HSP := Lib.hid fun j h => gAt_spec (M := M) hlt hbkn j h
          have HNX := Lib.hid fun (j left : Nat) (h : bkF M f n (gAt M f n j) = left + 1) (hl : 0 < left) => nxt_spec (M := M) (last := gAt M f n j) hlt h hl
          rw [← HBK.out] at HSP HNX
          have hw1 : IntKind.i64.wrap (((bk f : Nat) : Int) - 1) = ((bk f : Nat) : Int) - 1 := by apply IntWalk.i64_in <;> omega
          have hwsz := HXA.out.bel.size
          clear HTB HLP HINV HLE HSZ HST HBSZ HEND hbkn y0 y1 ly0 htk
          rcases hu with hu | ⟨b', N', c', hu, hN'⟩
          all_goals subst hu
          all_goals
            obtain ⟨y0, y1⟩ := wCells_at.1 HCL.out f hf16
            unfold nI at y0
            have ly0 := cell_lt y0
            try (have hN2 : ¬ ((N' : Nat) : Int) ≤ ((bk f : Nat) : Int) := by omega)
            go_upto_region 24 with fail
            refine lay_wp (fun W => intK.Own wz.heap.size W (.slice (some ⟨wz.heap.size, 0, none⟩) 1 1) (natsI (gTo M f n 0)) ∧ Ext wz W) ⟨EK.Own.lit (K := intK) (B := wz.heap.size) wz #[.int .i64 (f : Int)] [(f : Int)] rfl (Nat.le_refl _) (by simp [maxLen]), (Ext.refl _).alloc _⟩ ?_
            rintro W7 ⟨o7, x7⟩
            have HO7 := Lib.hid o7
            have HX7 := Lib.hid x7
            replace y0 := x7.cell_some y0
            replace ly0 := cell_lt y0
            clear o7 x7 y1
            go_wp2_with fail
            go_loopw [7, 13] (fun bv lv W => ∃ j left : Nat, j + left + 1 = bk f ∧ lv = .int .i64 (left : Int) ∧ intK.Own wz.heap.size W bv (natsI (gTo M f n j)) ∧ Ext wz W) (fun _ lv _ => (intOf lv).toNat)
            case atStart => exact ⟨0, bk f - 1, by omega, by congr 1; omega, HO7.out, HX7.out⟩
            case round =>
              obtain ⟨j, left, hjl, rfl, ho, hx⟩ := hrel
              have HO := Lib.hid ho
              have HXJ := Lib.hid hx
              have hgl := gTo_len M f n j
              have hnl : (natsI (gTo M f n j)).length = j + 1 := by rw [natsI_len, hgl]
              obtain ⟨b0, c0, rfl, hb0, hb0l, hcell, hfr⟩ := ho.slot (j := j) (by omega)
              have hc0 := hcell 0 _ rfl
              have hgat : (natsI (gTo M f n j))[j] = ((gAt M f n j : Nat) : Int) := by
                have h1 := gTo_at M f n (Nat.le_refl j)
                unfold natsI
                rw [List.getElem_map]
                rw [List.getElem?_eq_getElem (by omega)] at h1
                rw [Option.some.inj h1]
              rw [hgat] at hc0
              simp only [intK, Nat.mul_one, Nat.add_zero] at hc0
              have HNL := Lib.hid hnl
              rw [hnl]
              have lb0 := cell_lt hc0
              clear ho hx hgl hnl hcell hfr hgat
              by_cases hl0 : left = 0
              · subst hl0
                have HGE := Lib.hid (show gTo M f n j = gTo M f n (bk f - 1) by rw [show j = bk f - 1 by omega])
                go_wp2_with fail
                go_roundw
                case rel => exact ⟨f + 1, by omega, by go_num, .inr ⟨_, HN.out, by rw [← HGE.out, ← HNL.out]; exact HO.out.mono hwsz, b0, c0, by rw [← HGE.out, gTo_len]⟩, HXA.out.trans HXJ.out⟩
                case measure => simp [intOf]; omega
              · obtain ⟨s1, s2, s3, _, _⟩ := HSP.out j (by omega)
                obtain ⟨t1, t2, t3⟩ := HNX.out j left (by omega) (by omega)
                have HGS := Lib.hid (show gTo M f n (j + 1) = gTo M f n j ++ [nxt M f n bk (gAt M f n j) left] by
                  show gTo M f n j ++ [_] = _
                  rw [gTo_last, HBK.out, show bkF M f n f - 1 - j = left by rw [← HBK.out]; omega])
                obtain ⟨X, hX⟩ : ∃ X, X = nxt M f n bk (gAt M f n j) left := ⟨_, rfl⟩
                rw [← hX] at t1 t2 t3 HGS
                clear hX
                obtain ⟨la, hla⟩ : ∃ la, la = gAt M f n j := ⟨_, rfl⟩
                rw [← hla] at t1 t3 hc0 s1 s2
                obtain ⟨p1, p2, p3⟩ := nxtP_iff.1 t1
                have HT3 := Lib.hid t3
                have HP := Lib.hid (And.intro p2 p3)
                have hla16 : la < 16 := by omega
                have hla16i : (la : Int) < 16 := by omega
                have hj16 : j < 17 := by omega
                have hwj : IntKind.i64.wrap ((j : Int) + 1 - 1) = (j : Int) := by
                  rw [show (j : Int) + 1 - 1 = (j : Int) by omega]
                  apply IntWalk.i64_in <;> omega
                have hl1 : (0 : Int) < (left : Int) := by omega
                obtain ⟨wi, rfl⟩ : ∃ wi, wi = wr := ⟨_, rfl⟩
                clear hla t1 t3 p2 p3
                go_wp2_with fail
                go_loopw [15] (fun xv W => ∃ x : Nat, f < x ∧ x ≤ X ∧ xv = .int .i64 (x : Int) ∧ W = wi) (fun xv _ => X - (intOf xv).toNat)
                case atStart => exact ⟨f + 1, by omega, by omega, by go_num, rfl⟩
                case round =>
                  obtain ⟨x, hx1, hx2, rfl, rfl⟩ := hrel
                  have hx16 : x < 16 := by omega
                  have hx16i : (x : Int) < 16 := by omega
                  obtain ⟨m0, _⟩ := (HMT.out.ext (HXA.out.trans HXJ.out)).at_ la x hla16 hx16
                  have lm0 := cell_lt m0
                  obtain ⟨z0, z1⟩ := wCells_at.1 (HCL.out.ext HXJ.out) x hx16
                  unfold nI at z0
                  have lz0 := cell_lt z0
                  by_cases hxX : x = X
                  · have hMx : M la x = true := by rw [hxX]; exact HP.out.1
                    have hbx : bk x = left := by rw [hxX]; exact HP.out.2
                    rw [hMx] at m0
                    rw [hbx] at z0
                    rw [← hxX] at HGS
                    have hlb : ((left : Int) != (left : Int)) = false := by simp
                    have HJL := Lib.hid (show (natsI (gTo M f n j)).length ≤ 1000000000 by rw [HNL.out]; omega)
                    have HSB := Lib.hid (show wz.heap.size ≤ wr.heap.size from HXJ.out.bel.size)
                    have HOJ := HO.out
                    rw [HNL.out] at HOJ
                    have HOJ := Lib.hid HOJ
                    have hwl : IntKind.i64.wrap ((left : Int) - 1) = (left : Int) - 1 := by apply IntWalk.i64_in <;> omega
                    clear hMx hbx hxX
                    go_wp2_with (at_builtin; refine EK.app (K := intK) (B := wz.heap.size) (xs := natsI (gTo M f n j)) rfl (.tmp 127) (.tmp 129) rfl wr.heap.size 1 (x : Int) rfl rfl (fun i u hu => cell_new hu) (HOJ.out.ext ((Ext.refl _).alloc _)) (by simp; exact Nat.le_succ_of_le HSB.out) HJL.out ?_; intro v' w3 o3 b3 g3; have HO3 := Lib.hid o3; have HB3 := Lib.hid b3; have HG3 := Lib.hid g3; clear o3 b3 g3)
                    have hjl2 : j + 1 + (left - 1) + 1 = bk f := by omega
                    have hli : ((left - 1 : Nat) : Int) = (left : Int) - 1 := by omega
                    go_roundw
                    case rel => exact ⟨j + 1, left - 1, hjl2, by rw [hli], by rw [HGS.out, natsI_snoc]; exact HO3.out, (HXJ.out.alloc _).below HB3.out (Nat.le_refl _)⟩
                    case measure => simp [intOf]; omega
                  · have hor : M la x = false ∨ bk x ≠ left := by
                      have h1 := HT3.out x (by omega)
                      cases hMx : M la x with
                      | false => exact .inl rfl
                      | true =>
                        refine .inr fun e => ?_
                        rw [nxtP_iff.2 ⟨hx1, hMx, e⟩] at h1
                        cases h1
                    have hwx : IntKind.i64.wrap ((x : Int) + 1) = (x : Int) + 1 := by apply IntWalk.i64_in <;> omega
                    have hxX1 : x + 1 ≤ X := by omega
                    rcases hor with hMx | hbx
                    · rw [hMx] at m0
                      clear hMx hxX
                      go_wp2_with fail
                      go_roundw
                      case rel => exact ⟨x + 1, by omega, by omega, by go_num, trivial⟩
                      case measure => simp [intOf]; omega
                    · have hne : ((bk x : Nat) : Int) ≠ (left : Int) := by omega
                      generalize ((bk x : Nat) : Int) = zz at *
                      have hneb : (zz != (left : Int)) = true := by simpa using hne
                      cases hMx : M la x
                      · rw [hMx] at m0
                        clear hMx hne hxX
                        go_wp2_with fail
                        go_roundw
                        case rel => exact ⟨x + 1, by omega, by omega, by go_num, trivial⟩
                        case measure => simp [intOf]; omega
                      · rw [hMx] at m0
                        clear hMx hne hxX
                        go_wp2_with fail
                        go_roundw
                        case rel => exact ⟨x + 1, by omega, by omega, by go_num, trivial⟩
                        case measure => simp [intOf]; omega
        | cons b l =>
          obtain ⟨hb1, hb2⟩ := HINV.out b (List.mem_cons_self ..)
          have hsz := HSZ.out.resolve_left (by simp)
          simp only [List.length_cons] at hsz hlc ⊢
          have hc0 := HQ.out.cell (j := 0) (by simp [natsI])
          rw [natsI_len] at HQ
          have HQC := Lib.hid (show QueI (wb + 1) wr (.slice (some ⟨bq, oq, none⟩) (l.length + 1) cq) ((b : Int) :: natsI l) from HQ.out)
          simp only [Nat.add_zero] at hc0
          have hc00 : wr.cell? ⟨bq, oq, none⟩ = some (.int .i64 (b : Int)) := hc0
          have lc0 := cell_lt hc00
          have hlt1 : (0 : Int) < ((l.length + 1 : Nat) : Int) := by omega
          clear hc0
          obtain ⟨wo, rfl⟩ : ∃ wo, wo = wr := ⟨_, rfl⟩
          go_upto_region 13 with fail
          refine wp_region_lit ?_
          iterate 1 (refine wpList_plain (by rfl) (fun K hK => ?_); go_simp; refine hK _ _ ?_; clear hK K)
          refine wpList_que_tail rfl (.tmp 38) rfl rfl HQC.out ?_
          intro qv hqv
          have HQV := Lib.hid hqv
          clear hqv
          iterate 1 (refine wpList_plain (by rfl) (fun K hK => ?_); go_simp; refine hK _ _ ?_; clear hK K)
          refine wpList_nil ?_
          go_wp2_with fail
          obtain ⟨vb, hvb⟩ : ∃ vb, vb = vOf f b bk := ⟨_, rfl⟩
          have HST2 := Lib.hid (show bTo M f n (t + 1) = aTo M f b vb (l, bk) (n - f) by rw [HST.out, hvb]; rfl)
          have hvle : vb ≤ 17 := by
            have := HLE.out b
            rw [hvb]
            unfold vOf
            split <;> omega
          have HVB := Lib.hid hvb
          have HAB := Lib.hid fun m => aTo_b (f := f) (v := vb) (s := (l, bk)) (HIR.out b) m
          clear hvb
          go_loopw [10, 12] (fun qv' av W => ∃ a : Nat, f ≤ a ∧ a ≤ n ∧ av = .int .i64 (a : Int) ∧ QueI (wb + 1) W qv' (natsI (aTo M f b vb (l, bk) (a - f)).1) ∧ CellsAt (wCells wb (nI (aTo M f b vb (l, bk) (a - f)).2)) W ∧ Ext wq W) (fun _ av _ => n - (intOf av).toNat)
          case atStart => exact ⟨f, Nat.le_refl _, hf, rfl, by rw [Nat.sub_self]; exact HQV.out, by rw [Nat.sub_self]; exact HCL.out, HX.out⟩
          case round =>
            obtain ⟨a, ha1, ha2, rfl, hq, hcl, hx⟩ := hrel
            have hSN := aTo_succ M f b vb (l, bk) (a - f)
            rw [show f + (a - f) = a by omega] at hSN
            have HABM := Lib.hid (HAB.out (a - f))
            have HSM := Lib.hid fun (h : f + (a - f) ≤ n) => aTo_size M f n b vb (l, bk) (a - f) h
            obtain ⟨ss, hss⟩ : ∃ ss, ss = aTo M f b vb (l, bk) (a - f) := ⟨_, rfl⟩
            rw [← hss] at hq hcl hSN HABM HSM
            obtain ⟨q', bk'⟩ := ss
            simp only at hq hcl
            have HSN := Lib.hid hSN
            have HSS := Lib.hid hss
            have HQ' := Lib.hid hq
            have HCL' := Lib.hid hcl
            have HX' := Lib.hid hx
            obtain ⟨br, orr, cr, rfl, hbr, hbrl, hrc, hrm⟩ := hq.shape
            clear hq hcl hx hSN hss
            simp only at HABM HSM
            by_cases hlt2 : a < n
            · have hqlen : q'.length ≤ 100 := by
                have := HSM.out (by omega)
                have := unset_le bk n
                omega
              have ha16 : a < 16 := by omega
              have hb16 : b < 16 := by omega
              have ha16i : (a : Int) < 16 := by omega
              have hb16i : (b : Int) < 16 := by omega
              have hani : (a : Int) < (n : Int) := by omega
              have HXA := Lib.hid (show Ext W3 wr from HXR.out.trans HX'.out)
              obtain ⟨s0, _⟩ := (HMT.out.ext HXA.out).at_ a b ha16 hb16
              have ls0 := cell_lt s0
              obtain ⟨y0, y1⟩ := wCells_at.1 HCL'.out a ha16
              have ly0 := cell_lt y0
              unfold nI at y0
              cases hMab : M a b with
              | false =>
                have HN := Lib.hid (HSN.out.trans (aStep_no (.inl hMab)))
                rw [hMab] at s0
                clear hMab
                go_wp2_with fail
                go_roundw
                case rel => exact ⟨a + 1, by omega, by omega, by go_num, by rw [show a + 1 - f = a - f + 1 by omega, HN.out]; exact HQ'.out, by rw [show a + 1 - f = a - f + 1 by omega, HN.out]; exact HCL'.out, HX'.out⟩
                case measure => simp [intOf]; omega
              | true =>
                rw [hMab] at s0
                by_cases h0 : bk' a = 0
                · have HN := Lib.hid (HSN.out.trans (aStep_yes hMab h0))
                  have HNE := Lib.hid (show b ≠ a from fun e => by rw [e, HIR.out] at hMab; cases hMab)
                  rw [h0] at y0
                  clear hMab
                  go_upto_region 19 with fail
                  refine lay_wp (fun W => CellsAt (wCells wb fun q => if q = a then 1 else nI bk' q) W ∧ QueI (wb + 1) W (.slice (some ⟨br, orr, none⟩) (natsI q').length cr) (natsI q') ∧ Ext wq W) ⟨wCells_put HCL'.out ha16 1 (fun q _ => rfl), HQ'.out.put (by omega) _ _, HX'.out.setCell (by rw [HWB.out]; exact Nat.le_refl _) _⟩ ?_
                  rintro W5 ⟨hc5, hq5, hx5⟩
                  have HC5 := Lib.hid hc5
                  have HQ5 := Lib.hid hq5
                  have HX5 := Lib.hid hx5
                  obtain ⟨e0, e1⟩ := wCells_at.1 hc5 a ha16
                  obtain ⟨d0, d1⟩ := wCells_at.1 hc5 b hb16
                  have hne : ¬ b = a := HNE.out
                  simp only [if_pos, if_neg hne] at e0 d0
                  unfold nI at d0
                  rw [HABM.out] at d0
                  have le0 := cell_lt e0
                  clear y0 y1 ly0 s0 ls0 hc5 hq5 hx5
                  by_cases hbf : b = f
                  · have hbfb : ((b : Int) != (f : Int)) = false := by simp; omega
                    have HV0 := Lib.hid (show vb = 0 by rw [HVB.out]; exact if_pos hbf)
                    clear hbf
                    go_upto_region 21 with fail
                    refine lay_wp (fun W => CellsAt (wCells wb (nI fun q => if q = a then vb + 1 else bk' q)) W ∧ QueI (wb + 1) W (.slice (some ⟨br, orr, none⟩) (natsI q').length cr) (natsI q') ∧ Ext wq W) ⟨wCells_congr HC5.out fun q _ => put_first HV0.out q, HQ5.out, HX5.out⟩ ?_
                    rintro W6 ⟨hc6, hq6, hx6⟩
                    have HC6 := Lib.hid hc6
                    have HQ6 := Lib.hid hq6
                    have HX6 := Lib.hid hx6
                    have hs6 : wb + 1 ≤ W6.heap.size := by have := (wCells_at.1 hc6 0 (by decide)).1; have := cell_lt this; omega
                    have HQL := Lib.hid (show (natsI q').length ≤ 1000000000 by rw [natsI_len]; omega)
                    clear e0 e1 d0 d1 le0 hc6 hq6 hx6
                    go_wp2_with (at_builtin; refine QueI.app (B := wb + 1) (zs := natsI q') rfl (.tmp 72) (.tmp 74) rfl W6.heap.size 1 (a : Int) rfl rfl (by go_cell) (HQ6.out.ext ((Ext.refl _).alloc _)) (by simp; omega) HQL.out ?_; intro v' w3 o3 b3 g3; have HO3 := Lib.hid o3; have HC3 := Lib.hid (wCells_que (HC6.out.ext ((Ext.refl _).alloc _)) g3 hbr (by omega)); have HX3 := Lib.hid ((HX6.out.alloc (.cells #[.int .i64 (a : Int)] 3)).below b3 (by rw [HWB.out]; omega)); clear o3 b3 g3)
                    go_roundw
                    case rel => exact ⟨a + 1, by omega, by omega, by go_num, by rw [show a + 1 - f = a - f + 1 by omega, HN.out]; show QueI _ _ _ (natsI (q' ++ [a])); rw [natsI_snoc]; exact HO3.out, by rw [show a + 1 - f = a - f + 1 by omega, HN.out]; exact HC3.out, HX3.out⟩
                    case measure => simp [intOf]; omega
                  · have hbfb : ((b : Int) != (f : Int)) = true := by simp; omega
                    have HV0 := Lib.hid (show bk b = vb by rw [HVB.out]; exact (if_neg hbf).symm)
                    rw [HV0.out] at d0
                    have hw1 : IntKind.i64.wrap (1 + (vb : Int)) = 1 + (vb : Int) := by apply IntWalk.i64_in <;> omega
                    clear hbf
                    go_upto_region 20 with fail
                    refine wp_region_still_tail 8 (by kernel_rfl) (by kernel_rfl) ?_
                    simp only [List.take_succ_cons, List.take_zero, List.drop_succ_cons, List.drop_zero]
                    repeat (refine wpStill_step (fun K hK => ?_); go_simp; (try go_bits); refine hK _ ?_; clear hK K)
                    refine wpStill_nil ?_
                    change wpList _ _ _ _ _ W5.drew
                    go_upto_region 21 with fail
                    refine lay_wp (fun W => CellsAt (wCells wb (nI fun q => if q = a then vb + 1 else bk' q)) W ∧ QueI (wb + 1) W (.slice (some ⟨br, orr, none⟩) (natsI q').length cr) (natsI q') ∧ Ext wq W) ⟨wCells_put (HC5.out.ext (Ext.refl _).drew) ha16 _ (fun q _ => put_next q), (HQ5.out.ext (Ext.refl _).drew).put (by omega) _ _, HX5.out.drew.setCell (by rw [HWB.out]; exact Nat.le_refl _) _⟩ ?_
                    rintro W6 ⟨hc6, hq6, hx6⟩
                    have HC6 := Lib.hid hc6
                    have HQ6 := Lib.hid hq6
                    have HX6 := Lib.hid hx6
                    have hs6 : wb + 1 ≤ W6.heap.size := by have := (wCells_at.1 hc6 0 (by decide)).1; have := cell_lt this; omega
                    have HQL := Lib.hid (show (natsI q').length ≤ 1000000000 by rw [natsI_len]; omega)
                    clear e0 e1 d0 d1 le0 hc6 hq6 hx6
                    go_wp2_with (at_builtin; refine QueI.app (B := wb + 1) (zs := natsI q') rfl (.tmp 72) (.tmp 74) rfl W6.heap.size 1 (a : Int) rfl rfl (by go_cell) (HQ6.out.ext ((Ext.refl _).alloc _)) (by simp; omega) HQL.out ?_; intro v' w3 o3 b3 g3; have HO3 := Lib.hid o3; have HC3 := Lib.hid (wCells_que (HC6.out.ext ((Ext.refl _).alloc _)) g3 hbr (by omega)); have HX3 := Lib.hid ((HX6.out.alloc (.cells #[.int .i64 (a : Int)] 3)).below b3 (by rw [HWB.out]; omega)); clear o3 b3 g3)
                    go_roundw
                    case rel => exact ⟨a + 1, by omega, by omega, by go_num, by rw [show a + 1 - f = a - f + 1 by omega, HN.out]; show QueI _ _ _ (natsI (q' ++ [a])); rw [natsI_snoc]; exact HO3.out, by rw [show a + 1 - f = a - f + 1 by omega, HN.out]; exact HC3.out, HX3.out⟩
                    case measure => simp [intOf]; omega
                · have HN := Lib.hid (HSN.out.trans (aStep_no (.inr h0)))
                  have hz : ((bk' a : Nat) : Int) ≠ 0 := by omega
                  generalize ((bk' a : Nat) : Int) = z at *
                  have hzb : (z == 0) = false := by simpa using hz
                  clear hMab hz
                  go_wp2_with fail
                  go_roundw
                  case rel => exact ⟨a + 1, by omega, by omega, by go_num, by rw [show a + 1 - f = a - f + 1 by omega, HN.out]; exact HQ'.out, by rw [show a + 1 - f = a - f + 1 by omega, HN.out]; exact HCL'.out, HX'.out⟩
                  case measure => simp [intOf]; omega
            · obtain rfl : a = n := by omega
              have HDN := Lib.hid (show bTo M f a (t + 1) = (q', bk') by rw [HST2.out, ← HSS.out])
              have HDM := Lib.hid (show q'.length + unset a bk' + 1 = l.length + 1 + unset a bk by
                have := HBSZ.out (by simp)
                rw [← HST.out, HDN.out] at this
                exact this)
              have hmA := qMeas_eq HCL.out h16
              have hmB := qMeas_eq HCL'.out h16
              go_wp2_with fail
              go_roundw
              case rel => exact ⟨t + 1, by omega, by rw [HDN.out]; exact HQ'.out, by rw [HDN.out]; exact HCL'.out, HX'.out⟩
              case measure =>
                rw [hmA, hmB, natsI_len]
                have := HDM.out
                omega
    · obtain rfl : f = n := by omega
      rcases HBS.out with ⟨hl, hv⟩ | ⟨l, hl, hv, b, c', hs⟩
      · obtain ⟨h1, h2⟩ := HLN.out hl
        have HE := Lib.hid (And.intro h1 h2)
        subst hv
        have he : ∀ w : World, (binOp .eql 36 (.slice none 0 0) (.slice none 0 0)).run Try.prog w = .ok (.bool true) w := fun _ => rfl
        clear hl h1 h2
        go_wp2_with fail
        go_ret2
        exact retEW_mk (EK.Own.nil _ _) HE.out.1 HE.out.2 (HX3.out.trans HXR.out)
      · obtain ⟨h1, h2⟩ := HLS.out l hl
        have HE := Lib.hid (And.intro h1 h2)
        subst hs
        have he : ∀ w : World, (binOp .eql 36 (.slice (some ⟨b, 0, none⟩) l.length c') (.slice none 0 0)).run Try.prog w = .ok (.bool false) w := fun _ => rfl
        have HV := Lib.hid hv
        clear hl h1 h2 hv
        go_wp2_with fail
        go_ret2
        exact retEW_mk (HV.out.mono HX3.out.bel.size) HE.out.1 HE.out.2 (HX3.out.trans HXR.out)
end Go.Proofs.Ytgeapenglcohfaa
