/- A twin whose cuts are changed in place. No condition. -/
import Derived.Test.YtlljhimaopnbfaaQS
import Derived.Test.YtlljhimaopnbfaaQTail
import Derived.Test.YtlljhimaopnbfaaQDag
import Derived.Maps.AppendAt
import Derived.Test.YtlljhimaopnbfaaDraw
import Derived.Test.YtlljhimaopnbfaaElem
import Derived.Test.YtlljhimaopnbfaaESlot
import Derived.Test.YtlljhimaopnbfaaGChk
import Derived.Deep.Cut
namespace Go.Proofs.Ytlljhimaopnbfaa
section
/- GAppD: A whole slice is appended, as an operation of a net. No condition. -/
section
/- GAppA: A whole slice is appended. No condition. -/
open Go.RowKit

section
variable {α : Type} {K : EK α} {F : Fence} {n : Nat}

theorem EK.Is.flat {w : World} {ad : Addr} {m c : Nat} {xs : List α} (h : K.Is w (.slice (some ad) m c) xs) : ∀ j u, (xs.flatMap K.enc)[j]? = some u → w.cell? (ad.add j) = some u := by
  intro j u hj
  obtain ⟨A, c', he, _, _, hr⟩ := h
  simp only [Value.slice.injEq] at he
  obtain ⟨rfl, rfl, rfl⟩ := he
  have hp := K.pos
  have hlt : j < xs.length * K.k := by
    rw [← flat_len K xs]
    exact (List.getElem?_eq_some_iff.1 hj).1
  have hq : j / K.k < xs.length := Nat.div_lt_of_lt_mul (by rw [Nat.mul_comm]; exact hlt)
  have hi : j % K.k < K.k := Nat.mod_lt _ hp
  have hj' : j / K.k * K.k + j % K.k = j := by rw [Nat.mul_comm]; exact Nat.div_add_mod j K.k
  obtain ⟨b, o, hA, _, hc⟩ := hr (j / K.k) hq
  simp only [Option.some.injEq] at hA
  subst hA
  rw [← hj', flat_at K xs _ hq _ hi] at hj
  have := hc _ _ hj
  rw [Nat.add_assoc, hj'] at this
  simp only [Addr.add]
  split
  · rename_i h0
    subst h0
    exact this
  · exact this

theorem EK.appAll {w : World} {ops : Array Oper} {rest : List Oper} {o : Oper} {a : Act} {Q : Exit → Act → World → Prop} (hgd : o.guard = none) (s x : Operand)
    (ho : o.op = .call { callee := .builtin .append, args := #[s, x], argTypes := #[K.st, K.st] })
    {B : Nat} {v : Value} {xs ys : List α} {A : Option Addr} {m c : Nat} (hs : a.eval s = v) (hx : a.eval x = .slice A m c)
    (hu : K.Is w (.slice A m c) ys) (hown : K.Own B w v xs) (hB : B ≤ w.heap.size) (hlen : xs.length + ys.length ≤ 1000000000)
    (h : ∀ v' w', K.Own B w' v' (xs ++ ys) → Below B w w' → w.grownBy w' v.ownBlock → wpList Try.prog ops Q rest (a.put o.dst v') w') : wpList Try.prog ops Q (o :: rest) a w := by
  obtain ⟨i0, hi, hz0, hz1, hz2⟩ := info_parts K.info
  have hsm := K.small
  have hm : m = ys.length := by
    obtain ⟨_, _, he, _⟩ := hu
    simp only [Value.slice.injEq] at he
    exact he.2.1
  match A with
  | none =>
    obtain ⟨A', c', he, h0, _, hr⟩ := hu
    simp only [Value.slice.injEq] at he
    obtain ⟨rfl, -, rfl⟩ := he
    have hy : ys = [] := by
      rcases ys with _ | ⟨y, ys⟩
      · rfl
      · obtain ⟨_, _, he, _⟩ := hr 0 (by simp)
        cases he
    subst hy
    obtain rfl := h0 rfl
    subst hm
    refine wpList_append_own_none hgd s x K.st ho B K.ty i0 K.k K.und hi v _ _ hs hown hx (h v w (by simpa using hown) (Below.refl B w) ⟨rfl, rfl, rfl, Nat.le_refl _, fun _ _ _ => rfl⟩)
  | some ad =>
    have hf := hu.flat
    refine wpList_append_own w hgd s x K.st ho B K.ty i0 K.z K.k K.bytes K.und hi hz0 hz1 hz2 K.hzs K.pos v _ _ hs hown ad m c (ys.flatMap K.enc) hx (by rw [flat_len, hm]) hf (fun u hu => ?_) (by simp only [maxLen]; omega) ?_ hB (fun v' w' h1 h2 _ => h v' w' (by simpa [EK.Own, hm] using h1) ?_ h2)
    · obtain ⟨y, _, hy⟩ := List.mem_flatMap.1 hu
      exact K.one y u hy
    · exact Nat.le_trans (Nat.mul_le_mul (show xs.length + m ≤ 1000000000 by omega) hsm) (by decide)
    · exact (Below.refl B w).grown h2 hB fun k hk => (World.ownsRow.lt hown k hk).1

/-- The same in a region that draws its order. -/
theorem EK.appAll_mid {w : World} {ops : Array Oper} {Q : Act → World → Prop} {i : Nat} {is : List Nat} {o : Oper} {a : Act} (h0 : ops[i]? = some o) (hgd : o.guard = none) (s x : Operand)
    (ho : o.op = .call { callee := .builtin .append, args := #[s, x], argTypes := #[K.st, K.st] })
    {B : Nat} {v : Value} {xs ys : List α} {A : Option Addr} {m c : Nat} (hs : a.eval s = v) (hx : a.eval x = .slice A m c)
    (hu : K.Is w (.slice A m c) ys) (hown : K.Own B w v xs) (hB : B ≤ w.heap.size) (hlen : xs.length + ys.length ≤ 1000000000)
    (h : ∀ v' w1 w2, K.Own B w2 v' (xs ++ ys) → Ext w w1 → w1.grownBy w2 v.ownBlock → wpMD v.ownBlock.toList F n Try.prog ops Q is (a.put o.dst v') w2) : wpMD v.ownBlock.toList F n Try.prog ops Q (i :: is) a w := by
  refine wpMD_run h0 hgd (fun _ => by simp [Oper.about, ho, resolve, Target.leads, Sem.run_pure]) fun w1 X => ?_
  obtain ⟨i0, hi, hz0, hz1, hz2⟩ := info_parts K.info
  have hsm := K.small
  have hu1 := hu.ext X
  have hm : m = ys.length := by
    obtain ⟨_, _, he, _⟩ := hu
    simp only [Value.slice.injEq] at he
    exact he.2.1
  match A with
  | none =>
    obtain ⟨A', c', he, h0', _, hr⟩ := hu
    simp only [Value.slice.injEq] at he
    obtain ⟨rfl, -, rfl⟩ := he
    have hy : ys = [] := by
      rcases ys with _ | ⟨y, ys⟩
      · rfl
      · obtain ⟨_, _, he, _⟩ := hr 0 (by simp)
        cases he
    subst hy
    obtain rfl := h0' rfl
    subst hm
    have hrun := run_append_owned_none (P := Try.prog) (w := w1) B K.st o.type K.ty i0 K.k K.und hi v _ _ (hown.ext X)
    refine ⟨v, w1, ?_, But.refl _ w1, h v w1 w1 (by simpa using hown.ext X) X ⟨rfl, rfl, rfl, Nat.le_refl _, fun _ _ _ => rfl⟩⟩
    simp [execOp, ho, resolve, invoke, builtin, hs, hx, hrun, Result.andThen]
  | some ad =>
    obtain ⟨v', w2, hrun, r1, r2, _⟩ := run_append_own (P := Try.prog) w1 B K.st o.type K.ty i0 K.z K.k K.bytes K.und hi hz0 hz1 hz2 K.hzs K.pos v _ _ (hown.ext X) ad m c (ys.flatMap K.enc) (by rw [flat_len, hm]) hu1.flat (fun u hu => by
      obtain ⟨y, _, hy⟩ := List.mem_flatMap.1 hu
      exact K.one y u hy) (by simp only [maxLen]; omega) (Nat.le_trans (Nat.mul_le_mul (show xs.length + m ≤ 1000000000 by omega) hsm) (by decide)) (Nat.le_trans hB X.bel.size)
    refine ⟨v', w2, ?_, (But.refl _ w1).grown r2 (fun r e => .inl (by rw [e]; simp)), h v' w1 w2 (by simpa [EK.Own, hm] using r1) X r2⟩
    simp [execOp, ho, resolve, invoke, builtin, hs, hx, hrun, Result.andThen]
theorem EK.appAll_s {w : World} {ops : Array Oper} {T : Act → World → Prop} {i : Nat} {is : List (Nat × Bool)} {o : Oper} {a : Act} (h0 : ops[i]? = some o) (hgd : o.guard = none) (s x : Operand)
    (ho : o.op = .call { callee := .builtin .append, args := #[s, x], argTypes := #[K.st, K.st] })
    {B : Nat} {v : Value} {xs ys : List α} {A : Option Addr} {m c : Nat} (hs : a.eval s = v) (hx : a.eval x = .slice A m c)
    (hu : K.Is w (.slice A m c) ys) (hown : K.Own B w v xs) (hB : B ≤ w.heap.size) (hlen : xs.length + ys.length ≤ 1000000000)
    (h : ∀ v' w1 w2, K.Own B w2 v' (xs ++ ys) → Ext w w1 → w1.grownBy w2 v.ownBlock → wpSD v.ownBlock.toList F n Try.prog ops T is (a.put o.dst v') w2) : wpSD v.ownBlock.toList F n Try.prog ops T ((i, false) :: is) a w := by
  have := EK.appAll_mid (F := F) (n := n) (Q := wpSD v.ownBlock.toList F n Try.prog ops T is) (is := []) h0 hgd s x ho hs hx hu hown hB hlen h
  exact this
theorem wanted_noneG {o : Oper} {ops : Array Oper} {a : Act} (hg : o.guard = none) : Region.wanted o (yielded ops a.tmps) = true := by simp [Region.wanted, hg]
/-- The same, where the slice lies in a block that the region made. -/
theorem EK.appAll_M {B : Nat} {w : World} {ops : Array Oper} {Q : Act → World → Prop} {i : Nat} {is : List Nat} {o : Oper} {a : Act} (h0 : ops[i]? = some o) (hgd : o.guard = none) (s x : Operand)
    (ho : o.op = .call { callee := .builtin .append, args := #[s, x], argTypes := #[K.st, K.st] })
    {B' : Nat} {v : Value} {xs ys : List α} {A : Option Addr} {m c : Nat} (hs : a.eval s = v) (hx : a.eval x = .slice A m c)
    (hu : K.Is w (.slice A m c) ys) (hown : K.Own B' w v xs) (hBB : B ≤ B') (hB : B' ≤ w.heap.size) (hlen : xs.length + ys.length ≤ 1000000000)
    (h : ∀ v' w', K.Own B' w' v' (xs ++ ys) → Below B' w w' → wpM B Try.prog ops Q is (a.put o.dst v') w') : wpM B Try.prog ops Q (i :: is) a w := by
  obtain ⟨i0, hi, hz0, hz1, hz2⟩ := info_parts K.info
  have hsm := K.small
  refine ⟨o, h0, wanted_noneG hgd, fun w1 X => ⟨by simp [Oper.about, ho, resolve, Target.leads, Sem.run_pure], ?_⟩⟩
  have hu1 := hu.ext X
  have hm : m = ys.length := by
    obtain ⟨_, _, he, _⟩ := hu
    simp only [Value.slice.injEq] at he
    exact he.2.1
  match A with
  | none =>
    obtain ⟨A', c', he, h0', _, hr⟩ := hu
    simp only [Value.slice.injEq] at he
    obtain ⟨rfl, -, rfl⟩ := he
    have hy : ys = [] := by
      rcases ys with _ | ⟨y, ys⟩
      · rfl
      · obtain ⟨_, _, he, _⟩ := hr 0 (by simp)
        cases he
    subst hy
    obtain rfl := h0' rfl
    subst hm
    have hrun := run_append_owned_none (P := Try.prog) (w := w1) B' K.st o.type K.ty i0 K.k K.und hi v _ _ (hown.ext X)
    refine ⟨v, w1, ?_, Below.refl _ _, h v w1 (by simpa using hown.ext X) (X.belB hB)⟩
    simp [execOp, ho, resolve, invoke, builtin, hs, hx, hrun, Result.andThen]
  | some ad =>
    obtain ⟨v', w2, hrun, r1, r2, _⟩ := run_append_own (P := Try.prog) w1 B' K.st o.type K.ty i0 K.z K.k K.bytes K.und hi hz0 hz1 hz2 K.hzs K.pos v _ _ (hown.ext X) ad m c (ys.flatMap K.enc) (by rw [flat_len, hm]) hu1.flat (fun u hu => by
      obtain ⟨y, _, hy⟩ := List.mem_flatMap.1 hu
      exact K.one y u hy) (by simp only [maxLen]; omega) (Nat.le_trans (Nat.mul_le_mul (show xs.length + m ≤ 1000000000 by omega) hsm) (by decide)) (Nat.le_trans hB X.bel.size)
    have hb2 : Below B' w1 w2 := (Below.refl B' w1).grown r2 (Nat.le_trans hB X.bel.size) fun k hk => (World.ownsRow.lt (hown.ext X) k hk).1
    refine ⟨v', w2, ?_, hb2.mono hBB, h v' w2 (by simpa [EK.Own, hm] using r1) ((X.belB hB).trans hb2)⟩
    simp [execOp, ho, resolve, invoke, builtin, hs, hx, hrun, Result.andThen]
end
end
section
/- LSlotG: Elements of a slice of the call's own are read and stored in place. No condition. -/
open Go.RowKit

/-- A block that lies as it was made. -/
def BoxAt (b : Nat) (cs : Array Value) (T : TypeId) (W : World) : Prop := W.heap[b]? = some (.cells cs T)
theorem BoxAt.new (w : World) (cs : Array Value) (T : TypeId) : BoxAt w.heap.size cs T (w.alloc (.cells cs T)) := heap_alloc_new w _
theorem BoxAt.cell {b : Nat} {cs : Array Value} {T : TypeId} {W : World} (h : BoxAt b cs T W) {i : Nat} {u : Value} (hu : cs.toList[i]? = some u) : W.cell? ⟨b, i, none⟩ = some u := by
  have h2 : cs[i]? = some u := by simpa using hu
  unfold BoxAt at h
  unfold World.cell?
  simp only [h]
  exact h2
theorem BoxAt.lt {b : Nat} {cs : Array Value} {T : TypeId} {W : World} (h : BoxAt b cs T W) : b < W.heap.size := (Array.getElem?_eq_some_iff.1 h).1
theorem BoxAt.ext {b : Nat} {cs : Array Value} {T : TypeId} {W W' : World} (h : BoxAt b cs T W) (x : Ext W W') : BoxAt b cs T W' := (x.bel.block b h.lt).trans h
theorem EK.Own.box_ne {α : Type} {K : EK α} {B b : Nat} {w : World} {v : Value} {xs : List α} {cs : Array Value} {T : TypeId} (h : K.Own B w v xs) (hb : BoxAt b cs T w) (hne : K.ty ≠ T) : v.ownBlock ≠ some b := by
  rcases h.2 with ⟨rfl, _⟩ | ⟨g, cap, cur, rfl, _, hg, _⟩
  · exact fun e => by cases e
  · intro e
    simp only [Value.ownBlock, Option.some.injEq] at e
    subst e
    unfold BoxAt at hb
    rw [hg] at hb
    simp only [Option.some.injEq, Obj.cells.injEq] at hb
    exact hne hb.2.1
theorem BoxAt.grown {α : Type} {K : EK α} {B b : Nat} {w w' : World} {v : Value} {xs : List α} {cs : Array Value} {T : TypeId} (h : BoxAt b cs T w) (ho : K.Own B w v xs) (hne : K.ty ≠ T) (g : w.grownBy w' v.ownBlock) : BoxAt b cs T w' :=
  (g.block b h.lt (fun e => ho.box_ne h hne e.symm)).trans h
/-- A struct stored whole. -/
theorem setRow_but (W : World) (g : Nat) (cs : Array Value) : But [g] W (W.setRow g cs) :=
  ⟨rfl, rfl, rfl, by simp [World.setRow], fun i _ hd => by
    have hne : g ≠ i := fun e => hd (by simp [e])
    simp [World.setRow, Array.getElem?_modify, hne]⟩
theorem BoxAt.setRow {b : Nat} {cs : Array Value} {T : TypeId} {W : World} (h : BoxAt b cs T W) (cs' : Array Value) : BoxAt b cs' T (W.setRow b cs') := setRow_heap W b cs cs' T _ h
theorem BoxAt.but {b : Nat} {cs : Array Value} {T : TypeId} {D : List Nat} {W W' : World} (h : BoxAt b cs T W) (x : But D W W') (hd : b ∉ D) : BoxAt b cs T W' := (x.block b h.lt hd).trans h
end
open Go.RowKit

/-- A whole variable is stored, as an operation of a net. -/
theorem store_D {F : Fence} {n B : Nat} {w1 : World} {T : Value → World → Prop} {o : Oper} {a : Act} {t : TypeId} {x d : Operand} {g : Nat} {z : Array Value} {v : Value} (ho : o.op = .store t d x) (hd : a.eval d = .pointer (some ⟨g, 0, none⟩)) (hx : a.eval x = v)
    (hg : BoxAt g z t w1) (hB : B ≤ g) (cs : Array Value) (hc : v.cells = cs) (hi : (Try.prog.info? t).map (·.size) = some cs.size) (hz : z.size = cs.size) (h1 : cs.all (·.oneCell') = true)
    (h : ∀ v' w2, BoxAt g cs t w2 → w1.grownBy w2 (some g) → But [g] w1 w2 → T v' w2) : DoneS B F n Try.prog w1 T ((execOp a.eval o).run Try.prog w1) := by
  subst hc
  obtain ⟨nx, hrun, hnx⟩ := run_store_block (P := Try.prog) hg hi hz h1 ho hd hx
  have hbut := setRow_but w1 g v.cells
  have hb : Below B w1 (w1.setRow g v.cells) := ⟨hbut.os, hbut.tape, hbut.output, hbut.size, fun k hk => hbut.block k (by have := hg.lt; omega) (by simp; omega)⟩
  have hgr : w1.grownBy (w1.setRow g v.cells) (some g) := ⟨hbut.os, hbut.tape, hbut.output, hbut.size, fun i hi hne => hbut.block i hi (by simpa using fun e => hne (by rw [e]))⟩
  rw [hrun]
  rcases hnx with rfl | ⟨u, rfl⟩
  · exact ⟨⟨hb, h _ _ (BoxAt.setRow hg _) hgr hbut⟩⟩
  · exact ⟨⟨hb, h _ _ (BoxAt.setRow hg _) hgr hbut⟩⟩
theorem BoxAt.two {b : Nat} {x y : Value} {T : TypeId} {W : World} (h : BoxAt b #[x, y] T W) : W.cell? ⟨b, 0, none⟩ = some x ∧ W.cell? ⟨b, 1, none⟩ = some y := ⟨h.cell rfl, h.cell rfl⟩

section
variable {α : Type} {K : EK α} {F : Fence} {n : Nat}
theorem EK.appAll_D {B : Nat} {w1 : World} {T : Value → World → Prop} {o : Oper} {ρ : Operand → Value} (s x : Operand)
    (ho : o.op = .call { callee := .builtin .append, args := #[s, x], argTypes := #[K.st, K.st] })
    {B' : Nat} {v : Value} {xs ys : List α} {y : Value} (hs : ρ s = v) (hx : ρ x = y)
    (hu1 : K.Is w1 y ys) (hown : K.Own B' w1 v xs) (hBB : B ≤ B') (hB : B' ≤ w1.heap.size) (hlen : xs.length + ys.length ≤ 1000000000)
    (h : ∀ v' w2, K.Own B' w2 v' (xs ++ ys) → w1.grownBy w2 v.ownBlock → Below B' w1 w2 → (v'.ownBlock = v.ownBlock ∨ v'.ownBlock = some w1.heap.size) → T v' w2) : DoneS B F n Try.prog w1 T ((execOp ρ o).run Try.prog w1) := by
  obtain ⟨i0, hi, hz0, hz1, hz2⟩ := info_parts K.info
  have hsm := K.small
  obtain ⟨A, m, c, rfl⟩ : ∃ A m c, y = .slice A m c := by
    obtain ⟨A, c, h, _⟩ := hu1
    exact ⟨A, _, c, h⟩
  have hm : m = ys.length := by
    obtain ⟨_, _, he, _⟩ := hu1
    simp only [Value.slice.injEq] at he
    exact he.2.1
  match A with
  | none =>
    obtain ⟨A', c', he, h0', _, hr⟩ := hu1
    simp only [Value.slice.injEq] at he
    obtain ⟨rfl, -, rfl⟩ := he
    have hy : ys = [] := by
      rcases ys with _ | ⟨y, ys⟩
      · rfl
      · obtain ⟨_, _, he, _⟩ := hr 0 (by simp)
        cases he
    subst hy
    obtain rfl := h0' rfl
    subst hm
    have hrun := run_append_owned_none (P := Try.prog) (w := w1) B' K.st o.type K.ty i0 K.k K.und hi v _ _ hown
    have he : (execOp ρ o).run Try.prog w1 = .ok (.value v) w1 := by simp [execOp, ho, resolve, invoke, builtin, hs, hx, hrun, Result.andThen]
    rw [he]
    exact ⟨⟨Below.refl _ _, h v w1 (by simpa using hown) ⟨rfl, rfl, rfl, Nat.le_refl _, fun _ _ _ => rfl⟩ (Below.refl _ _) (.inl rfl)⟩⟩
  | some ad =>
    obtain ⟨v', w2, hrun, r1, r2, _, r3⟩ := run_append_own_at (P := Try.prog) w1 B' K.st o.type K.ty i0 K.z K.k K.bytes K.und hi hz0 hz1 hz2 K.hzs K.pos v _ _ hown ad m c (ys.flatMap K.enc) (by rw [flat_len, hm]) hu1.flat (fun u hu => by
      obtain ⟨y, _, hy⟩ := List.mem_flatMap.1 hu
      exact K.one y u hy) (by simp only [maxLen]; omega) (Nat.le_trans (Nat.mul_le_mul (show xs.length + m ≤ 1000000000 by omega) hsm) (by decide)) hB
    have hb2 : Below B' w1 w2 := (Below.refl B' w1).grown r2 hB fun k hk => (World.ownsRow.lt hown k hk).1
    have he : (execOp ρ o).run Try.prog w1 = .ok (.value v') w2 := by simp [execOp, ho, resolve, invoke, builtin, hs, hx, hrun, Result.andThen]
    rw [he]
    exact ⟨⟨hb2.mono hBB, h v' w2 (by simpa [EK.Own, hm] using r1) r2 hb2 r3⟩⟩
theorem blkOf_own {B : Nat} {w : World} {v : Value} {xs : List α} (h : K.Own B w v xs) : blkOf v = v.ownBlock := by
  obtain ⟨A, c, rfl, _⟩ := h.is
  rfl
theorem own_keep {B : Nat} {w w' : World} {row : Option Nat} {v : Value} {xs : List α} (h : K.Own B w v xs) (hg : w.grownBy w' row) (hne : ∀ b, row = some b → blkOf v ≠ some b) : K.Own B w' v xs := by
  rw [blkOf_own h] at hne
  refine h.kept hg ?_
  cases row with
  | none => cases v.ownBlock <;> simp
  | some b => exact .inr (hne b rfl)
/-- A call's slice of its own: its block is new. -/
theorem own_fresh {W w2 : World} {v : Value} {xs : List α} (h : K.Own W.heap.size w2 v xs) : ∀ b, blkOf v = some b → b < w2.heap.size ∧ W.heap.size ≤ b := by
  intro b hb
  rw [blkOf_own h] at hb
  exact ⟨(h.lt b hb).2, (h.lt b hb).1⟩
theorem step_ext {ow : Nat → Nat} {os : List Nat} {Φ : Nat → (Nat → Value) → World → Prop} {r : Dag} {u : Nat → Value} {w1 w2 : World} {v : Value} (h : Φ r.i (updV u r.i v) w2) (x : Ext w1 w2) (hf : ∀ b, blkOf v = some b → b < w2.heap.size ∧ w1.heap.size ≤ b) (ho : ow r.i = r.i := by rfl) : StepOk ow os Φ r u w1 v w2 :=
  ⟨h, fun _ b hb => by rw [ho, updV_same] at hb; exact ⟨(hf b hb).1, .inl (hf b hb).2⟩, .inl x⟩
theorem step_none {ow : Nat → Nat} {os : List Nat} {Φ : Nat → (Nat → Value) → World → Prop} {r : Dag} {u : Nat → Value} {w1 w2 : World} {v : Value} (h : Φ r.i (updV u r.i v) w2) (x : Ext w1 w2) (hf : r.i ∉ os) : StepOk ow os Φ r u w1 v w2 :=
  ⟨h, fun hi _ _ => absurd hi hf, .inl x⟩
theorem box_keep {w w' : World} {row : Option Nat} {b : Nat} {cs : Array Value} {T : TypeId} (h : BoxAt b cs T w) (hg : w.grownBy w' row) (hne : ∀ b', row = some b' → b ≠ b') : BoxAt b cs T w' := by
  obtain ⟨_, _, _, _, hb⟩ := hg
  refine (hb b h.lt fun e => ?_).trans h
  exact hne b e.symm rfl
/-- An append, as a step of the net: it ends the fact of the slice that it appends to. -/
theorem step_app {ow : Nat → Nat} {os : List Nat} {Φ : Nat → (Nat → Value) → World → Prop} {r : Dag} {u : Nat → Value} {w1 w2 : World} {v' : Value} {B B' : Nat} {xs ys : List α} (k : Nat) (hk : k ∈ r.ends) (hko : k ∈ os) (h0 : K.Own B w1 (u k) xs) (h1 : K.Own B' w2 v' ys)
    (hg : w1.grownBy w2 (u k).ownBlock) (hat : v'.ownBlock = (u k).ownBlock ∨ v'.ownBlock = some w1.heap.size) (h : Φ r.i (updV u r.i v') w2) (ho : ow r.i = r.i := by rfl) (hk' : ow k = k := by rfl) : StepOk ow os Φ r u w1 v' w2 := by
  refine ⟨h, fun _ b hb => ?_, .inr ⟨k, hk, hko, by rw [hk', blkOf_own h0]; exact hg⟩⟩
  rw [ho, updV_same, blkOf_own h1] at hb
  refine ⟨(h1.lt b hb).2, ?_⟩
  rcases hat with e | e
  · exact .inr ⟨k, hk, hko, by rw [hk', blkOf_own h0, ← e]; exact hb⟩
  · rw [e] at hb
    cases hb
    exact .inl (Nat.le_refl _)
end
end
section
/- GWkA: Works that lie in a block; what is answered. No condition. -/
open Go.RowKit
/-- A slice and an error are answered. -/
def RetEW {α : Type} (K : EK α) (w : World) (zs : List α) (er : Int) (e : Ending) (w' : World) : Prop := ∃ v, e = .returned (.tuple #[v, .int .i64 er]) ∧ K.Own w.heap.size w' v zs ∧ Ext w w'
theorem retEW_mk {α : Type} {K : EK α} {w W : World} {zs zs' : List α} {v : Value} {er er' : Int} (ho : K.Own w.heap.size W v zs) (hz : zs' = zs) (he : er' = er) (x : Ext w W) : RetEW K w zs' er' (.returned (.tuple #[v, .int .i64 er])) W := by
  subst hz he
  exact ⟨v, rfl, ho, x⟩
theorem own_shapeW {α : Type} {K : EK α} {B : Nat} {w : World} {v : Value} {xs : List α} (h : K.Own B w v xs) : ∃ A k c, v = .slice A k c := by
  rcases h.2 with ⟨rfl, _⟩ | ⟨g, cap, cur, rfl, _⟩ <;> exact ⟨_, _, _, rfl⟩

abbrev RowT := Option Addr × Nat × Nat
/-- A work that lies in a block. -/
def WkAt (k : WkT) (sv : Value) (b : Nat) (W : World) : Prop := W.cell? ⟨b, 0, none⟩ = some (.int .i64 k.tip) ∧ W.cell? ⟨b, 1, none⟩ = some (.int .i64 k.num) ∧ W.cell? ⟨b, 2, none⟩ = some (.int .i64 k.den) ∧ W.cell? ⟨b, 3, none⟩ = some (.int .i64 k.bite) ∧ W.cell? ⟨b, 4, none⟩ = some (.int .i64 k.slack) ∧ W.cell? ⟨b, 5, none⟩ = some (.int .i64 k.wall) ∧ W.cell? ⟨b, 6, none⟩ = some (.int .i64 k.deepest) ∧ W.cell? ⟨b, 7, none⟩ = some (.int .i64 k.play) ∧ W.cell? ⟨b, 8, none⟩ = some (.int .i64 k.fx) ∧ W.cell? ⟨b, 9, none⟩ = some (.int .i64 k.fy) ∧ W.cell? ⟨b, 10, none⟩ = some (.int .i64 k.fh) ∧ W.cell? ⟨b, 11, none⟩ = some (.int .i64 k.fd) ∧ W.cell? ⟨b, 12, none⟩ = some sv
theorem WkAt.ext {k : WkT} {sv : Value} {b : Nat} {W W' : World} (h : WkAt k sv b W) (x : Ext W W') : WkAt k sv b W' := by
  obtain ⟨h0, h1, h2, h3, h4, h5, h6, h7, h8, h9, h10, h11, h12⟩ := h
  exact ⟨x.cell_some h0, x.cell_some h1, x.cell_some h2, x.cell_some h3, x.cell_some h4, x.cell_some h5, x.cell_some h6, x.cell_some h7, x.cell_some h8, x.cell_some h9, x.cell_some h10, x.cell_some h11, x.cell_some h12⟩
theorem WkAt.new (k : WkT) (sv : Value) (w : World) : WkAt k sv w.heap.size (w.alloc (.cells #[.int .i64 k.tip, .int .i64 k.num, .int .i64 k.den, .int .i64 k.bite, .int .i64 k.slack, .int .i64 k.wall, .int .i64 k.deepest, .int .i64 k.play, .int .i64 k.fx, .int .i64 k.fy, .int .i64 k.fh, .int .i64 k.fd, sv] 79)) :=
  ⟨cell_new rfl, cell_new rfl, cell_new rfl, cell_new rfl, cell_new rfl, cell_new rfl, cell_new rfl, cell_new rfl, cell_new rfl, cell_new rfl, cell_new rfl, cell_new rfl, cell_new rfl⟩
theorem WkAt.box {k : WkT} {sv : Value} {b : Nat} {W : World} (h : BoxAt b #[.int .i64 k.tip, .int .i64 k.num, .int .i64 k.den, .int .i64 k.bite, .int .i64 k.slack, .int .i64 k.wall, .int .i64 k.deepest, .int .i64 k.play, .int .i64 k.fx, .int .i64 k.fy, .int .i64 k.fh, .int .i64 k.fd, sv] 79 W) : WkAt k sv b W := ⟨h.cell rfl, h.cell rfl, h.cell rfl, h.cell rfl, h.cell rfl, h.cell rfl, h.cell rfl, h.cell rfl, h.cell rfl, h.cell rfl, h.cell rfl, h.cell rfl, h.cell rfl⟩
theorem WkAt.lt {k : WkT} {sv : Value} {b : Nat} {W : World} (h : WkAt k sv b W) : b < W.heap.size := cell_lt h.1
end
section
/- GTwinA: A twin of a work: its cuts lie in blocks of its own. No condition. -/
open Go.RowKit

section
variable {α : Type} {K : EK α}
theorem flat_put : ∀ (xs : List α) (j i : Nat) (y : α) (u : Value) (h : j < xs.length) (_ : i < K.k) (_ : K.enc y = (K.enc xs[j]).set i u), (xs.set j y).flatMap K.enc = (xs.flatMap K.enc).set (j * K.k + i) u
  | x :: xs, 0, i, y, u, _, hi, hy => by
    have hl : i < (K.enc x).length := by rw [K.len]; exact hi
    simp only [List.set_cons_zero, List.flatMap_cons, Nat.zero_mul, Nat.zero_add]
    rw [List.set_append_left _ _ hl]
    simp only [List.getElem_cons_zero] at hy
    rw [hy]
  | x :: xs, j + 1, i, y, u, h, hi, hy => by
    have ih := flat_put xs j i y u (by simpa using h) hi (by simpa using hy)
    simp only [List.set_cons_succ, List.flatMap_cons]
    rw [ih, List.set_append_right _ _ (by rw [K.len, Nat.succ_mul]; omega)]
    congr 2
    rw [K.len, Nat.succ_mul]
    omega
theorem EK.Own.putI {B : Nat} {w : World} {g c N : Nat} {xs : List α} (h : K.Own B w (.slice (some ⟨g, 0, none⟩) N c) xs) (hl : xs.length = N) {j i : Nat} (hj : j < xs.length) (hi : i < K.k) (y : α) (u : Value) (hy : K.enc y = (K.enc xs[j]).set i u) :
    K.Own B (w.setCell ⟨g, j * K.k + i, none⟩ u) (.slice (some ⟨g, 0, none⟩) N c) (xs.set j y) := by
  subst hl
  have := (World.ownsRow.stored h (j * K.k + i) u).1
  rw [← flat_put xs j i y u hj hi hy] at this
  simpa [EK.Own] using this
theorem own_lit2 {w : World} {o1 o2 : Obj} : K.Own w.heap.size (((w.alloc o1).alloc o2).alloc (.cells #[] K.ty)) (.slice (some ⟨w.heap.size + 1 + 1, 0, none⟩) 0 0) [] := by
  have := EK.Own.lit (K := K) (B := w.heap.size) ((w.alloc o1).alloc o2) #[] [] rfl (by simp; omega) (Nat.zero_le _)
  simpa using this
end

/-- The cuts of a twin: in blocks of its own, no two in the same one. -/
structure TwinM (k : WkT) (B : Nat) (w0 w : World) (v : Value) (Ts : List CutR) (j : Nat) : Prop where
  own : cutK.Own B w v Ts
  len : Ts.length = k.cuts.length
  rest : ∀ q (h : q < Ts.length) (h' : q < k.cuts.length), Ts[q].2 = k.cuts[q].2
  done : ∀ q (h : q < Ts.length) (h' : q < k.cuts.length), q < j → spotK.Own B w (rowV Ts[q].1) k.cuts[q].1
  old : ∀ q (h : q < Ts.length) (h' : q < k.cuts.length), j ≤ q → spotK.Is w0 (rowV Ts[q].1) k.cuts[q].1
  dist : ∀ p q (h : p < Ts.length) (h' : q < Ts.length), p < j → q < j → p ≠ q → (rowV Ts[p].1).ownBlock = none ∨ (rowV Ts[p].1).ownBlock ≠ (rowV Ts[q].1).ownBlock
theorem TwinM.ext {k : WkT} {B : Nat} {w0 w w' : World} {v : Value} {Ts : List CutR} {j : Nat} (h : TwinM k B w0 w v Ts j) (x : Ext w w') : TwinM k B w0 w' v Ts j :=
  ⟨h.own.ext x, h.len, h.rest, fun q a b c => (h.done q a b c).ext x, h.old, h.dist⟩
theorem TwinM.cuts {k : WkT} {B : Nat} {w0 w : World} {v : Value} {Ts : List CutR} (h : TwinM k B w0 w v Ts k.cuts.length) : CutsIs w v k.cuts :=
  ⟨Ts, h.own.is, h.len, fun q a b => ⟨(h.done q a b b).is, h.rest q a b⟩⟩

theorem spot_cut_ne : spotK.ty ≠ cutK.ty := by decide
/-- One more of the cuts' spots are copied. -/
theorem TwinM.step {k : WkT} {B : Nat} {w0 w w1 : World} {g c N : Nat} {Ts : List CutR} {j : Nat} (h : TwinM k B w0 w (.slice (some ⟨g, 0, none⟩) N c) Ts j) (hN : Ts.length = N) (hj : j < Ts.length) (hjk : j < k.cuts.length) (T1 : RowT) (x : Ext w w1)
    (ho : spotK.Own w.heap.size w1 (rowV T1) k.cuts[j].1) (hB : B ≤ w.heap.size) : TwinM k B w0 (w1.setCell ⟨g, j * 3, none⟩ (rowV T1)) (.slice (some ⟨g, 0, none⟩) N c) (Ts.set j (T1, Ts[j].2)) (j + 1) := by
  have e : ∀ q (hq : q < (Ts.set j (T1, Ts[j].2)).length), (Ts.set j (T1, Ts[j].2))[q] = if j = q then (T1, Ts[j].2) else Ts[q]'(by simpa using hq) := fun q hq => List.getElem_set ..
  have ho1 := h.own.ext x
  have hne : ∀ {B' : Nat} {v : Value} {xs : List (Int × Int)}, spotK.Own B' w1 v xs → spotK.Own B' (w1.setCell ⟨g, j * 3, none⟩ (rowV T1)) v xs := fun {B' v xs} hs => hs.oth (by
    have := own_ne hs ho1 spot_cut_ne
    simpa [Value.ownBlock] using this)
  refine ⟨?_, by simpa using h.len, fun q a b => ?_, fun q a b hq => ?_, fun q a b hq => ?_, fun p q a b hp hq hpq => ?_⟩
  · have := ho1.putI hN (j := j) (i := 0) hj (by decide) (T1, Ts[j].2) (rowV T1) rfl
    rw [Nat.add_zero] at this
    exact this
  · rw [e]
    split
    · rename_i hjq
      subst hjq
      exact h.rest j hj b
    · exact h.rest q (by simpa using a) b
  · rw [e]
    split
    · rename_i hjq
      subst hjq
      exact (hne ho).mono hB
    · exact hne ((h.done q (by simpa using a) b (by omega)).ext x)
  · rw [e, if_neg (by omega)]
    exact h.old q (by simpa using a) b (by omega)
  · have ha : p < Ts.length := by simpa using a
    have hb : q < Ts.length := by simpa using b
    have hlk := h.len
    rw [e, e]
    have key : ∀ p (ha : p < Ts.length), p < j → ∀ r, (rowV Ts[p].1).ownBlock = some r → r < w.heap.size := fun p ha hp r hr => ((h.done p ha (by omega) hp).lt r hr).2
    have keyj : ∀ r, (rowV T1).ownBlock = some r → w.heap.size ≤ r := fun r hr => (ho.lt r hr).1
    by_cases hpj : j = p
    · rw [if_pos hpj, if_neg (by omega)]
      cases hr : (rowV T1).ownBlock with
      | none => exact .inl rfl
      | some r =>
        refine .inr fun he => ?_
        have h1 := keyj r hr
        have h2 := key q hb (by omega) r he.symm
        omega
    · rw [if_neg hpj]
      by_cases hqj : j = q
      · rw [if_pos hqj]
        cases hr : (rowV Ts[p].1).ownBlock with
        | none => exact .inl rfl
        | some r =>
          refine .inr fun he => ?_
          have h1 := key p ha (by omega) r hr
          have h2 := keyj r he.symm
          omega
      · rw [if_neg hqj]
        exact h.dist p q ha hb (by omega) (by omega) hpq
/-- A cell of a block is stored. -/
theorem BoxAt.setCell {b : Nat} {cs : Array Value} {T : TypeId} {W : World} (h : BoxAt b cs T W) (i : Nat) (v : Value) : BoxAt b (cs.setIfInBounds i v) T (W.setCell ⟨b, i, none⟩ v) := by
  rw [setCell_eq_setRow W b i cs T (0, 0) v h]
  exact h.setRow _
theorem BoxAt.setOther {b : Nat} {cs : Array Value} {T : TypeId} {W : World} (h : BoxAt b cs T W) {p : Addr} (hp : b ≠ p.block) (v : Value) : BoxAt b cs T (W.setCell p v) := (heap_setCell_other W p b v hp).trans h
theorem twin_len {B : Nat} {w : World} {A : Option Addr} {k c n : Nat} {Ts : List CutR} (h : cutK.Own B w (.slice A k c) Ts) (hn : Ts.length = n) : k = n := by
  obtain ⟨_, _, he, _⟩ := h.is
  simp only [Value.slice.injEq] at he
  omega
theorem twin_boxes {w w3 : World} {cs ds : Array Value} {T S U : TypeId} (b3 : Below w.heap.size (((w.alloc (.cells cs T)).alloc (.cells ds S)).alloc (.cells #[] U)) w3) (g3 : (((w.alloc (.cells cs T)).alloc (.cells ds S)).alloc (.cells #[] U)).grownBy w3 (Value.slice (some ⟨w.heap.size + 1 + 1, 0, none⟩) 0 0).ownBlock) :
    BoxAt w.heap.size cs T w3 ∧ BoxAt (w.heap.size + 1) ds S w3 ∧ Ext w w3 := by
  have h1 : BoxAt w.heap.size cs T (((w.alloc (.cells cs T)).alloc (.cells ds S)).alloc (.cells #[] U)) := ((BoxAt.new w cs T).ext (((Ext.refl _).alloc _).alloc _))
  have h2 : BoxAt (w.heap.size + 1) ds S (((w.alloc (.cells cs T)).alloc (.cells ds S)).alloc (.cells #[] U)) := by
    have := (BoxAt.new (w.alloc (.cells cs T)) ds S).ext ((Ext.refl _).alloc (.cells #[] U))
    simpa using this
  refine ⟨(g3.block _ h1.lt (by simp [Value.ownBlock] <;> omega)).trans h1, (g3.block _ h2.lt (by simp [Value.ownBlock])).trans h2, ?_⟩
  exact Ext.below (((Ext.refl w).alloc _).alloc _ |>.alloc _) b3 (Nat.le_refl _)

theorem but_grown' {b : Nat} {W W' : World} (h : But [b] W W') : W.grownBy W' (some b) :=
  ⟨h.os, h.tape, h.output, h.size, fun i hi hne => h.block i hi (by simpa using fun e => hne (by rw [e]))⟩
/-- A struct of another type is stored whole: the twin's cuts stay. -/
theorem TwinM.row {k : WkT} {B b : Nat} {w0 w w' : World} {v : Value} {Ts : List CutR} {j : Nat} {cs : Array Value} {T : TypeId} (h : TwinM k B w0 w v Ts j) (hb : BoxAt b cs T w) (h1 : cutK.ty ≠ T) (h2 : spotK.ty ≠ T) (x : But [b] w w') : TwinM k B w0 w' v Ts j :=
  ⟨h.own.kept (but_grown' x) (.inr (h.own.box_ne hb h1)), h.len, h.rest, fun q a c d => (h.done q a c d).kept (but_grown' x) (.inr ((h.done q a c d).box_ne hb h2)), h.old, h.dist⟩
end
open Go.RowKit

def withC (k : WkT) (cs : List CutT) : WkT := { k with cuts := cs }
/-- A coordinate of a spot is stored. -/
theorem TwinM.spot {k : WkT} {B : Nat} {w0 w : World} {v : Value} {Ts : List CutR} (h : TwinM k B w0 w v Ts k.cuts.length) {i : Nat} (hi : i < Ts.length) (hi' : i < k.cuts.length) {gi c N : Nat} (hv : rowV Ts[i].1 = .slice (some ⟨gi, 0, none⟩) N c)
    {t e : Nat} (ht : t < k.cuts[i].1.length) (he : e < 2) (y : Int × Int) (u : Value) (hy : spotK.enc y = (spotK.enc k.cuts[i].1[t]).set e u) :
    TwinM (withC k (k.cuts.set i (k.cuts[i].1.set t y, k.cuts[i].2))) B w0 (w.setCell ⟨gi, t * 2 + e, none⟩ u) v Ts (withC k (k.cuts.set i (k.cuts[i].1.set t y, k.cuts[i].2))).cuts.length := by
  have hd := h.done i hi hi' hi'
  rw [hv] at hd
  have hN : k.cuts[i].1.length = N := by
    obtain ⟨_, _, e1, _⟩ := hd.is
    simp only [Value.slice.injEq] at e1
    exact e1.2.1.symm
  have hlen : (withC k (k.cuts.set i (k.cuts[i].1.set t y, k.cuts[i].2))).cuts.length = k.cuts.length := by simp [withC]
  have hat : ∀ q (a : q < (withC k (k.cuts.set i (k.cuts[i].1.set t y, k.cuts[i].2))).cuts.length), (withC k (k.cuts.set i (k.cuts[i].1.set t y, k.cuts[i].2))).cuts[q] = if i = q then (k.cuts[i].1.set t y, k.cuts[i].2) else k.cuts[q]'(by rw [hlen] at a; exact a) := fun q a => List.getElem_set ..
  refine ⟨?_, by rw [hlen]; exact h.len, fun q a b => ?_, fun q a b _ => ?_, fun q a b hq => ?_, fun p q a b hp hq => h.dist p q a b (by omega) (by omega)⟩
  · refine h.own.oth ?_
    have := own_ne h.own hd (Ne.symm spot_cut_ne)
    simpa [Value.ownBlock] using this
  · rw [hat]
    split
    · rename_i hq
      subst hq
      exact h.rest i a hi'
    · exact h.rest q a (by omega)
  · rw [hat]
    split
    · rename_i hq
      subst hq
      rw [hv]
      exact hd.putI hN ht he y u hy
    · rename_i hq
      have h1 := h.done q a (by omega) (by omega)
      refine h1.oth ?_
      have := h.dist q i a hi (by omega) hi' (fun e => hq e.symm)
      rw [hv] at this
      simpa [Value.ownBlock] using this
  · omega
/-- A cut's press is stored. -/
theorem TwinM.press {k : WkT} {B : Nat} {w0 w : World} {g c N : Nat} {Ts : List CutR} (h : TwinM k B w0 w (.slice (some ⟨g, 0, none⟩) N c) Ts k.cuts.length) {i : Nat} (hi : i < Ts.length) (hi' : i < k.cuts.length) (p : Int) :
    TwinM (withC k (k.cuts.set i (k.cuts[i].1, p, k.cuts[i].2.2))) B w0 (w.setCell ⟨g, i * 3 + 1, none⟩ (.int .i64 p)) (.slice (some ⟨g, 0, none⟩) N c) (Ts.set i (Ts[i].1, p, k.cuts[i].2.2)) (withC k (k.cuts.set i (k.cuts[i].1, p, k.cuts[i].2.2))).cuts.length := by
  have hN : Ts.length = N := by
    obtain ⟨_, _, e1, _⟩ := h.own.is
    simp only [Value.slice.injEq] at e1
    exact e1.2.1.symm
  have hlen : (withC k (k.cuts.set i (k.cuts[i].1, p, k.cuts[i].2.2))).cuts.length = k.cuts.length := by simp [withC]
  have hat : ∀ q (a : q < (withC k (k.cuts.set i (k.cuts[i].1, p, k.cuts[i].2.2))).cuts.length), (withC k (k.cuts.set i (k.cuts[i].1, p, k.cuts[i].2.2))).cuts[q] = if i = q then (k.cuts[i].1, p, k.cuts[i].2.2) else k.cuts[q]'(by rw [hlen] at a; exact a) := fun q a => List.getElem_set ..
  have hts : ∀ q (a : q < (Ts.set i (Ts[i].1, p, k.cuts[i].2.2)).length), (Ts.set i (Ts[i].1, p, k.cuts[i].2.2))[q] = if i = q then (Ts[i].1, p, k.cuts[i].2.2) else Ts[q]'(by simpa using a) := fun q a => List.getElem_set ..
  have hfst : ∀ q (a : q < (Ts.set i (Ts[i].1, p, k.cuts[i].2.2)).length), (Ts.set i (Ts[i].1, p, k.cuts[i].2.2))[q].1 = (Ts[q]'(by simpa using a)).1 := fun q a => by
    rw [hts]
    split
    · rename_i hq
      subst hq
      rfl
    · rfl
  refine ⟨?_, by rw [hlen]; simpa using h.len, fun q a b => ?_, fun q a b _ => ?_, fun q a b hq => ?_, fun p q a b hp hq hpq => ?_⟩
  · refine h.own.putI hN hi (by decide) _ _ ?_
    have := h.rest i hi hi'
    show [_, _, _] = List.set [_, _, _] 1 _
    rw [← this]
    rfl
  · rw [hat, hts]
    split
    · rfl
    · exact h.rest q (by simpa using a) (by omega)
  · rw [hfst]
    have h1 := h.done q (by simpa using a) (by omega) (by omega)
    have h2 : spotK.Own B (w.setCell ⟨g, i * 3 + 1, none⟩ (.int .i64 p)) (rowV (Ts[q]'(by simpa using a)).1) (k.cuts[q]'(by omega)).1 := by
      refine h1.oth ?_
      have := own_ne h1 h.own spot_cut_ne
      simpa [Value.ownBlock] using this
    rw [hat]
    split
    · rename_i hq
      subst hq
      exact h2
    · exact h2
  · omega
  · rw [hfst, hfst]
    exact h.dist p q (by simpa using a) (by simpa using b) (by omega) (by omega) hpq
end Go.Proofs.Ytlljhimaopnbfaa
