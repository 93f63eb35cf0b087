/- Blocks, and whole slices that are appended. No condition. -/
import Derived.Test.YtkjgcmdabelohaaQS
import Derived.Test.YtkjgcmdabelohaaQTail
import Derived.Test.YtkjgcmdabelohaaQDag
import Derived.Maps.AppendAt
import Derived.Test.YtkjgcmdabelohaaDraw
import Derived.Test.YtkjgcmdabelohaaElem
import Derived.Test.YtkjgcmdabelohaaESlot
namespace Go.Proofs.Ytkjgcmdabelohaa
section
/- GAppD: A whole slice is appended, as an operation of a net. No condition. -/
section
/- GAppA: A whole slice is appended. No condition. -/
open Go.RowKit

section
variable {α : Type} {K : EK α} {F : Fence} {n : Nat}

theorem EK.Is.flat {w : World} {ad : Addr} {m c : Nat} {xs : List α} (h : K.Is w (.slice (some ad) m c) xs) : ∀ j u, (xs.flatMap K.enc)[j]? = some u → w.cell? (ad.add j) = some u := by
  intro j u hj
  obtain ⟨A, c', he, _, _, hr⟩ := h
  simp only [Value.slice.injEq] at he
  obtain ⟨rfl, rfl, rfl⟩ := he
  have hp := K.pos
  have hlt : j < xs.length * K.k := by
    rw [← flat_len K xs]
    exact (List.getElem?_eq_some_iff.1 hj).1
  have hq : j / K.k < xs.length := Nat.div_lt_of_lt_mul (by rw [Nat.mul_comm]; exact hlt)
  have hi : j % K.k < K.k := Nat.mod_lt _ hp
  have hj' : j / K.k * K.k + j % K.k = j := by rw [Nat.mul_comm]; exact Nat.div_add_mod j K.k
  obtain ⟨b, o, hA, _, hc⟩ := hr (j / K.k) hq
  simp only [Option.some.injEq] at hA
  subst hA
  rw [← hj', flat_at K xs _ hq _ hi] at hj
  have := hc _ _ hj
  rw [Nat.add_assoc, hj'] at this
  simp only [Addr.add]
  split
  · rename_i h0
    subst h0
    exact this
  · exact this

theorem EK.appAll {w : World} {ops : Array Oper} {rest : List Oper} {o : Oper} {a : Act} {Q : Exit → Act → World → Prop} (hgd : o.guard = none) (s x : Operand)
    (ho : o.op = .call { callee := .builtin .append, args := #[s, x], argTypes := #[K.st, K.st] })
    {B : Nat} {v : Value} {xs ys : List α} {A : Option Addr} {m c : Nat} (hs : a.eval s = v) (hx : a.eval x = .slice A m c)
    (hu : K.Is w (.slice A m c) ys) (hown : K.Own B w v xs) (hB : B ≤ w.heap.size) (hlen : xs.length + ys.length ≤ 1000000000)
    (h : ∀ v' w', K.Own B w' v' (xs ++ ys) → Below B w w' → w.grownBy w' v.ownBlock → wpList Try.prog ops Q rest (a.put o.dst v') w') : wpList Try.prog ops Q (o :: rest) a w := by
  obtain ⟨i0, hi, hz0, hz1, hz2⟩ := info_parts K.info
  have hsm := K.small
  have hm : m = ys.length := by
    obtain ⟨_, _, he, _⟩ := hu
    simp only [Value.slice.injEq] at he
    exact he.2.1
  match A with
  | none =>
    obtain ⟨A', c', he, h0, _, hr⟩ := hu
    simp only [Value.slice.injEq] at he
    obtain ⟨rfl, -, rfl⟩ := he
    have hy : ys = [] := by
      rcases ys with _ | ⟨y, ys⟩
      · rfl
      · obtain ⟨_, _, he, _⟩ := hr 0 (by simp)
        cases he
    subst hy
    obtain rfl := h0 rfl
    subst hm
    refine wpList_append_own_none hgd s x K.st ho B K.ty i0 K.k K.und hi v _ _ hs hown hx (h v w (by simpa using hown) (Below.refl B w) ⟨rfl, rfl, rfl, Nat.le_refl _, fun _ _ _ => rfl⟩)
  | some ad =>
    have hf := hu.flat
    refine wpList_append_own w hgd s x K.st ho B K.ty i0 K.z K.k K.bytes K.und hi hz0 hz1 hz2 K.hzs K.pos v _ _ hs hown ad m c (ys.flatMap K.enc) hx (by rw [flat_len, hm]) hf (fun u hu => ?_) (by simp only [maxLen]; omega) ?_ hB (fun v' w' h1 h2 _ => h v' w' (by simpa [EK.Own, hm] using h1) ?_ h2)
    · obtain ⟨y, _, hy⟩ := List.mem_flatMap.1 hu
      exact K.one y u hy
    · exact Nat.le_trans (Nat.mul_le_mul (show xs.length + m ≤ 1000000000 by omega) hsm) (by decide)
    · exact (Below.refl B w).grown h2 hB fun k hk => (World.ownsRow.lt hown k hk).1

/-- The same in a region that draws its order. -/
theorem EK.appAll_mid {w : World} {ops : Array Oper} {Q : Act → World → Prop} {i : Nat} {is : List Nat} {o : Oper} {a : Act} (h0 : ops[i]? = some o) (hgd : o.guard = none) (s x : Operand)
    (ho : o.op = .call { callee := .builtin .append, args := #[s, x], argTypes := #[K.st, K.st] })
    {B : Nat} {v : Value} {xs ys : List α} {A : Option Addr} {m c : Nat} (hs : a.eval s = v) (hx : a.eval x = .slice A m c)
    (hu : K.Is w (.slice A m c) ys) (hown : K.Own B w v xs) (hB : B ≤ w.heap.size) (hlen : xs.length + ys.length ≤ 1000000000)
    (h : ∀ v' w1 w2, K.Own B w2 v' (xs ++ ys) → Ext w w1 → w1.grownBy w2 v.ownBlock → wpMD v.ownBlock.toList F n Try.prog ops Q is (a.put o.dst v') w2) : wpMD v.ownBlock.toList F n Try.prog ops Q (i :: is) a w := by
  refine wpMD_run h0 hgd (fun _ => by simp [Oper.about, ho, resolve, Target.leads, Sem.run_pure]) fun w1 X => ?_
  obtain ⟨i0, hi, hz0, hz1, hz2⟩ := info_parts K.info
  have hsm := K.small
  have hu1 := hu.ext X
  have hm : m = ys.length := by
    obtain ⟨_, _, he, _⟩ := hu
    simp only [Value.slice.injEq] at he
    exact he.2.1
  match A with
  | none =>
    obtain ⟨A', c', he, h0', _, hr⟩ := hu
    simp only [Value.slice.injEq] at he
    obtain ⟨rfl, -, rfl⟩ := he
    have hy : ys = [] := by
      rcases ys with _ | ⟨y, ys⟩
      · rfl
      · obtain ⟨_, _, he, _⟩ := hr 0 (by simp)
        cases he
    subst hy
    obtain rfl := h0' rfl
    subst hm
    have hrun := run_append_owned_none (P := Try.prog) (w := w1) B K.st o.type K.ty i0 K.k K.und hi v _ _ (hown.ext X)
    refine ⟨v, w1, ?_, But.refl _ w1, h v w1 w1 (by simpa using hown.ext X) X ⟨rfl, rfl, rfl, Nat.le_refl _, fun _ _ _ => rfl⟩⟩
    simp [execOp, ho, resolve, invoke, builtin, hs, hx, hrun, Result.andThen]
  | some ad =>
    obtain ⟨v', w2, hrun, r1, r2, _⟩ := run_append_own (P := Try.prog) w1 B K.st o.type K.ty i0 K.z K.k K.bytes K.und hi hz0 hz1 hz2 K.hzs K.pos v _ _ (hown.ext X) ad m c (ys.flatMap K.enc) (by rw [flat_len, hm]) hu1.flat (fun u hu => by
      obtain ⟨y, _, hy⟩ := List.mem_flatMap.1 hu
      exact K.one y u hy) (by simp only [maxLen]; omega) (Nat.le_trans (Nat.mul_le_mul (show xs.length + m ≤ 1000000000 by omega) hsm) (by decide)) (Nat.le_trans hB X.bel.size)
    refine ⟨v', w2, ?_, (But.refl _ w1).grown r2 (fun r e => .inl (by rw [e]; simp)), h v' w1 w2 (by simpa [EK.Own, hm] using r1) X r2⟩
    simp [execOp, ho, resolve, invoke, builtin, hs, hx, hrun, Result.andThen]
theorem EK.appAll_s {w : World} {ops : Array Oper} {T : Act → World → Prop} {i : Nat} {is : List (Nat × Bool)} {o : Oper} {a : Act} (h0 : ops[i]? = some o) (hgd : o.guard = none) (s x : Operand)
    (ho : o.op = .call { callee := .builtin .append, args := #[s, x], argTypes := #[K.st, K.st] })
    {B : Nat} {v : Value} {xs ys : List α} {A : Option Addr} {m c : Nat} (hs : a.eval s = v) (hx : a.eval x = .slice A m c)
    (hu : K.Is w (.slice A m c) ys) (hown : K.Own B w v xs) (hB : B ≤ w.heap.size) (hlen : xs.length + ys.length ≤ 1000000000)
    (h : ∀ v' w1 w2, K.Own B w2 v' (xs ++ ys) → Ext w w1 → w1.grownBy w2 v.ownBlock → wpSD v.ownBlock.toList F n Try.prog ops T is (a.put o.dst v') w2) : wpSD v.ownBlock.toList F n Try.prog ops T ((i, false) :: is) a w := by
  have := EK.appAll_mid (F := F) (n := n) (Q := wpSD v.ownBlock.toList F n Try.prog ops T is) (is := []) h0 hgd s x ho hs hx hu hown hB hlen h
  exact this
theorem wanted_noneG {o : Oper} {ops : Array Oper} {a : Act} (hg : o.guard = none) : Region.wanted o (yielded ops a.tmps) = true := by simp [Region.wanted, hg]
/-- The same, where the slice lies in a block that the region made. -/
theorem EK.appAll_M {B : Nat} {w : World} {ops : Array Oper} {Q : Act → World → Prop} {i : Nat} {is : List Nat} {o : Oper} {a : Act} (h0 : ops[i]? = some o) (hgd : o.guard = none) (s x : Operand)
    (ho : o.op = .call { callee := .builtin .append, args := #[s, x], argTypes := #[K.st, K.st] })
    {B' : Nat} {v : Value} {xs ys : List α} {A : Option Addr} {m c : Nat} (hs : a.eval s = v) (hx : a.eval x = .slice A m c)
    (hu : K.Is w (.slice A m c) ys) (hown : K.Own B' w v xs) (hBB : B ≤ B') (hB : B' ≤ w.heap.size) (hlen : xs.length + ys.length ≤ 1000000000)
    (h : ∀ v' w', K.Own B' w' v' (xs ++ ys) → Below B' w w' → wpM B Try.prog ops Q is (a.put o.dst v') w') : wpM B Try.prog ops Q (i :: is) a w := by
  obtain ⟨i0, hi, hz0, hz1, hz2⟩ := info_parts K.info
  have hsm := K.small
  refine ⟨o, h0, wanted_noneG hgd, fun w1 X => ⟨by simp [Oper.about, ho, resolve, Target.leads, Sem.run_pure], ?_⟩⟩
  have hu1 := hu.ext X
  have hm : m = ys.length := by
    obtain ⟨_, _, he, _⟩ := hu
    simp only [Value.slice.injEq] at he
    exact he.2.1
  match A with
  | none =>
    obtain ⟨A', c', he, h0', _, hr⟩ := hu
    simp only [Value.slice.injEq] at he
    obtain ⟨rfl, -, rfl⟩ := he
    have hy : ys = [] := by
      rcases ys with _ | ⟨y, ys⟩
      · rfl
      · obtain ⟨_, _, he, _⟩ := hr 0 (by simp)
        cases he
    subst hy
    obtain rfl := h0' rfl
    subst hm
    have hrun := run_append_owned_none (P := Try.prog) (w := w1) B' K.st o.type K.ty i0 K.k K.und hi v _ _ (hown.ext X)
    refine ⟨v, w1, ?_, Below.refl _ _, h v w1 (by simpa using hown.ext X) (X.belB hB)⟩
    simp [execOp, ho, resolve, invoke, builtin, hs, hx, hrun, Result.andThen]
  | some ad =>
    obtain ⟨v', w2, hrun, r1, r2, _⟩ := run_append_own (P := Try.prog) w1 B' K.st o.type K.ty i0 K.z K.k K.bytes K.und hi hz0 hz1 hz2 K.hzs K.pos v _ _ (hown.ext X) ad m c (ys.flatMap K.enc) (by rw [flat_len, hm]) hu1.flat (fun u hu => by
      obtain ⟨y, _, hy⟩ := List.mem_flatMap.1 hu
      exact K.one y u hy) (by simp only [maxLen]; omega) (Nat.le_trans (Nat.mul_le_mul (show xs.length + m ≤ 1000000000 by omega) hsm) (by decide)) (Nat.le_trans hB X.bel.size)
    have hb2 : Below B' w1 w2 := (Below.refl B' w1).grown r2 (Nat.le_trans hB X.bel.size) fun k hk => (World.ownsRow.lt (hown.ext X) k hk).1
    refine ⟨v', w2, ?_, hb2.mono hBB, h v' w2 (by simpa [EK.Own, hm] using r1) ((X.belB hB).trans hb2)⟩
    simp [execOp, ho, resolve, invoke, builtin, hs, hx, hrun, Result.andThen]
end
end
section
/- LSlotG: Elements of a slice of the call's own are read and stored in place. No condition. -/
open Go.RowKit

/-- A block that lies as it was made. -/
def BoxAt (b : Nat) (cs : Array Value) (T : TypeId) (W : World) : Prop := W.heap[b]? = some (.cells cs T)
theorem BoxAt.new (w : World) (cs : Array Value) (T : TypeId) : BoxAt w.heap.size cs T (w.alloc (.cells cs T)) := heap_alloc_new w _
theorem BoxAt.cell {b : Nat} {cs : Array Value} {T : TypeId} {W : World} (h : BoxAt b cs T W) {i : Nat} {u : Value} (hu : cs.toList[i]? = some u) : W.cell? ⟨b, i, none⟩ = some u := by
  have h2 : cs[i]? = some u := by simpa using hu
  unfold BoxAt at h
  unfold World.cell?
  simp only [h]
  exact h2
theorem BoxAt.lt {b : Nat} {cs : Array Value} {T : TypeId} {W : World} (h : BoxAt b cs T W) : b < W.heap.size := (Array.getElem?_eq_some_iff.1 h).1
theorem BoxAt.ext {b : Nat} {cs : Array Value} {T : TypeId} {W W' : World} (h : BoxAt b cs T W) (x : Ext W W') : BoxAt b cs T W' := (x.bel.block b h.lt).trans h
theorem EK.Own.box_ne {α : Type} {K : EK α} {B b : Nat} {w : World} {v : Value} {xs : List α} {cs : Array Value} {T : TypeId} (h : K.Own B w v xs) (hb : BoxAt b cs T w) (hne : K.ty ≠ T) : v.ownBlock ≠ some b := by
  rcases h.2 with ⟨rfl, _⟩ | ⟨g, cap, cur, rfl, _, hg, _⟩
  · exact fun e => by cases e
  · intro e
    simp only [Value.ownBlock, Option.some.injEq] at e
    subst e
    unfold BoxAt at hb
    rw [hg] at hb
    simp only [Option.some.injEq, Obj.cells.injEq] at hb
    exact hne hb.2.1
theorem BoxAt.grown {α : Type} {K : EK α} {B b : Nat} {w w' : World} {v : Value} {xs : List α} {cs : Array Value} {T : TypeId} (h : BoxAt b cs T w) (ho : K.Own B w v xs) (hne : K.ty ≠ T) (g : w.grownBy w' v.ownBlock) : BoxAt b cs T w' :=
  (g.block b h.lt (fun e => ho.box_ne h hne e.symm)).trans h
/-- A struct stored whole. -/
theorem setRow_but (W : World) (g : Nat) (cs : Array Value) : But [g] W (W.setRow g cs) :=
  ⟨rfl, rfl, rfl, by simp [World.setRow], fun i _ hd => by
    have hne : g ≠ i := fun e => hd (by simp [e])
    simp [World.setRow, Array.getElem?_modify, hne]⟩
theorem BoxAt.setRow {b : Nat} {cs : Array Value} {T : TypeId} {W : World} (h : BoxAt b cs T W) (cs' : Array Value) : BoxAt b cs' T (W.setRow b cs') := setRow_heap W b cs cs' T _ h
theorem BoxAt.but {b : Nat} {cs : Array Value} {T : TypeId} {D : List Nat} {W W' : World} (h : BoxAt b cs T W) (x : But D W W') (hd : b ∉ D) : BoxAt b cs T W' := (x.block b h.lt hd).trans h
end
open Go.RowKit

/-- A whole variable is stored, as an operation of a net. -/
theorem store_D {F : Fence} {n B : Nat} {w1 : World} {T : Value → World → Prop} {o : Oper} {a : Act} {t : TypeId} {x d : Operand} {g : Nat} {z : Array Value} {v : Value} (ho : o.op = .store t d x) (hd : a.eval d = .pointer (some ⟨g, 0, none⟩)) (hx : a.eval x = v)
    (hg : BoxAt g z t w1) (hB : B ≤ g) (cs : Array Value) (hc : v.cells = cs) (hi : (Try.prog.info? t).map (·.size) = some cs.size) (hz : z.size = cs.size) (h1 : cs.all (·.oneCell') = true)
    (h : ∀ v' w2, BoxAt g cs t w2 → w1.grownBy w2 (some g) → But [g] w1 w2 → T v' w2) : DoneS B F n Try.prog w1 T ((execOp a.eval o).run Try.prog w1) := by
  subst hc
  obtain ⟨nx, hrun, hnx⟩ := run_store_block (P := Try.prog) hg hi hz h1 ho hd hx
  have hbut := setRow_but w1 g v.cells
  have hb : Below B w1 (w1.setRow g v.cells) := ⟨hbut.os, hbut.tape, hbut.output, hbut.size, fun k hk => hbut.block k (by have := hg.lt; omega) (by simp; omega)⟩
  have hgr : w1.grownBy (w1.setRow g v.cells) (some g) := ⟨hbut.os, hbut.tape, hbut.output, hbut.size, fun i hi hne => hbut.block i hi (by simpa using fun e => hne (by rw [e]))⟩
  rw [hrun]
  rcases hnx with rfl | ⟨u, rfl⟩
  · exact ⟨⟨hb, h _ _ (BoxAt.setRow hg _) hgr hbut⟩⟩
  · exact ⟨⟨hb, h _ _ (BoxAt.setRow hg _) hgr hbut⟩⟩
theorem BoxAt.two {b : Nat} {x y : Value} {T : TypeId} {W : World} (h : BoxAt b #[x, y] T W) : W.cell? ⟨b, 0, none⟩ = some x ∧ W.cell? ⟨b, 1, none⟩ = some y := ⟨h.cell rfl, h.cell rfl⟩

section
variable {α : Type} {K : EK α} {F : Fence} {n : Nat}
theorem EK.appAll_D {B : Nat} {w1 : World} {T : Value → World → Prop} {o : Oper} {ρ : Operand → Value} (s x : Operand)
    (ho : o.op = .call { callee := .builtin .append, args := #[s, x], argTypes := #[K.st, K.st] })
    {B' : Nat} {v : Value} {xs ys : List α} {y : Value} (hs : ρ s = v) (hx : ρ x = y)
    (hu1 : K.Is w1 y ys) (hown : K.Own B' w1 v xs) (hBB : B ≤ B') (hB : B' ≤ w1.heap.size) (hlen : xs.length + ys.length ≤ 1000000000)
    (h : ∀ v' w2, K.Own B' w2 v' (xs ++ ys) → w1.grownBy w2 v.ownBlock → Below B' w1 w2 → (v'.ownBlock = v.ownBlock ∨ v'.ownBlock = some w1.heap.size) → T v' w2) : DoneS B F n Try.prog w1 T ((execOp ρ o).run Try.prog w1) := by
  obtain ⟨i0, hi, hz0, hz1, hz2⟩ := info_parts K.info
  have hsm := K.small
  obtain ⟨A, m, c, rfl⟩ : ∃ A m c, y = .slice A m c := by
    obtain ⟨A, c, h, _⟩ := hu1
    exact ⟨A, _, c, h⟩
  have hm : m = ys.length := by
    obtain ⟨_, _, he, _⟩ := hu1
    simp only [Value.slice.injEq] at he
    exact he.2.1
  match A with
  | none =>
    obtain ⟨A', c', he, h0', _, hr⟩ := hu1
    simp only [Value.slice.injEq] at he
    obtain ⟨rfl, -, rfl⟩ := he
    have hy : ys = [] := by
      rcases ys with _ | ⟨y, ys⟩
      · rfl
      · obtain ⟨_, _, he, _⟩ := hr 0 (by simp)
        cases he
    subst hy
    obtain rfl := h0' rfl
    subst hm
    have hrun := run_append_owned_none (P := Try.prog) (w := w1) B' K.st o.type K.ty i0 K.k K.und hi v _ _ hown
    have he : (execOp ρ o).run Try.prog w1 = .ok (.value v) w1 := by simp [execOp, ho, resolve, invoke, builtin, hs, hx, hrun, Result.andThen]
    rw [he]
    exact ⟨⟨Below.refl _ _, h v w1 (by simpa using hown) ⟨rfl, rfl, rfl, Nat.le_refl _, fun _ _ _ => rfl⟩ (Below.refl _ _) (.inl rfl)⟩⟩
  | some ad =>
    obtain ⟨v', w2, hrun, r1, r2, _, r3⟩ := run_append_own_at (P := Try.prog) w1 B' K.st o.type K.ty i0 K.z K.k K.bytes K.und hi hz0 hz1 hz2 K.hzs K.pos v _ _ hown ad m c (ys.flatMap K.enc) (by rw [flat_len, hm]) hu1.flat (fun u hu => by
      obtain ⟨y, _, hy⟩ := List.mem_flatMap.1 hu
      exact K.one y u hy) (by simp only [maxLen]; omega) (Nat.le_trans (Nat.mul_le_mul (show xs.length + m ≤ 1000000000 by omega) hsm) (by decide)) hB
    have hb2 : Below B' w1 w2 := (Below.refl B' w1).grown r2 hB fun k hk => (World.ownsRow.lt hown k hk).1
    have he : (execOp ρ o).run Try.prog w1 = .ok (.value v') w2 := by simp [execOp, ho, resolve, invoke, builtin, hs, hx, hrun, Result.andThen]
    rw [he]
    exact ⟨⟨hb2.mono hBB, h v' w2 (by simpa [EK.Own, hm] using r1) r2 hb2 r3⟩⟩
theorem blkOf_own {B : Nat} {w : World} {v : Value} {xs : List α} (h : K.Own B w v xs) : blkOf v = v.ownBlock := by
  obtain ⟨A, c, rfl, _⟩ := h.is
  rfl
theorem own_keep {B : Nat} {w w' : World} {row : Option Nat} {v : Value} {xs : List α} (h : K.Own B w v xs) (hg : w.grownBy w' row) (hne : ∀ b, row = some b → blkOf v ≠ some b) : K.Own B w' v xs := by
  rw [blkOf_own h] at hne
  refine h.kept hg ?_
  cases row with
  | none => cases v.ownBlock <;> simp
  | some b => exact .inr (hne b rfl)
/-- A call's slice of its own: its block is new. -/
theorem own_fresh {W w2 : World} {v : Value} {xs : List α} (h : K.Own W.heap.size w2 v xs) : ∀ b, blkOf v = some b → b < w2.heap.size ∧ W.heap.size ≤ b := by
  intro b hb
  rw [blkOf_own h] at hb
  exact ⟨(h.lt b hb).2, (h.lt b hb).1⟩
theorem step_ext {ow : Nat → Nat} {os : List Nat} {Φ : Nat → (Nat → Value) → World → Prop} {r : Dag} {u : Nat → Value} {w1 w2 : World} {v : Value} (h : Φ r.i (updV u r.i v) w2) (x : Ext w1 w2) (hf : ∀ b, blkOf v = some b → b < w2.heap.size ∧ w1.heap.size ≤ b) (ho : ow r.i = r.i := by rfl) : StepOk ow os Φ r u w1 v w2 :=
  ⟨h, fun _ b hb => by rw [ho, updV_same] at hb; exact ⟨(hf b hb).1, .inl (hf b hb).2⟩, .inl x⟩
theorem step_none {ow : Nat → Nat} {os : List Nat} {Φ : Nat → (Nat → Value) → World → Prop} {r : Dag} {u : Nat → Value} {w1 w2 : World} {v : Value} (h : Φ r.i (updV u r.i v) w2) (x : Ext w1 w2) (hf : r.i ∉ os) : StepOk ow os Φ r u w1 v w2 :=
  ⟨h, fun hi _ _ => absurd hi hf, .inl x⟩
theorem box_keep {w w' : World} {row : Option Nat} {b : Nat} {cs : Array Value} {T : TypeId} (h : BoxAt b cs T w) (hg : w.grownBy w' row) (hne : ∀ b', row = some b' → b ≠ b') : BoxAt b cs T w' := by
  obtain ⟨_, _, _, _, hb⟩ := hg
  refine (hb b h.lt fun e => ?_).trans h
  exact hne b e.symm rfl
/-- An append, as a step of the net: it ends the fact of the slice that it appends to. -/
theorem step_app {ow : Nat → Nat} {os : List Nat} {Φ : Nat → (Nat → Value) → World → Prop} {r : Dag} {u : Nat → Value} {w1 w2 : World} {v' : Value} {B B' : Nat} {xs ys : List α} (k : Nat) (hk : k ∈ r.ends) (hko : k ∈ os) (h0 : K.Own B w1 (u k) xs) (h1 : K.Own B' w2 v' ys)
    (hg : w1.grownBy w2 (u k).ownBlock) (hat : v'.ownBlock = (u k).ownBlock ∨ v'.ownBlock = some w1.heap.size) (h : Φ r.i (updV u r.i v') w2) (ho : ow r.i = r.i := by rfl) (hk' : ow k = k := by rfl) : StepOk ow os Φ r u w1 v' w2 := by
  refine ⟨h, fun _ b hb => ?_, .inr ⟨k, hk, hko, by rw [hk', blkOf_own h0]; exact hg⟩⟩
  rw [ho, updV_same, blkOf_own h1] at hb
  refine ⟨(h1.lt b hb).2, ?_⟩
  rcases hat with e | e
  · exact .inr ⟨k, hk, hko, by rw [hk', blkOf_own h0, ← e]; exact hb⟩
  · rw [e] at hb
    cases hb
    exact .inl (Nat.le_refl _)
end
end
open Go.RowKit
theorem BoxAt.setCell {b : Nat} {cs : Array Value} {T : TypeId} {W : World} (h : BoxAt b cs T W) (i : Nat) (v : Value) : BoxAt b (cs.setIfInBounds i v) T (W.setCell ⟨b, i, none⟩ v) := by
  rw [setCell_eq_setRow W b i cs T (0, 0) v h]
  exact h.setRow _
theorem BoxAt.setOther {b : Nat} {cs : Array Value} {T : TypeId} {W : World} (h : BoxAt b cs T W) {p : Addr} (hp : b ≠ p.block) (v : Value) : BoxAt b cs T (W.setCell p v) := (heap_setCell_other W p b v hp).trans h
theorem but_grown' {b : Nat} {W W' : World} (h : But [b] W W') : W.grownBy W' (some b) :=
  ⟨h.os, h.tape, h.output, h.size, fun i hi hne => h.block i hi (by simpa using fun e => hne (by rw [e]))⟩
end Go.Proofs.Ytkjgcmdabelohaa
