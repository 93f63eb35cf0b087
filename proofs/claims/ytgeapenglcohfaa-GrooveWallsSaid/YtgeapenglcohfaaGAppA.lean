/- A whole slice is appended. No condition. -/
import Derived.Test.YtgeapenglcohfaaQS
import Derived.Test.YtgeapenglcohfaaQTail
namespace Go.Proofs.Ytgeapenglcohfaa
open Go.RowKit

section
variable {α : Type} {K : EK α} {F : Fence} {n : Nat}

theorem EK.Is.flat {w : World} {ad : Addr} {m c : Nat} {xs : List α} (h : K.Is w (.slice (some ad) m c) xs) : ∀ j u, (xs.flatMap K.enc)[j]? = some u → w.cell? (ad.add j) = some u := by
  intro j u hj
  obtain ⟨A, c', he, _, _, hr⟩ := h
  simp only [Value.slice.injEq] at he
  obtain ⟨rfl, rfl, rfl⟩ := he
  have hp := K.pos
  have hlt : j < xs.length * K.k := by
    rw [← flat_len K xs]
    exact (List.getElem?_eq_some_iff.1 hj).1
  have hq : j / K.k < xs.length := Nat.div_lt_of_lt_mul (by rw [Nat.mul_comm]; exact hlt)
  have hi : j % K.k < K.k := Nat.mod_lt _ hp
  have hj' : j / K.k * K.k + j % K.k = j := by rw [Nat.mul_comm]; exact Nat.div_add_mod j K.k
  obtain ⟨b, o, hA, _, hc⟩ := hr (j / K.k) hq
  simp only [Option.some.injEq] at hA
  subst hA
  rw [← hj', flat_at K xs _ hq _ hi] at hj
  have := hc _ _ hj
  rw [Nat.add_assoc, hj'] at this
  simp only [Addr.add]
  split
  · rename_i h0
    subst h0
    exact this
  · exact this

theorem EK.appAll {w : World} {ops : Array Oper} {rest : List Oper} {o : Oper} {a : Act} {Q : Exit → Act → World → Prop} (hgd : o.guard = none) (s x : Operand)
    (ho : o.op = .call { callee := .builtin .append, args := #[s, x], argTypes := #[K.st, K.st] })
    {B : Nat} {v : Value} {xs ys : List α} {A : Option Addr} {m c : Nat} (hs : a.eval s = v) (hx : a.eval x = .slice A m c)
    (hu : K.Is w (.slice A m c) ys) (hown : K.Own B w v xs) (hB : B ≤ w.heap.size) (hlen : xs.length + ys.length ≤ 1000000000)
    (h : ∀ v' w', K.Own B w' v' (xs ++ ys) → Below B w w' → w.grownBy w' v.ownBlock → wpList Try.prog ops Q rest (a.put o.dst v') w') : wpList Try.prog ops Q (o :: rest) a w := by
  obtain ⟨i0, hi, hz0, hz1, hz2⟩ := info_parts K.info
  have hsm := K.small
  have hm : m = ys.length := by
    obtain ⟨_, _, he, _⟩ := hu
    simp only [Value.slice.injEq] at he
    exact he.2.1
  match A with
  | none =>
    obtain ⟨A', c', he, h0, _, hr⟩ := hu
    simp only [Value.slice.injEq] at he
    obtain ⟨rfl, -, rfl⟩ := he
    have hy : ys = [] := by
      rcases ys with _ | ⟨y, ys⟩
      · rfl
      · obtain ⟨_, _, he, _⟩ := hr 0 (by simp)
        cases he
    subst hy
    obtain rfl := h0 rfl
    subst hm
    refine wpList_append_own_none hgd s x K.st ho B K.ty i0 K.k K.und hi v _ _ hs hown hx (h v w (by simpa using hown) (Below.refl B w) ⟨rfl, rfl, rfl, Nat.le_refl _, fun _ _ _ => rfl⟩)
  | some ad =>
    have hf := hu.flat
    refine wpList_append_own w hgd s x K.st ho B K.ty i0 K.z K.k K.bytes K.und hi hz0 hz1 hz2 K.hzs K.pos v _ _ hs hown ad m c (ys.flatMap K.enc) hx (by rw [flat_len, hm]) hf (fun u hu => ?_) (by simp only [maxLen]; omega) ?_ hB (fun v' w' h1 h2 _ => h v' w' (by simpa [EK.Own, hm] using h1) ?_ h2)
    · obtain ⟨y, _, hy⟩ := List.mem_flatMap.1 hu
      exact K.one y u hy
    · exact Nat.le_trans (Nat.mul_le_mul (show xs.length + m ≤ 1000000000 by omega) hsm) (by decide)
    · exact (Below.refl B w).grown h2 hB fun k hk => (World.ownsRow.lt hown k hk).1

/-- The same in a region that draws its order. -/
theorem EK.appAll_mid {w : World} {ops : Array Oper} {Q : Act → World → Prop} {i : Nat} {is : List Nat} {o : Oper} {a : Act} (h0 : ops[i]? = some o) (hgd : o.guard = none) (s x : Operand)
    (ho : o.op = .call { callee := .builtin .append, args := #[s, x], argTypes := #[K.st, K.st] })
    {B : Nat} {v : Value} {xs ys : List α} {A : Option Addr} {m c : Nat} (hs : a.eval s = v) (hx : a.eval x = .slice A m c)
    (hu : K.Is w (.slice A m c) ys) (hown : K.Own B w v xs) (hB : B ≤ w.heap.size) (hlen : xs.length + ys.length ≤ 1000000000)
    (h : ∀ v' w1 w2, K.Own B w2 v' (xs ++ ys) → Ext w w1 → w1.grownBy w2 v.ownBlock → wpMD v.ownBlock.toList F n Try.prog ops Q is (a.put o.dst v') w2) : wpMD v.ownBlock.toList F n Try.prog ops Q (i :: is) a w := by
  refine wpMD_run h0 hgd (fun _ => by simp [Oper.about, ho, resolve, Target.leads, Sem.run_pure]) fun w1 X => ?_
  obtain ⟨i0, hi, hz0, hz1, hz2⟩ := info_parts K.info
  have hsm := K.small
  have hu1 := hu.ext X
  have hm : m = ys.length := by
    obtain ⟨_, _, he, _⟩ := hu
    simp only [Value.slice.injEq] at he
    exact he.2.1
  match A with
  | none =>
    obtain ⟨A', c', he, h0', _, hr⟩ := hu
    simp only [Value.slice.injEq] at he
    obtain ⟨rfl, -, rfl⟩ := he
    have hy : ys = [] := by
      rcases ys with _ | ⟨y, ys⟩
      · rfl
      · obtain ⟨_, _, he, _⟩ := hr 0 (by simp)
        cases he
    subst hy
    obtain rfl := h0' rfl
    subst hm
    have hrun := run_append_owned_none (P := Try.prog) (w := w1) B K.st o.type K.ty i0 K.k K.und hi v _ _ (hown.ext X)
    refine ⟨v, w1, ?_, But.refl _ w1, h v w1 w1 (by simpa using hown.ext X) X ⟨rfl, rfl, rfl, Nat.le_refl _, fun _ _ _ => rfl⟩⟩
    simp [execOp, ho, resolve, invoke, builtin, hs, hx, hrun, Result.andThen]
  | some ad =>
    obtain ⟨v', w2, hrun, r1, r2, _⟩ := run_append_own (P := Try.prog) w1 B K.st o.type K.ty i0 K.z K.k K.bytes K.und hi hz0 hz1 hz2 K.hzs K.pos v _ _ (hown.ext X) ad m c (ys.flatMap K.enc) (by rw [flat_len, hm]) hu1.flat (fun u hu => by
      obtain ⟨y, _, hy⟩ := List.mem_flatMap.1 hu
      exact K.one y u hy) (by simp only [maxLen]; omega) (Nat.le_trans (Nat.mul_le_mul (show xs.length + m ≤ 1000000000 by omega) hsm) (by decide)) (Nat.le_trans hB X.bel.size)
    refine ⟨v', w2, ?_, (But.refl _ w1).grown r2 (fun r e => .inl (by rw [e]; simp)), h v' w1 w2 (by simpa [EK.Own, hm] using r1) X r2⟩
    simp [execOp, ho, resolve, invoke, builtin, hs, hx, hrun, Result.andThen]
theorem EK.appAll_s {w : World} {ops : Array Oper} {T : Act → World → Prop} {i : Nat} {is : List (Nat × Bool)} {o : Oper} {a : Act} (h0 : ops[i]? = some o) (hgd : o.guard = none) (s x : Operand)
    (ho : o.op = .call { callee := .builtin .append, args := #[s, x], argTypes := #[K.st, K.st] })
    {B : Nat} {v : Value} {xs ys : List α} {A : Option Addr} {m c : Nat} (hs : a.eval s = v) (hx : a.eval x = .slice A m c)
    (hu : K.Is w (.slice A m c) ys) (hown : K.Own B w v xs) (hB : B ≤ w.heap.size) (hlen : xs.length + ys.length ≤ 1000000000)
    (h : ∀ v' w1 w2, K.Own B w2 v' (xs ++ ys) → Ext w w1 → w1.grownBy w2 v.ownBlock → wpSD v.ownBlock.toList F n Try.prog ops T is (a.put o.dst v') w2) : wpSD v.ownBlock.toList F n Try.prog ops T ((i, false) :: is) a w := by
  have := EK.appAll_mid (F := F) (n := n) (Q := wpSD v.ownBlock.toList F n Try.prog ops T is) (is := []) h0 hgd s x ho hs hx hu hown hB hlen h
  exact this
theorem wanted_noneG {o : Oper} {ops : Array Oper} {a : Act} (hg : o.guard = none) : Region.wanted o (yielded ops a.tmps) = true := by simp [Region.wanted, hg]
/-- The same, where the slice lies in a block that the region made. -/
theorem EK.appAll_M {B : Nat} {w : World} {ops : Array Oper} {Q : Act → World → Prop} {i : Nat} {is : List Nat} {o : Oper} {a : Act} (h0 : ops[i]? = some o) (hgd : o.guard = none) (s x : Operand)
    (ho : o.op = .call { callee := .builtin .append, args := #[s, x], argTypes := #[K.st, K.st] })
    {B' : Nat} {v : Value} {xs ys : List α} {A : Option Addr} {m c : Nat} (hs : a.eval s = v) (hx : a.eval x = .slice A m c)
    (hu : K.Is w (.slice A m c) ys) (hown : K.Own B' w v xs) (hBB : B ≤ B') (hB : B' ≤ w.heap.size) (hlen : xs.length + ys.length ≤ 1000000000)
    (h : ∀ v' w', K.Own B' w' v' (xs ++ ys) → Below B' w w' → wpM B Try.prog ops Q is (a.put o.dst v') w') : wpM B Try.prog ops Q (i :: is) a w := by
  obtain ⟨i0, hi, hz0, hz1, hz2⟩ := info_parts K.info
  have hsm := K.small
  refine ⟨o, h0, wanted_noneG hgd, fun w1 X => ⟨by simp [Oper.about, ho, resolve, Target.leads, Sem.run_pure], ?_⟩⟩
  have hu1 := hu.ext X
  have hm : m = ys.length := by
    obtain ⟨_, _, he, _⟩ := hu
    simp only [Value.slice.injEq] at he
    exact he.2.1
  match A with
  | none =>
    obtain ⟨A', c', he, h0', _, hr⟩ := hu
    simp only [Value.slice.injEq] at he
    obtain ⟨rfl, -, rfl⟩ := he
    have hy : ys = [] := by
      rcases ys with _ | ⟨y, ys⟩
      · rfl
      · obtain ⟨_, _, he, _⟩ := hr 0 (by simp)
        cases he
    subst hy
    obtain rfl := h0' rfl
    subst hm
    have hrun := run_append_owned_none (P := Try.prog) (w := w1) B' K.st o.type K.ty i0 K.k K.und hi v _ _ (hown.ext X)
    refine ⟨v, w1, ?_, Below.refl _ _, h v w1 (by simpa using hown.ext X) (X.belB hB)⟩
    simp [execOp, ho, resolve, invoke, builtin, hs, hx, hrun, Result.andThen]
  | some ad =>
    obtain ⟨v', w2, hrun, r1, r2, _⟩ := run_append_own (P := Try.prog) w1 B' K.st o.type K.ty i0 K.z K.k K.bytes K.und hi hz0 hz1 hz2 K.hzs K.pos v _ _ (hown.ext X) ad m c (ys.flatMap K.enc) (by rw [flat_len, hm]) hu1.flat (fun u hu => by
      obtain ⟨y, _, hy⟩ := List.mem_flatMap.1 hu
      exact K.one y u hy) (by simp only [maxLen]; omega) (Nat.le_trans (Nat.mul_le_mul (show xs.length + m ≤ 1000000000 by omega) hsm) (by decide)) (Nat.le_trans hB X.bel.size)
    have hb2 : Below B' w1 w2 := (Below.refl B' w1).grown r2 (Nat.le_trans hB X.bel.size) fun k hk => (World.ownsRow.lt (hown.ext X) k hk).1
    refine ⟨v', w2, ?_, hb2.mono hBB, h v' w2 (by simpa [EK.Own, hm] using r1) ((X.belB hB).trans hb2)⟩
    simp [execOp, ho, resolve, invoke, builtin, hs, hx, hrun, Result.andThen]
end
end Go.Proofs.Ytgeapenglcohfaa
