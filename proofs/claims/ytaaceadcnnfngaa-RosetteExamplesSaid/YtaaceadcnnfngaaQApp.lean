/- Appends among the operations of a region that draws its order. No condition. -/
import Derived.Test.YtaaceadcnnfngaaQTail
import Derived.Test.YtaaceadcnnfngaaInts
import Derived.Laws.OwnMore
namespace Go.Proofs.Ytaaceadcnnfngaa
open Go.RowKit

theorem wanted_none {o : Oper} {ops : Array Oper} {a : Act} (hg : o.guard = none) : Region.wanted o (yielded ops a.tmps) = true := by simp [Region.wanted, hg]

theorem wpM_app {B : Nat} {ops : Array Oper} {w : World} {Q : Act → World → Prop} {i : Nat} {is : List Nat} {o : Oper} {a : Act} (h0 : ops[i]? = some o) (hgd : o.guard = none) (s x : Operand)
    (ho : o.op = .call { callee := .builtin .append, args := #[s, x], argTypes := #[22, 22] })
    {B' : Nat} {v u : Value} {zs ys : List Int} (hs : a.eval s = v) (hx : a.eval x = u) (hu : IsI w u ys) (hown : OwnI B' w v zs) (hBB : B ≤ B') (hB : B' ≤ w.heap.size) (hlen : zs.length + ys.length ≤ 10000000000)
    (h : ∀ v' w', OwnI B' w' v' (zs ++ ys) → Below B' w w' → wpM B Try.prog ops Q is (a.put o.dst v') w') : wpM B Try.prog ops Q (i :: is) a w := by
  obtain ⟨i0, hi, hz0, hz1, hz2⟩ := info_parts intInfo
  refine ⟨o, h0, wanted_none hgd, fun w1 X => ⟨by simp [Oper.about, ho, resolve, Target.leads, Sem.run_pure], ?_⟩⟩
  have hu1 := hu.ext X
  have hown1 := hown.ext X
  obtain ⟨A, c, rfl, hc0, _, hr⟩ := hu1
  match A with
  | none =>
    have hl0 : ys.length = 0 := by
      rcases Nat.eq_zero_or_pos ys.length with h | h
      · exact h
      · obtain ⟨_, _, he, _⟩ := hr.at_ 0 h
        cases he
    obtain rfl := List.length_eq_zero_iff.1 hl0
    obtain rfl := hc0 rfl
    have hrun := run_append_owned_none (P := Try.prog) (w := w1) B' 22 o.type 3 i0 1 Try.underlying22 hi v _ _ hown1
    refine ⟨v, w1, ?_, Below.refl _ _, h v w1 (by simpa using hown1) (X.belB hB)⟩
    simp only [List.length_nil] at hx
    simp [execOp, ho, resolve, invoke, builtin, hs, hx, hrun, Result.andThen]
  | some ad =>
    obtain ⟨v', w2, hrun, r1, r2, _⟩ := run_append_own (P := Try.prog) w1 B' 22 o.type 3 i0 (.int .i64 0) 1 8 Try.underlying22 hi hz0 hz1 hz2 rfl (by decide) v _ _ hown1 ad ys.length c (ys.map (Value.int .i64)) (by simp) (fun j u hj => by
      have hj' : j < ys.length := by
        rcases Nat.lt_or_ge j ys.length with h | h
        · exact h
        · simp [List.getElem?_eq_none h] at hj
      obtain ⟨b, o', he, hlt, hc⟩ := hr.at_ j hj'
      simp only [Option.some.injEq] at he
      subst he
      simp [List.getElem?_eq_getElem hj'] at hj hc
      subst hj
      simp only [Addr.add]
      split <;> simp_all) (by simp [Value.oneCell']) (by simp only [maxLen]; omega) (by omega) (Nat.le_trans hB X.bel.size)
    have hb2 : Below B' w1 w2 := (Below.refl B' w1).grown r2 (Nat.le_trans hB X.bel.size) fun k hk => (World.ownsRow.lt hown1 k hk).1
    refine ⟨v', w2, ?_, hb2.mono hBB, h v' w2 (by simpa [OwnI] using r1) ((X.belB hB).trans hb2)⟩
    simp [execOp, ho, resolve, invoke, builtin, hs, hx, hrun, Result.andThen]

theorem app_all_in {F : Fence} {nn : Nat} {w : World} {ops : Array Oper} {rest : List Oper} {o : Oper} {a : Act} {Q : Exit → Act → World → Prop} (hgd : o.guard = none) (s x : Operand)
    (ho : o.op = .call { callee := .builtin .append, args := #[s, x], argTypes := #[22, 22] })
    {B : Nat} {v u : Value} {zs ys : List Int} (hs : a.eval s = v) (hx : a.eval x = u) (hu : IsI w u ys) (hown : OwnI B w v zs) (hB : B ≤ w.heap.size) (hlen : zs.length + ys.length ≤ 10000000000) (hnd : noDefer o = true)
    (h : ∀ v' w', OwnI B w' v' (zs ++ ys) → Below B w w' → wpListIn F nn Try.prog ops Q rest (a.put o.dst v') w') : wpListIn F nn Try.prog ops Q (o :: rest) a w := by
  have h1 : wpM B Try.prog #[o] (fun a2 w2 => wpListIn F nn Try.prog ops Q rest a2 w2) [0] a w := wpM_app rfl hgd s x ho hs hx hu hown (Nat.le_refl _) hB hlen h
  obtain ⟨o', he, hw, h2⟩ := h1
  obtain rfl : o = o' := by simpa using he
  obtain ⟨hab, v', w2, hrun, hb, hK⟩ := h2 w (Ext.refl _)
  unfold wpListIn
  rw [if_pos (wanted_none hgd)]
  unfold Oper.wpIn
  refine ⟨fun f hf => (by rw [hab] at hf; cases hf), ?_⟩
  rw [semAt_any hnd, hrun]
  exact hK
end Go.Proofs.Ytaaceadcnnfngaa
