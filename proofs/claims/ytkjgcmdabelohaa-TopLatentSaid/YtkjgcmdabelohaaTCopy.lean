/- copy into a slice of the call's own: the exact world. Condition: the elements are of one cell. -/
import Derived.Test.YtkjgcmdabelohaaLRep
import Derived.Test.YtkjgcmdabelohaaGAppD
import Derived.Test.YtkjgcmdabelohaaTMask
namespace Go.Proofs.Ytkjgcmdabelohaa
open Go.RowKit
section
theorem wpList_copyX {P : Program} {w : World} {ops : Array Oper} {rest : List Oper} {o : Oper} {a : Act} {Q : Exit → Act → World → Prop} (hgd : o.guard = none) (d s : Operand) (dT sT : TypeId)
    (ho : o.op = .call { callee := .builtin .copy, args := #[d, s], argTypes := #[dT, sT] }) (elem : TypeId) (k n : Nat) (hu : P.underlying dT = some (.slice elem)) (hsz : (P.info? elem).map (·.size) = some k)
    (g off dLen dCap : Nat) (ad : Addr) (sLen sCap : Nat) (hd : a.eval d = .slice (some ⟨g, off, none⟩) dLen dCap) (hs : a.eval s = .slice (some ad) sLen sCap)
    (cur : Array Value) (t : TypeId) (hg : w.heap[g]? = some (.cells cur t (0, 0))) (cs : List Value) (hm : n = Nat.min sLen dLen) (hn : cs.length = n * k)
    (hsrc : ∀ j v, cs[j]? = some v → w.cell? (ad.add j) = some v) (hfit : off + cs.length ≤ cur.size) (h1 : ∀ v ∈ cs, v.oneCell' = true)
    (h : wpList P ops Q rest (a.put o.dst (goInt n)) (w.setRow g (cur.toList.take off ++ cs ++ cur.toList.drop (off + cs.length)).toArray)) :
    wpList P ops Q (o :: rest) a w := by
  refine wpList_plain hgd fun K hK => ?_
  have hrun := run_copy_rowK P w dT sT o.type elem k n g off dLen dCap ad sLen sCap cur t cs hu hsz hg hm hn hsrc hfit h1
  unfold Oper.wp
  simp [execOp, ho, resolve, invoke, builtin, hd, hs, hrun, Result.andThen]
  refine hK _ _ ?_
  simpa using h
variable {α : Type} {K : EK α}
theorem flat_take1 (hk : K.k = 1) : ∀ (xs : List α) (i : Nat), (xs.take i).flatMap K.enc = (xs.flatMap K.enc).take i
  | [], i => by simp
  | x :: xs, 0 => by simp
  | x :: xs, i + 1 => by
    obtain ⟨a, ha⟩ := List.length_eq_one_iff.1 ((K.len x).trans hk)
    simp [ha, flat_take1 hk xs i]
theorem flat_drop1 (hk : K.k = 1) : ∀ (xs : List α) (i : Nat), (xs.drop i).flatMap K.enc = (xs.flatMap K.enc).drop i
  | [], i => by simp
  | x :: xs, 0 => by simp
  | x :: xs, i + 1 => by
    obtain ⟨a, ha⟩ := List.length_eq_one_iff.1 ((K.len x).trans hk)
    simp [ha, flat_drop1 hk xs i]
/-- A part of an own slice is written over. -/
theorem EK.Own.over1 {B g c N : Nat} {w : World} {xs ys : List α} (h : K.Own B w (.slice (some ⟨g, 0, none⟩) N c) xs) (hk : K.k = 1) (at_ : Nat) (hf : at_ + ys.length ≤ xs.length) : ∃ cur : Array Value, w.heap[g]? = some (.cells cur K.ty (0, 0)) ∧ xs.length ≤ cur.size ∧ B ≤ g ∧ N = xs.length ∧
    K.Own B (w.setRow g (cur.toList.take at_ ++ ys.flatMap K.enc ++ cur.toList.drop (at_ + (ys.flatMap K.enc).length)).toArray) (.slice (some ⟨g, 0, none⟩) N c) (overL xs at_ ys) := by
  have h' := h
  rcases h'.2 with ⟨he, _⟩ | ⟨g', cap, cur, he, hB, hg, hn, hm, hs, ht⟩
  · cases he
  · simp only [Value.slice.injEq, Option.some.injEq, Addr.mk.injEq] at he
    obtain ⟨⟨rfl, -, -⟩, rfl, rfl⟩ := he
    have hyl : (ys.flatMap K.enc).length = ys.length := by rw [flat_len K, hk, Nat.mul_one]
    have hxl : (xs.flatMap K.enc).length = xs.length := by rw [flat_len K, hk, Nat.mul_one]
    rw [hk, Nat.mul_one] at hs ht
    refine ⟨cur, hg, by omega, hB, rfl, flat_len K _, .inr ⟨g, c, (cur.toList.take at_ ++ ys.flatMap K.enc ++ cur.toList.drop (at_ + (ys.flatMap K.enc).length)).toArray, ?_, hB, setRow_heap w g _ _ K.ty _ hg, ?_, hm, ?_, ?_⟩⟩
    · rw [show (overL xs at_ ys).length = xs.length by simp [overL]; omega]
    · rw [show (overL xs at_ ys).length = xs.length by simp [overL]; omega]
      exact hn
    · rw [hk, Nat.mul_one]
      simp [hyl]
      omega
    · rw [show (overL xs at_ ys).length * K.k = xs.length by rw [hk, Nat.mul_one]; simp [overL]; omega]
      unfold overL
      rw [List.flatMap_append, List.flatMap_append, flat_take1 hk, flat_drop1 hk, ← ht, List.take_take, Nat.min_eq_left (by omega), List.drop_take, List.toList_toArray]
      have l1 : (cur.toList.take at_).length = at_ := by simp; omega
      have t1 : List.take xs.length (cur.toList.take at_) = cur.toList.take at_ := List.take_of_length_le (by rw [l1]; omega)
      have t2 : List.take (xs.length - at_) (ys.flatMap K.enc) = ys.flatMap K.enc := List.take_of_length_le (by rw [hyl]; omega)
      rw [List.append_assoc, List.append_assoc, List.take_append, t1, l1, List.take_append, t2, hyl, Nat.sub_sub]
end
end Go.Proofs.Ytkjgcmdabelohaa
