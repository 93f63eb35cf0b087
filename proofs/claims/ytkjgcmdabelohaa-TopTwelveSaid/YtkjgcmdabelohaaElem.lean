/- Slices whose elements are laid in some cells each: the call's own, and those that came in. No condition. -/
import Derived.Test.YtkjgcmdabelohaaInts
import Derived.OwnWalkIn
import Derived.Laws.OwnMore
namespace Go.Proofs.Ytkjgcmdabelohaa
open Go.RowKit

/-- A kind of elements: the element's type, the slice's, how many cells, and which. -/
structure EK (α : Type) where
  ty : TypeId
  st : TypeId
  k : Nat
  enc : α → List Value
  z : Value
  bytes : Nat
  und : Try.prog.underlying st = some (.slice ty)
  info : (Try.prog.info? ty).map (fun i => (i.zero, i.size, i.bytes)) = some (some z, k, bytes)
  hzs : z.cells.size = k
  pos : 0 < k
  small : bytes ≤ 1000
  len : ∀ x, (enc x).length = k
  one : ∀ x, ∀ v ∈ enc x, v.oneCell' = true

section
variable {α : Type} (K : EK α)

theorem flat_len : ∀ xs : List α, (xs.flatMap K.enc).length = xs.length * K.k
  | [] => by simp
  | x :: xs => by rw [List.flatMap_cons, List.length_append, flat_len xs, K.len, List.length_cons, Nat.succ_mul, Nat.add_comm]
theorem flat_at : ∀ (xs : List α) (j : Nat) (h : j < xs.length) (i : Nat), i < K.k → (xs.flatMap K.enc)[j * K.k + i]? = (K.enc xs[j])[i]?
  | x :: xs, 0, _, i, hi => by
    rw [List.flatMap_cons, List.getElem?_append_left (by rw [K.len]; omega)]
    simp
  | x :: xs, j + 1, h, i, hi => by
    rw [List.flatMap_cons, List.getElem?_append_right (by rw [K.len, Nat.succ_mul]; omega), K.len, show (j + 1) * K.k + i - K.k = j * K.k + i by rw [Nat.succ_mul]; omega, flat_at xs j (by simpa using h) i hi]
    simp

/-- v is a slice of the call's own (its block is from B on) that reads as xs. -/
def EK.Own (B : Nat) (w : World) (v : Value) (xs : List α) : Prop := w.ownsRow B K.ty K.k v xs.length (xs.flatMap K.enc)
/-- The slice at A reads as xs. -/
def EK.Row (w : World) (A : Option Addr) (xs : List α) : Prop := ∀ (j : Nat) (h : j < xs.length), ∃ b o, A = some ⟨b, o, none⟩ ∧ b < w.heap.size ∧ ∀ i u, (K.enc xs[j])[i]? = some u → w.cell? ⟨b, o + j * K.k + i, none⟩ = some u
/-- v is a slice that reads as xs. -/
def EK.Is (w : World) (v : Value) (xs : List α) : Prop := ∃ A c, v = .slice A xs.length c ∧ (A = none → c = 0) ∧ (xs.length ≤ c ∧ c ≤ maxLen) ∧ K.Row w A xs

variable {K}
theorem EK.Row.ext {w w' : World} {A : Option Addr} {xs : List α} (h : K.Row w A xs) (hx : Ext w w') : K.Row w' A xs := fun j hj => by
  obtain ⟨b, o, hA, hb, hc⟩ := h j hj
  exact ⟨b, o, hA, hx.lt hb, fun i u hu => hx.cell_some (hc i u hu)⟩
theorem EK.Is.ext {w w' : World} {v : Value} {xs : List α} (h : K.Is w v xs) (hx : Ext w w') : K.Is w' v xs := by
  obtain ⟨A, c, rfl, h0, hc, hr⟩ := h
  exact ⟨A, c, rfl, h0, hc, hr.ext hx⟩
theorem EK.Own.nil (B : Nat) (w : World) : K.Own B w (.slice none 0 0) [] := World.ownsRow_nil w B _ _
theorem EK.Own.ext {B : Nat} {w w' : World} {v : Value} {xs : List α} (h : K.Own B w v xs) (hx : Ext w w') : K.Own B w' v xs :=
  World.ownsRow.kept h (hx.grow none) (by cases v.ownBlock <;> simp)
theorem EK.Own.kept {B : Nat} {w w' : World} {row : Option Nat} {v : Value} {xs : List α} (h : K.Own B w v xs) (hg : w.grownBy w' row) (hne : v.ownBlock = none ∨ v.ownBlock ≠ row) : K.Own B w' v xs := World.ownsRow.kept h hg hne
theorem EK.Own.lt {B : Nat} {w : World} {v : Value} {xs : List α} (h : K.Own B w v xs) : ∀ k, v.ownBlock = some k → B ≤ k ∧ k < w.heap.size := World.ownsRow.lt h
theorem EK.Own.mono {B B' : Nat} {w : World} {v : Value} {xs : List α} (h : K.Own B w v xs) (hB : B' ≤ B) : K.Own B' w v xs := by
  refine ⟨h.1, ?_⟩
  rcases h.2 with hn | ⟨g, cap, cur, hv, hb, rest⟩
  · exact .inl hn
  · exact .inr ⟨g, cap, cur, hv, Nat.le_trans hB hb, rest⟩
theorem EK.Own.is {B : Nat} {w : World} {v : Value} {xs : List α} (h : K.Own B w v xs) : K.Is w v xs := by
  rcases h.2 with ⟨rfl, h0⟩ | ⟨g, cap, cur, rfl, hb, hg, hn, hm, hs, ht⟩
  · exact ⟨none, 0, by rw [h0], fun _ => rfl, ⟨by omega, by simp [maxLen]⟩, fun j hj => by omega⟩
  · refine ⟨_, cap, rfl, by simp, ⟨hn, hm⟩, fun j hj => ⟨g, 0, rfl, (Array.getElem?_eq_some_iff.1 hg).1, fun i u hu => ?_⟩⟩
    have hi : i < K.k := by rw [← K.len xs[j]]; exact (List.getElem?_eq_some_iff.1 hu).1
    have := World.ownsRow.cells h (g := g) rfl (j * K.k + i) u (by rw [flat_at K xs j hj i hi]; exact hu)
    simp only [Addr.add] at this
    split at this
    · rename_i h0
      rw [Nat.zero_add, h0]
      exact this
    · simpa [Nat.add_assoc] using this
theorem EK.Is.len {w : World} {v : Value} {xs : List α} (h : K.Is w v xs) : xs.length ≤ maxLen := by
  obtain ⟨A, c, rfl, _, hc, hr⟩ := h
  omega
theorem EK.Is.nil (w : World) : K.Is w (.slice none 0 0) [] := (EK.Own.nil 0 w).is
theorem EK.Is.open_ {w : World} {v : Value} {xs : List α} (h : K.Is w v xs) : ∃ A n c, v = .slice A n c ∧ xs.length = n ∧ (A = none → c = 0) ∧ K.Row w A xs ∧ n ≤ 9223372036854775807 := by
  have hl := h.len
  obtain ⟨A, c, rfl, h0, _, hr⟩ := h
  exact ⟨A, _, c, rfl, rfl, h0, hr, by simpa [maxLen] using hl⟩

theorem EK.app {w : World} {ops : Array Oper} {rest : List Oper} {o : Oper} {a : Act} {Q : Exit → Act → World → Prop} (hgd : o.guard = none) (s x : Operand)
    (ho : o.op = .call { callee := .builtin .append, args := #[s, x], argTypes := #[K.st, K.st] })
    {B : Nat} {v : Value} {xs : List α} (b c : Nat) (y : α) (hs : a.eval s = v) (hx : a.eval x = .slice (some ⟨b, 0, none⟩) 1 c)
    (hcell : ∀ i u, (K.enc y)[i]? = some u → w.cell? ⟨b, i, none⟩ = some u) (hown : K.Own B w v xs) (hB : B ≤ w.heap.size) (hlen : xs.length ≤ 1000000000)
    (h : ∀ v' w', K.Own B w' v' (xs ++ [y]) → Below B w w' → w.grownBy w' v.ownBlock → wpList Try.prog ops Q rest (a.put o.dst v') w') : wpList Try.prog ops Q (o :: rest) a w := by
  obtain ⟨i0, hi, hz0, hz1, hz2⟩ := info_parts K.info
  have hsm := K.small
  refine wpList_append_own w hgd s x K.st ho B K.ty i0 K.z K.k K.bytes K.und hi hz0 hz1 hz2 K.hzs K.pos v _ _ hs hown ⟨b, 0, none⟩ 1 c (K.enc y) hx (by rw [K.len, Nat.one_mul]) (fun j u hj => ?_) (K.one y) (by simp only [maxLen]; omega) (Nat.le_trans (Nat.mul_le_mul (show xs.length + 1 ≤ 1000000001 by omega) hsm) (by decide)) hB (fun v' w' h1 h2 _ => h v' w' (by simpa [EK.Own] using h1) ?_ h2)
  · have := hcell j u hj
    simp only [Addr.add]
    split
    · rename_i h0; subst h0; exact this
    · simpa using this
  · exact (Below.refl B w).grown h2 hB fun k hk => (World.ownsRow.lt hown k hk).1

theorem EK.app_in {F : Fence} {nn : Nat} {w : World} {ops : Array Oper} {rest : List Oper} {o : Oper} {a : Act} {Q : Exit → Act → World → Prop} (hgd : o.guard = none) (s x : Operand)
    (ho : o.op = .call { callee := .builtin .append, args := #[s, x], argTypes := #[K.st, K.st] })
    {B : Nat} {v : Value} {xs : List α} (b c : Nat) (y : α) (hs : a.eval s = v) (hx : a.eval x = .slice (some ⟨b, 0, none⟩) 1 c)
    (hcell : ∀ i u, (K.enc y)[i]? = some u → w.cell? ⟨b, i, none⟩ = some u) (hown : K.Own B w v xs) (hB : B ≤ w.heap.size) (hlen : xs.length ≤ 1000000000)
    (h : ∀ v' w', K.Own B w' v' (xs ++ [y]) → Below B w w' → w.grownBy w' v.ownBlock → wpListIn F nn Try.prog ops Q rest (a.put o.dst v') w') : wpListIn F nn Try.prog ops Q (o :: rest) a w := by
  obtain ⟨i0, hi, hz0, hz1, hz2⟩ := info_parts K.info
  have hsm := K.small
  refine wpListIn_append_own w hgd s x K.st ho B K.ty i0 K.z K.k K.bytes K.und hi hz0 hz1 hz2 K.hzs K.pos v _ _ hs hown ⟨b, 0, none⟩ 1 c (K.enc y) hx (by rw [K.len, Nat.one_mul]) (fun j u hj => ?_) (K.one y) (by simp only [maxLen]; omega) (Nat.le_trans (Nat.mul_le_mul (show xs.length + 1 ≤ 1000000001 by omega) hsm) (by decide)) hB (fun v' w' h1 h2 _ => h v' w' (by simpa [EK.Own] using h1) ?_ h2)
  · have := hcell j u hj
    simp only [Addr.add]
    split
    · rename_i h0; subst h0; exact this
    · simpa using this
  · exact (Below.refl B w).grown h2 hB fun k hk => (World.ownsRow.lt hown k hk).1

/-- A slice literal. -/
theorem EK.Own.lit {B : Nat} (w : World) (cs : Array Value) (xs : List α) (hc : cs.toList = xs.flatMap K.enc) (hB : B ≤ w.heap.size) (hm : xs.length ≤ maxLen) :
    K.Own B (w.alloc (.cells cs K.ty)) (.slice (some ⟨w.heap.size, 0, none⟩) xs.length xs.length) xs := by
  have := World.ownsRow_lit (base := B) (e := K.ty) (size := K.k) w cs xs.length hB hm (by rw [← Array.length_toList, hc, flat_len])
  rw [hc] at this
  exact this
end

/-- A block that was just made. -/
theorem cell_new {w : World} {cs : Array Value} {T : TypeId} {i : Nat} {u : Value} (h : cs.toList[i]? = some u) : (w.alloc (.cells cs T)).cell? ⟨w.heap.size, i, none⟩ = some u := by
  have h1 : (w.alloc (.cells cs T)).heap[w.heap.size]? = some (.cells cs T) := heap_alloc_new w _
  have h2 : cs[i]? = some u := by simpa using h
  unfold World.cell?
  simp only [h1]
  exact h2

/-- The kinds. -/
def intK : EK Int := ⟨3, 22, 1, fun x => [.int .i64 x], .int .i64 0, 8, Try.underlying22, by kernel_rfl, rfl, by decide, by decide, fun _ => rfl, by simp [Value.oneCell']⟩
theorem flat_ints (zs : List Int) : zs.flatMap intK.enc = zs.map (Value.int .i64) := by
  induction zs with
  | nil => rfl
  | cons z zs ih => rw [List.flatMap_cons, ih]; rfl
theorem intK_own {B : Nat} {w : World} {v : Value} {zs : List Int} : intK.Own B w v zs ↔ OwnI B w v zs := by
  unfold EK.Own OwnI
  rw [flat_ints]
  exact Iff.rfl
end Go.Proofs.Ytkjgcmdabelohaa
