/- A region that draws its order, walked in steps: an operation that only reads or calls quietly is taken where it is ready; any other where nothing else is. Condition: no defer statement in it. -/
import Derived.Test.YtgeapenglcohfaaQD
namespace Go.Proofs.Ytgeapenglcohfaa
open Go.RowKit

section
variable {F : Fence} {n : Nat} {P : Program} {ops : Array Oper} {md : Region.Mode} {D : List Nat}

/-- The walk in steps: true: quiet. -/
def wpSD (D : List Nat) (F : Fence) (n : Nat) (P : Program) (ops : Array Oper) (T : Act → World → Prop) : List (Nat × Bool) → Act → World → Prop
  | [], a, w => T a w
  | (i, true) :: is, a, w => ∃ o, ops[i]? = some o ∧ ∃ v, YD D F n P ops o v a w ∧ wpSD D F n P ops T is (a.put o.dst v) w
  | (i, false) :: is, a, w => ∃ o, ops[i]? = some o ∧ midD D F n P ops o (wpSD D F n P ops T is) a w
def lexS (md : Region.Mode) (ops : Array Oper) (nn : Nat) : List (Nat × Bool) → Array Bool → Bool
  | [], listed => Region.seqB md ops (ops.size - nn) nn listed
  | (i, true) :: is, listed => (Region.ready md ops listed).contains i && Region.free md ops listed i && lexS md ops nn is (listed.setIfInBounds i true)
  | (i, false) :: is, listed => decide (Region.ready md ops listed = [i]) && lexS md ops nn is (listed.setIfInBounds i true)

theorem wpAnyD_steps {isQ : Nat → Bool} {nn : Nat} {T : Act → World → Prop} (hsel : Region.noSelect ops = true) (hs : Region.sinkB md ops nn = true) (hc : Region.chainB md ops nn = true) (hn : nn < ops.size) :
    ∀ (ss : List (Nat × Bool)) (listed : Array Bool) (a : Act) (w : World), (∀ s ∈ ss, isQ s.1 = s.2 ∧ s.1 < nn) → HeadInv md ops nn listed →
    lexS md ops nn ss listed = true → wpSD D F n P ops T ss a w →
    wpAnyD D F n P md ops isQ nn (fun listed' a' w' => Region.seqB md ops (ops.size - nn) nn listed' = true ∧ T a' w') ss.length listed a w
  | [], listed, a, w, _, _, hB, h => ⟨hB, h⟩
  | (i, true) :: is, listed, a, w, hq, inv, hB, h => by
    simp only [lexS, Bool.and_eq_true] at hB
    obtain ⟨⟨hr, hf⟩, hB'⟩ := hB
    obtain ⟨h1, h2⟩ := hq (i, true) (by simp)
    have hr' : i ∈ Region.ready md ops listed := by simpa using hr
    obtain ⟨o, h0, v, hy, hK⟩ := h
    exact wpAnyD_first (F := F) (n := n) (P := P) (isQ := isQ) (L := fun listed' a' w' => Region.seqB md ops (ops.size - nn) nn listed' = true ∧ T a' w') h0 (Region.noSelect_spec hsel) hs hc hn h2 h1 (fun listed' a' w' hL => seqB_ready hL.1) is.length listed a w inv (Region.free_spec h0 hf) hr' hy
      (wpAnyD_steps hsel hs hc hn is _ _ w (fun k hk => hq k (by simp [hk])) (inv.set hr' h2) hB' hK)
  | (i, false) :: is, listed, a, w, hq, inv, hB, h => by
    simp only [lexS, Bool.and_eq_true, decide_eq_true_eq] at hB
    have hi : i ∈ Region.ready md ops listed := by rw [hB.1]; simp
    obtain ⟨h1, h2⟩ := hq (i, false) (by simp)
    refine ⟨fun h1 => (by rw [hB.1] at h1; cases h1), fun j hj => ?_⟩
    rw [hB.1] at hj
    obtain rfl : j = i := by simpa using hj
    obtain ⟨o, h0, hmid⟩ := h
    exact ⟨h2, o, h0, .inr ⟨h1, midD_mono (fun a2 w2 _ h3 => wpAnyD_steps hsel hs hc hn is _ a2 w2 (fun k hk => hq k (by simp [hk])) (inv.set hi h2) hB.2 h3) hmid⟩⟩

def stepsB (ops : Array Oper) (nn : Nat) (ss : List (Nat × Bool)) : Bool :=
  Region.noSelect ops && ops.all noDefer && decide (nn < ops.size) && Region.sinkB .any ops nn && Region.chainB .any ops nn && decide (ss.length = nn) && ss.all (fun s => decide (s.1 < nn) && (ss.contains (s.1, true) == s.2)) && lexS .any ops nn ss (Array.replicate ops.size false)

theorem wpIn_region_steps {id : Nat} {Q : Exit → Act → World → Prop} {a : Act} {w : World} {l : List Oper} (D : List Nat) (nn : Nat) (ss : List (Nat × Bool)) (hm : P.follows .mixedOrders = true) (hB : stepsB l.toArray nn ss = true)
    (h : wpSD D F n P l.toArray (fun a2 w2 => ∀ w3, Ext w2 w3 → wpListIn F n P l.toArray Q (l.drop nn) a2 w3) ss a w) : (Code.region id l.toArray true).wpIn F n P Q a w := by
  simp only [stepsB, Bool.and_eq_true, decide_eq_true_eq] at hB
  obtain ⟨⟨⟨⟨⟨⟨⟨hsel, hnd⟩, hn⟩, hs⟩, hc⟩, hlen⟩, hqs⟩, hlex⟩ := hB
  have hn' : nn < l.length := by simpa using hn
  have hdl : (l.drop nn).length = l.toArray.size - nn := by simp
  have inv0 : HeadInv .any l.toArray nn (Array.replicate l.toArray.size false) :=
    ⟨by simp, fun j oj _ hl => (by rw [getD_replicate_false] at hl; cases hl), fun t _ ht => getD_in (by simpa using ht) (getD_replicate_false _ _)⟩
  have H := wpAnyD_steps (F := F) (n := n) (P := P) (md := .any) (isQ := fun i => ss.contains (i, true)) (nn := nn) hsel hs hc hn ss _ a w (fun s hs' => by
    have := List.all_eq_true.1 hqs s hs'
    simp only [Bool.and_eq_true, decide_eq_true_eq, beq_iff_eq] at this
    exact ⟨this.2, this.1⟩) inv0 hlex h
  refine wpIn_region_any hm ?_
  have := wpAnyIn_of_D (F := F) (n := n) (P := P) (Q' := Q) (g := l.toArray.size - nn) hnd (fun listed a' w' w1 hL hx => by
    have := wpAnyIn_of_seq (F := F) (n := n) (P := P) (md := .any) (Q' := Q) (l.drop nn) nn listed a' w1 (fun j => by simp [List.getElem?_drop]) (by rw [hdl]; exact hL.1) (hL.2 w1 hx)
    rwa [hdl] at this) _ _ _ _ { w with drawn := w.drawn + 1 } ((Ext.refl w).drew) H
  rw [hlen, show nn + (l.toArray.size - nn) = l.toArray.size by omega] at this
  exact this

theorem wpSD_q {w : World} {T : Act → World → Prop} {i : Nat} {is : List (Nat × Bool)} {o : Oper} {a : Act} (h0 : ops[i]? = some o) (hab : ∀ w3 f, o.about P w3 a.eval = some f → F.fn f)
    (h : ∀ K : Act → Prop, (∀ a, wpSD D F n P ops T is a w → K a) → if Region.wanted o (yielded ops a.tmps) then pureD D F n P o a w K else K (a.put o.dst undef)) : wpSD D F n P ops T ((i, true) :: is) a w := by
  have h1 := h _ (fun _ h => h)
  by_cases hw : Region.wanted o (yielded ops a.tmps) = true
  · rw [if_pos hw] at h1
    obtain ⟨v, h2, h3⟩ := h1
    refine ⟨o, h0, v, ⟨fun w3 _ => hab w3, .inl ⟨hw, fun w3 x => ?_⟩⟩, h3⟩
    have h4 := h2 ⟨w3, x⟩
    unfold Oper.quietAtIn
    generalize (execOp a.eval o).run P w3 = r at *
    cases r with
    | ok x w' => cases x <;> simp only [pureUD] at h4 <;> simp only [Oper.quietUponIn] <;> first | exact h4 | exact h4.elim
    | halt x w' => simp only [pureUD] at h4
  · rw [if_neg hw] at h1
    exact ⟨o, h0, undef, ⟨fun w3 _ => hab w3, .inr ⟨by simpa using hw, rfl⟩⟩, h1⟩
theorem wpSD_nil {w : World} {T : Act → World → Prop} {a : Act} (h : T a w) : wpSD D F n P ops T [] a w := h
theorem wpSD_m {w : World} {T : Act → World → Prop} {i : Nat} {is : List (Nat × Bool)} {o : Oper} {a : Act} (h0 : ops[i]? = some o) (hab : ∀ w1 f, o.about P w1 a.eval = some f → F.fn f)
    (h : ∀ (δ : BExt w) (K : Act → World → Prop), (∀ a w2, wpSD D F n P ops T is a w2 → K a w2) → if Region.wanted o (yielded ops a.tmps) then nextD D F n P o a δ.wd K else K (a.put o.dst undef) δ.wd) : wpSD D F n P ops T ((i, false) :: is) a w := by
  refine ⟨o, h0, fun w1 x => ⟨hab w1, ?_⟩⟩
  have h1 := h ⟨w1, x.bel⟩ _ (fun _ _ h => h)
  by_cases hw : Region.wanted o (yielded ops a.tmps) = true
  · rw [if_pos hw] at h1
    exact .inl ⟨hw, h1⟩
  · rw [if_neg hw] at h1
    exact .inr ⟨by simpa using hw, h1⟩
end

section
variable {α : Type} {K : EK α} {F : Fence} {n : Nat}
/-- An append of one element among them. -/
theorem EK.app_s {w : World} {ops : Array Oper} {T : Act → World → Prop} {i : Nat} {is : List (Nat × Bool)} {o : Oper} {a : Act} (h0 : ops[i]? = some o) (hgd : o.guard = none) (s x : Operand)
    (ho : o.op = .call { callee := .builtin .append, args := #[s, x], argTypes := #[K.st, K.st] })
    {B : Nat} {v : Value} {xs : List α} (b c : Nat) (y : α) (hs : a.eval s = v) (hx : a.eval x = .slice (some ⟨b, 0, none⟩) 1 c)
    (hcell : ∀ i u, (K.enc y)[i]? = some u → w.cell? ⟨b, i, none⟩ = some u) (hown : K.Own B w v xs) (hB : B ≤ w.heap.size) (hlen : xs.length ≤ 1000000000)
    (h : ∀ v' w1 w2, K.Own B w2 v' (xs ++ [y]) → Ext w w1 → w1.grownBy w2 v.ownBlock → wpSD v.ownBlock.toList F n Try.prog ops T is (a.put o.dst v') w2) : wpSD v.ownBlock.toList F n Try.prog ops T ((i, false) :: is) a w := by
  have := EK.app_mid (F := F) (n := n) (Q := wpSD v.ownBlock.toList F n Try.prog ops T is) (is := []) h0 hgd s x ho b c y hs hx hcell hown hB hlen h
  exact this
end
end Go.Proofs.Ytgeapenglcohfaa
