/- A region that draws its order: operations that only read or call quietly come first, in the order of the text; what is left is walked in every order that there is. Condition: no defer statement in it. -/
import Derived.Test.YtaaceadcnnfngaaQTail
namespace Go.Proofs.Ytaaceadcnnfngaa
open Go.RowKit

section
variable {F : Fence} {n : Nat} {P : Program} {ops : Array Oper} {md : Region.Mode} {B : Nat}

/-- What the operation leaves: a value, or a call's; all that lay below B lies. -/
def doneO (B : Nat) (F : Fence) (n : Nat) (P : Program) (w1 : World) (K : Value → World → Prop) : Result Next → Prop
  | .ok (.value v) w2 => Below B w1 w2 ∧ K v w2
  | .ok (.enter f args) w2 => w2 = w1 ∧ (F.depth.isSome = true → 1 ≤ n) ∧ CallsIn F (n - 1) P f args w1 (fun e w3 => ∃ v, e = .returned v ∧ Below B w1 w3 ∧ K v w3)
  | _ => False
theorem doneO_mono {w1 : World} {K K' : Value → World → Prop} (h : ∀ v w, Below B w1 w → K v w → K' v w) : ∀ {r : Result Next}, doneO B F n P w1 K r → doneO B F n P w1 K' r
  | .ok (.value _) _, h1 => ⟨h1.1, h _ _ h1.1 h1.2⟩
  | .ok (.enter _ _) _, h1 => ⟨h1.1, h1.2.1, h1.2.2.mono fun _ _ ⟨v, h2, h3, h4⟩ => ⟨v, h2, h3, h _ _ h3 h4⟩⟩
  | .ok .skip _, h1 => h1.elim
  | .halt _ _, h1 => h1.elim
def midT (B : Nat) (F : Fence) (n : Nat) (P : Program) (ops : Array Oper) (o : Oper) (K : Act → World → Prop) (a : Act) (w : World) : Prop :=
  Region.wanted o (yielded ops a.tmps) = true ∧ ∀ w1, Ext w w1 → (∀ f, o.about P w1 a.eval = some f → F.fn f) ∧ doneO B F n P w1 (fun v w2 => K (a.put o.dst v) w2) ((execOp a.eval o).run P w1)

def wpAnyT (B : Nat) (F : Fence) (n : Nat) (P : Program) (md : Region.Mode) (ops : Array Oper) (isQ : Nat → Bool) (nn : Nat) (L : Array Bool → Act → World → Prop) : Nat → Array Bool → Act → World → Prop
  | 0, listed, a, w => L listed a w
  | f + 1, listed, a, w =>
    Region.ready md ops listed ≠ [] ∧ ∀ i ∈ Region.ready md ops listed, i < nn ∧ ∃ o, ops[i]? = some o ∧
      ((isQ i = true ∧ ∃ v, YQ B F n P ops o v a w ∧ wpAnyT B F n P md ops isQ nn L f (listed.setIfInBounds i true) (a.put o.dst v) w) ∨
       (isQ i = false ∧ midT B F n P ops o (wpAnyT B F n P md ops isQ nn L f (listed.setIfInBounds i true)) a w))

theorem wpOpIn_of_midT {i : Nat} {o : Oper} {a : Act} {w w1 : World} {K : Act → World → Prop} {Q' : Exit → Act → World → Prop} (hi : ops[i]? = some o) (hnd : noDefer o = true) (hx : Ext w w1) (hm : midT B F n P ops o K a w) :
    wpOpIn F n P ops Q' i (fun a2 w2 => Below B w1 w2 ∧ K a2 w2) a w1 := by
  unfold wpOpIn
  simp only [hi, hm.1, if_true]
  obtain ⟨hab, hr⟩ := hm.2 w1 hx
  unfold Oper.wpIn
  refine ⟨hab, ?_⟩
  rw [semAt_any hnd]
  generalize (execOp a.eval o).run P w1 = r at *
  cases r with
  | ok x w' =>
    cases x <;> simp only [doneO] at hr <;> simp only [Oper.uponIn]
    case value v => exact hr
    case enter f args =>
      obtain ⟨e1, hd, hc⟩ := hr
      rw [e1]
      exact ⟨hd, hc.mono fun e w'' ⟨v, he, hb, hK⟩ => by subst he; exact ⟨hb, hK⟩⟩
  | halt x w' => simp only [doneO] at hr
theorem midT_mono {o : Oper} {a : Act} {w : World} {K K' : Act → World → Prop} (hB : B ≤ w.heap.size) (h : ∀ a w2, Below B w w2 → K a w2 → K' a w2) (hm : midT B F n P ops o K a w) : midT B F n P ops o K' a w :=
  ⟨hm.1, fun w1 hx => ⟨(hm.2 w1 hx).1, doneO_mono (fun _ _ hb hK => h _ _ ((hx.belB hB).trans hb) hK) (hm.2 w1 hx).2⟩⟩

theorem wpAnyIn_of_T {isQ : Nat → Bool} {nn g : Nat} {L : Array Bool → Act → World → Prop} {Q' : Exit → Act → World → Prop} (hnd : ops.all noDefer = true) (hL : ∀ listed a w w1, L listed a w → Ext w w1 → wpAnyIn F n P md ops Q' g listed a w1) :
    ∀ (f : Nat) (listed : Array Bool) (a : Act) (w w1 : World), B ≤ w.heap.size → Ext w w1 → wpAnyT B F n P md ops isQ nn L f listed a w → wpAnyIn F n P md ops Q' (f + g) listed a w1
  | 0, listed, a, w, w1, _, hx, h => by rw [Nat.zero_add]; exact hL _ _ _ _ h hx
  | f + 1, listed, a, w, w1, hB, hx, h => by
    rw [show f + 1 + g = (f + g) + 1 by omega]
    refine ⟨fun h0 => absurd h0 h.1, fun i hi => ?_⟩
    obtain ⟨_, o, ho, hc⟩ := h.2 i hi
    have hnd' : noDefer o = true := by
      obtain ⟨hi, rfl⟩ := Array.getElem?_eq_some_iff.1 ho
      exact Array.all_eq_true.1 hnd i hi
    rcases hc with ⟨_, v, hy, hK⟩ | ⟨_, hm⟩
    · exact wpOpIn_of_YQ ho hnd' (hx.belB hB) hy fun w2 h2 => wpAnyIn_of_T hnd hL f _ _ _ _ hB (hx.trans h2) hK
    · exact wpOpIn_mono (fun a' w' h' => wpAnyIn_of_T hnd hL f _ a' w' w' (Nat.le_trans (Nat.le_trans hB hx.bel.size) h'.1.size) (Ext.refl _) h'.2) (wpOpIn_of_midT ho hnd' hx hm)

theorem wpAnyT_first {isQ : Nat → Bool} {nn i : Nat} {oi : Oper} {v : Value} {L : Array Bool → Act → World → Prop} (hi : ops[i]? = some oi) (hsel : ∀ (j : Nat) (o : Oper) cs b, ops[j]? = some o → o.op ≠ .select cs b)
    (hs : Region.sinkB md ops nn = true) (hc : Region.chainB md ops nn = true) (hn : nn < ops.size) (hin : i < nn) (hik : isQ i = true)
    (hdone : ∀ listed a w, L listed a w → ∀ j ∈ Region.ready md ops listed, nn ≤ j) :
    ∀ (f : Nat) (listed : Array Bool) (a : Act) (w : World), B ≤ w.heap.size → HeadInv md ops nn listed →
      (∀ j oj, ops[j]? = some oj → j ≠ i → listed.getD j true = false → (∀ e ∈ oj.after, Region.binds md e = true → e.on ≠ i) → oi.apart ops oj = true) →
      i ∈ Region.ready md ops listed → YQ B F n P ops oi v a w →
      wpAnyT B F n P md ops isQ nn L f (listed.setIfInBounds i true) (a.put oi.dst v) w → wpAnyT B F n P md ops isQ nn L (f + 1) listed a w := by
  intro f
  induction f with
  | zero =>
    intro listed a w _ inv _ hr hy H
    have hun := (mem_ready.1 hr).1
    refine ⟨fun h => (by rw [h] at hr; cases hr), fun j hj => ?_⟩
    have hjn : j < nn := by
      rcases Nat.lt_or_ge j nn with h | h
      · exact h
      · exact absurd hj (tail_waits hs hc hn inv _ i rfl hin hun j h)
    refine ⟨hjn, ?_⟩
    by_cases hji : j = i
    · subst hji; exact ⟨oi, hi, .inl ⟨hik, v, hy, H⟩⟩
    · have := hdone _ _ _ H j (ready_mono hj hji)
      omega
  | succ f ih =>
    intro listed a w hB inv hfree hr hy H
    have hun := (mem_ready.1 hr).1
    refine ⟨fun h => (by rw [h] at hr; cases hr), fun j hj => ?_⟩
    have hjn : j < nn := by
      rcases Nat.lt_or_ge j nn with h | h
      · exact h
      · exact absurd hj (tail_waits hs hc hn inv _ i rfl hin hun j h)
    refine ⟨hjn, ?_⟩
    by_cases hji : j = i
    · subst hji; exact ⟨oi, hi, .inl ⟨hik, v, hy, H⟩⟩
    · obtain ⟨_, oj, hoj, hcase⟩ := H.2 j (ready_mono hj hji)
      obtain ⟨hjun, oj', hoj', hall⟩ := mem_ready.1 hj
      obtain rfl : oj = oj' := Option.some.inj (hoj.symm.trans hoj')
      have hnot : ∀ e ∈ oj.after, Region.binds md e = true → e.on ≠ i := fun e he hb heq => by
        have h1 := hall e he hb
        rw [heq, getD_both hun] at h1
        cases h1
      have hap := hfree j oj hoj hji hjun hnot
      obtain ⟨p1, p2, p3⟩ := Oper.apart_spec hap
      have hsi := fun cs b => hsel i oi cs b hi
      have hsj := fun cs b => hsel j oj cs b hoj
      have keep : ∀ u w2, Below B w w2 → YQ B F n P ops oi v (a.put oj.dst u) w2 := fun u w2 x =>
        (hy.later x).of_same (execOp_put oi hsi a oj.dst u p3) (wanted_put oi a oj.dst u p3) (fun w => about_put oi w a oj.dst u p3)
      have hfree' : ∀ k ok, ops[k]? = some ok → k ≠ i → (listed.setIfInBounds j true).getD k true = false →
          (∀ e ∈ ok.after, Region.binds md e = true → e.on ≠ i) → oi.apart ops ok = true := fun k ok hk hki hun hno => by
        refine hfree k ok hk hki ?_ hno
        by_cases hjk : j = k
        · subst hjk; exact hjun
        · rw [getD_set_ne true hjk] at hun; exact hun
      refine ⟨oj, hoj, hcase.imp (fun ⟨hjk, u, hyj, hK⟩ => ⟨hjk, u, ?_, ?_⟩) (fun ⟨hjk, hw, hm⟩ => ⟨hjk, ?_, fun w1 hx => ⟨?_, ?_⟩⟩)⟩
      · exact hyj.of_same (execOp_put oj hsj a oi.dst v p1).symm (wanted_put oj a oi.dst v p1).symm (fun w => (about_put oj w a oi.dst v p1).symm)
      · refine ih (listed.setIfInBounds j true) _ w hB (inv.set hj hjn) hfree' (ready_mono hr (Ne.symm hji)) (keep u w (Below.refl _ _)) ?_
        rw [Array.setIfInBounds_comm _ _ hji, ← Act.put_comm a v u p2]
        exact hK
      · rw [← wanted_put oj a oi.dst v p1]; exact hw
      · rw [← about_put oj w1 a oi.dst v p1]; exact (hm w1 hx).1
      · have h2 := (hm w1 hx).2
        rw [execOp_put oj hsj a oi.dst v p1] at h2
        refine doneO_mono (fun u w2 h12 hK => ?_) h2
        refine ih (listed.setIfInBounds j true) _ w2 (Nat.le_trans (Nat.le_trans hB hx.bel.size) h12.size) (inv.set hj hjn) hfree' (ready_mono hr (Ne.symm hji)) (keep u w2 ((hx.belB hB).trans h12)) ?_
        rw [Array.setIfInBounds_comm _ _ hji, ← Act.put_comm a v u p2]
        exact hK

def lexT (md : Region.Mode) (ops : Array Oper) : List Nat → Array Bool → Bool
  | [], _ => true
  | i :: is, listed => (Region.ready md ops listed).contains i && Region.free md ops listed i && lexT md ops is (listed.setIfInBounds i true)
def setAll : List Nat → Array Bool → Array Bool
  | [], listed => listed
  | i :: is, listed => setAll is (listed.setIfInBounds i true)
theorem wpAnyT_lex {isQ : Nat → Bool} {nn k : Nat} {L : Array Bool → Act → World → Prop} (hdone : ∀ listed a w, L listed a w → ∀ j ∈ Region.ready md ops listed, nn ≤ j)
    (hsel : Region.noSelect ops = true) (hs : Region.sinkB md ops nn = true) (hc : Region.chainB md ops nn = true) (hn : nn < ops.size) :
    ∀ (qs : List Nat) (listed : Array Bool) (a : Act) (w : World), B ≤ w.heap.size → (∀ i ∈ qs, isQ i = true ∧ i < nn) → HeadInv md ops nn listed →
    lexT md ops qs listed = true → wpQ B F n P ops w (fun a' => wpAnyT B F n P md ops isQ nn L k (setAll qs listed) a' w) qs a →
    wpAnyT B F n P md ops isQ nn L (qs.length + k) listed a w
  | [], listed, a, w, _, _, _, _, h => by
    simp only [wpQ, setAll] at h
    simpa using h
  | i :: is, listed, a, w, hw, hq, inv, hB, h => by
    simp only [lexT, Bool.and_eq_true] at hB
    obtain ⟨⟨hr, hf⟩, hB'⟩ := hB
    obtain ⟨h1, h2⟩ := hq i (by simp)
    have hr' : i ∈ Region.ready md ops listed := by simpa using hr
    obtain ⟨o, h0, v, hy, hK⟩ := h
    have := wpAnyT_first (F := F) (n := n) (P := P) (isQ := isQ) (L := L) h0 (Region.noSelect_spec hsel) hs hc hn h2 h1 hdone (is.length + k) listed a w hw inv (Region.free_spec h0 hf) hr' hy
      (wpAnyT_lex hdone hsel hs hc hn is _ _ w hw (fun k hk => hq k (by simp [hk])) (inv.set hr' h2) hB' hK)
    rw [List.length_cons, show is.length + 1 + k = is.length + k + 1 by omega]
    exact this

def treeB (ops : Array Oper) (nn : Nat) (qs : List Nat) : Bool :=
  Region.noSelect ops && ops.all noDefer && decide (nn < ops.size) && Region.sinkB .any ops nn && Region.chainB .any ops nn && decide (qs.length ≤ nn) && qs.all (fun i => decide (i < nn)) && lexT .any ops qs (Array.replicate ops.size false)

/-- The end of the tree: the operations from nn on come one after the other. -/
def TreeEnd (F : Fence) (n : Nat) (P : Program) (ops : Array Oper) (nn : Nat) (tail : List Oper) (Q : Exit → Act → World → Prop) (listed : Array Bool) (a : Act) (w : World) : Prop :=
  Region.seqB .any ops (ops.size - nn) nn listed = true ∧ ∀ w3, Ext w w3 → wpListIn F n P ops Q tail a w3

/-- The operations qs only read or call quietly; those from nn on stand behind all others, one after the other; the others are walked in every order. -/
theorem wpIn_region_tree {id : Nat} {Q : Exit → Act → World → Prop} {a : Act} {w : World} {l : List Oper} (nn : Nat) (qs : List Nat) (hBw : B ≤ w.heap.size) (hm : P.follows .mixedOrders = true) (hB : treeB l.toArray nn qs = true)
    (h : wpQ B F n P l.toArray w (fun a' => wpAnyT B F n P .any l.toArray (fun i => qs.contains i) nn (TreeEnd F n P l.toArray nn (l.drop nn) Q) (nn - qs.length) (setAll qs (Array.replicate l.toArray.size false)) a' w) qs a) : (Code.region id l.toArray true).wpIn F n P Q a w := by
  simp only [treeB, Bool.and_eq_true, decide_eq_true_eq] at hB
  obtain ⟨⟨⟨⟨⟨⟨⟨hsel, hnd⟩, hn⟩, hs⟩, hc⟩, hlen⟩, hqs⟩, hlex⟩ := hB
  have hn' : nn < l.length := by simpa using hn
  have hdl : (l.drop nn).length = l.toArray.size - nn := by simp
  have inv0 : HeadInv .any l.toArray nn (Array.replicate l.toArray.size false) :=
    ⟨by simp, fun j oj _ hl => (by rw [getD_replicate_false] at hl; cases hl), fun t _ ht => getD_in (by simpa using ht) (getD_replicate_false _ _)⟩
  have H := wpAnyT_lex (F := F) (n := n) (P := P) (md := .any) (isQ := fun i => qs.contains i) (nn := nn) (L := TreeEnd F n P l.toArray nn (l.drop nn) Q) (fun listed a w hL => seqB_ready hL.1) hsel hs hc hn qs _ a w hBw
    (fun i hi => ⟨by simpa using hi, by simpa using List.all_eq_true.1 hqs i hi⟩) inv0 hlex h
  refine wpIn_region_any hm ?_
  have := wpAnyIn_of_T (F := F) (n := n) (P := P) (Q' := Q) (g := l.toArray.size - nn) hnd (fun listed a' w' w1 hL hx => by
    have := wpAnyIn_of_seq (F := F) (n := n) (P := P) (md := .any) (Q' := Q) (l.drop nn) nn listed a' w1 (fun j => by simp [List.getElem?_drop]) (by rw [hdl]; exact hL.1) (hL.2 w1 hx)
    rwa [hdl] at this) _ _ _ _ { w with drawn := w.drawn + 1 } hBw ((Ext.refl w).drew) H
  rw [show qs.length + (nn - qs.length) = nn by omega, show nn + (l.toArray.size - nn) = l.toArray.size by omega] at this
  exact this

/-- One more step of the tree: the operations that may come next are those of rs. -/
theorem wpAnyT_step {isQ : Nat → Bool} {nn f : Nat} {L : Array Bool → Act → World → Prop} {listed : Array Bool} {a : Act} {w : World} (rs : List Nat) (hr : Region.ready md ops listed = rs) (hne : rs ≠ []) (hlt : rs.all (fun i => decide (i < nn) && !isQ i) = true)
    (h : ∀ i ∈ rs, ∃ o, ops[i]? = some o ∧ midT B F n P ops o (wpAnyT B F n P md ops isQ nn L f (listed.setIfInBounds i true)) a w) : wpAnyT B F n P md ops isQ nn L (f + 1) listed a w := by
  refine ⟨by rw [hr]; exact hne, fun i hi => ?_⟩
  rw [hr] at hi
  have h1 := List.all_eq_true.1 hlt i hi
  simp only [Bool.and_eq_true, decide_eq_true_eq, Bool.not_eq_true'] at h1
  obtain ⟨o, ho, hm⟩ := h i hi
  exact ⟨h1.1, o, ho, .inr ⟨h1.2, hm⟩⟩
/-- The operation, walked from any world upon this one. -/
theorem midT_step {o : Oper} {a : Act} {w : World} {K : Act → World → Prop} (hw : Region.wanted o (yielded ops a.tmps) = true) (hab : ∀ w1 f, o.about P w1 a.eval = some f → F.fn f)
    (h : ∀ (δ : BExt w) (K' : Act → World → Prop), (∀ a w2, K a w2 → K' a w2) → doneO B F n P δ.wd (fun v w2 => K' (a.put o.dst v) w2) ((execOp a.eval o).run P δ.wd)) : midT B F n P ops o K a w :=
  ⟨hw, fun w1 x => ⟨hab w1, h ⟨w1, x.bel⟩ _ fun _ _ h => h⟩⟩
end
attribute [go_sem] doneO
end Go.Proofs.Ytaaceadcnnfngaa
