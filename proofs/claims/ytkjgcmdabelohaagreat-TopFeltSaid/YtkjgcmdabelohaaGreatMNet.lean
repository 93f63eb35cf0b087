/- A region that draws its order, as a net of operations: each is walked once, from any world in which what it needs holds; the facts that it ends are told. No condition. -/
/- Blocks, and whole slices that are appended. No condition. -/
/- A region that draws its order, walked in steps (QS), with operations that only read and stand ahead of every write: these may read what is written later. Condition: no defer statement in it. -/
import Derived.Test.YtkjgcmdabelohaaGreatMBase
import Derived.Test.YtkjgcmdabelohaaGreatMAcc
import Derived.Maps.AppendAt
namespace Go.Proofs.YtkjgcmdabelohaaGreat
section
/- QTree: A region that draws its order: operations that only read or call quietly come first, in the order of the text; what is left is walked in every order that there is. Condition: no defer statement in it. -/
open Go.RowKit

section
variable {F : Fence} {n : Nat} {P : Program} {ops : Array Oper} {md : Region.Mode} {B : Nat}

/-- What the operation leaves: a value, or a call's; all that lay below B lies. -/
def doneO (B : Nat) (F : Fence) (n : Nat) (P : Program) (w1 : World) (K : Value → World → Prop) : Result Next → Prop
  | .ok (.value v) w2 => Below B w1 w2 ∧ K v w2
  | .ok (.enter f args) w2 => w2 = w1 ∧ (F.depth.isSome = true → 1 ≤ n) ∧ CallsIn F (n - 1) P f args w1 (fun e w3 => ∃ v, e = .returned v ∧ Below B w1 w3 ∧ K v w3)
  | .ok .skip w2 => Below B w1 w2 ∧ K undef w2
  | _ => False
theorem doneO_mono {w1 : World} {K K' : Value → World → Prop} (h : ∀ v w, Below B w1 w → K v w → K' v w) : ∀ {r : Result Next}, doneO B F n P w1 K r → doneO B F n P w1 K' r
  | .ok (.value _) _, h1 => ⟨h1.1, h _ _ h1.1 h1.2⟩
  | .ok (.enter _ _) _, h1 => ⟨h1.1, h1.2.1, h1.2.2.mono fun _ _ ⟨v, h2, h3, h4⟩ => ⟨v, h2, h3, h _ _ h3 h4⟩⟩
  | .ok .skip _, h1 => ⟨h1.1, h _ _ h1.1 h1.2⟩
  | .halt _ _, h1 => h1.elim
def midT (B : Nat) (F : Fence) (n : Nat) (P : Program) (ops : Array Oper) (o : Oper) (K : Act → World → Prop) (a : Act) (w : World) : Prop :=
  Region.wanted o (yielded ops a.tmps) = true ∧ ∀ w1, Ext w w1 → (∀ f, o.about P w1 a.eval = some f → F.fn f) ∧ doneO B F n P w1 (fun v w2 => K (a.put o.dst v) w2) ((execOp a.eval o).run P w1)

def wpAnyT (B : Nat) (F : Fence) (n : Nat) (P : Program) (md : Region.Mode) (ops : Array Oper) (isQ : Nat → Bool) (nn : Nat) (L : Array Bool → Act → World → Prop) : Nat → Array Bool → Act → World → Prop
  | 0, listed, a, w => L listed a w
  | f + 1, listed, a, w =>
    Region.ready md ops listed ≠ [] ∧ ∀ i ∈ Region.ready md ops listed, i < nn ∧ ∃ o, ops[i]? = some o ∧
      ((isQ i = true ∧ ∃ v, YQ B F n P ops o v a w ∧ wpAnyT B F n P md ops isQ nn L f (listed.setIfInBounds i true) (a.put o.dst v) w) ∨
       (isQ i = false ∧ midT B F n P ops o (wpAnyT B F n P md ops isQ nn L f (listed.setIfInBounds i true)) a w))

theorem wpOpIn_of_midT {i : Nat} {o : Oper} {a : Act} {w w1 : World} {K : Act → World → Prop} {Q' : Exit → Act → World → Prop} (hi : ops[i]? = some o) (hnd : noDefer o = true) (hx : Ext w w1) (hm : midT B F n P ops o K a w) :
    wpOpIn F n P ops Q' i (fun a2 w2 => Below B w1 w2 ∧ K a2 w2) a w1 := by
  unfold wpOpIn
  simp only [hi, hm.1, if_true]
  obtain ⟨hab, hr⟩ := hm.2 w1 hx
  unfold Oper.wpIn
  refine ⟨hab, ?_⟩
  rw [semAt_any hnd]
  generalize (execOp a.eval o).run P w1 = r at *
  cases r with
  | ok x w' =>
    cases x <;> simp only [doneO] at hr <;> simp only [Oper.uponIn]
    case value v => exact hr
    case skip => exact hr
    case enter f args =>
      obtain ⟨e1, hd, hc⟩ := hr
      rw [e1]
      exact ⟨hd, hc.mono fun e w'' ⟨v, he, hb, hK⟩ => by subst he; exact ⟨hb, hK⟩⟩
  | halt x w' => simp only [doneO] at hr
theorem midT_mono {o : Oper} {a : Act} {w : World} {K K' : Act → World → Prop} (hB : B ≤ w.heap.size) (h : ∀ a w2, Below B w w2 → K a w2 → K' a w2) (hm : midT B F n P ops o K a w) : midT B F n P ops o K' a w :=
  ⟨hm.1, fun w1 hx => ⟨(hm.2 w1 hx).1, doneO_mono (fun _ _ hb hK => h _ _ ((hx.belB hB).trans hb) hK) (hm.2 w1 hx).2⟩⟩

theorem wpAnyIn_of_T {isQ : Nat → Bool} {nn g : Nat} {L : Array Bool → Act → World → Prop} {Q' : Exit → Act → World → Prop} (hnd : ops.all noDefer = true) (hL : ∀ listed a w w1, L listed a w → Ext w w1 → wpAnyIn F n P md ops Q' g listed a w1) :
    ∀ (f : Nat) (listed : Array Bool) (a : Act) (w w1 : World), B ≤ w.heap.size → Ext w w1 → wpAnyT B F n P md ops isQ nn L f listed a w → wpAnyIn F n P md ops Q' (f + g) listed a w1
  | 0, listed, a, w, w1, _, hx, h => by rw [Nat.zero_add]; exact hL _ _ _ _ h hx
  | f + 1, listed, a, w, w1, hB, hx, h => by
    rw [show f + 1 + g = (f + g) + 1 by omega]
    refine ⟨fun h0 => absurd h0 h.1, fun i hi => ?_⟩
    obtain ⟨_, o, ho, hc⟩ := h.2 i hi
    have hnd' : noDefer o = true := by
      obtain ⟨hi, rfl⟩ := Array.getElem?_eq_some_iff.1 ho
      exact Array.all_eq_true.1 hnd i hi
    rcases hc with ⟨_, v, hy, hK⟩ | ⟨_, hm⟩
    · exact wpOpIn_of_YQ ho hnd' (hx.belB hB) hy fun w2 h2 => wpAnyIn_of_T hnd hL f _ _ _ _ hB (hx.trans h2) hK
    · exact wpOpIn_mono (fun a' w' h' => wpAnyIn_of_T hnd hL f _ a' w' w' (Nat.le_trans (Nat.le_trans hB hx.bel.size) h'.1.size) (Ext.refl _) h'.2) (wpOpIn_of_midT ho hnd' hx hm)

theorem wpAnyT_first {isQ : Nat → Bool} {nn i : Nat} {oi : Oper} {v : Value} {L : Array Bool → Act → World → Prop} (hi : ops[i]? = some oi) (hsel : ∀ (j : Nat) (o : Oper) cs b, ops[j]? = some o → o.op ≠ .select cs b)
    (htl : nn = ops.size ∨ (nn < ops.size ∧ Region.sinkB md ops nn = true ∧ Region.chainB md ops nn = true)) (hin : i < nn) (hik : isQ i = true)
    (hdone : ∀ listed a w, L listed a w → ∀ j ∈ Region.ready md ops listed, nn ≤ j) :
    ∀ (f : Nat) (listed : Array Bool) (a : Act) (w : World), B ≤ w.heap.size → HeadInv md ops nn listed →
      (∀ j oj, ops[j]? = some oj → j ≠ i → listed.getD j true = false → (∀ e ∈ oj.after, Region.binds md e = true → e.on ≠ i) → oi.apart ops oj = true) →
      i ∈ Region.ready md ops listed → YQ B F n P ops oi v a w →
      wpAnyT B F n P md ops isQ nn L f (listed.setIfInBounds i true) (a.put oi.dst v) w → wpAnyT B F n P md ops isQ nn L (f + 1) listed a w := by
  intro f
  induction f with
  | zero =>
    intro listed a w _ inv _ hr hy H
    have hun := (mem_ready.1 hr).1
    refine ⟨fun h => (by rw [h] at hr; cases hr), fun j hj => ?_⟩
    have hjn : j < nn := by
      rcases htl with h0 | ⟨hn, hs, hc⟩
      · obtain ⟨_, o, ho, _⟩ := mem_ready.1 hj
        rw [h0]
        exact (Array.getElem?_eq_some_iff.1 ho).1
      rcases Nat.lt_or_ge j nn with h | h
      · exact h
      · exact absurd hj (tail_waits hs hc hn inv _ i rfl hin hun j h)
    refine ⟨hjn, ?_⟩
    by_cases hji : j = i
    · subst hji; exact ⟨oi, hi, .inl ⟨hik, v, hy, H⟩⟩
    · have := hdone _ _ _ H j (ready_mono hj hji)
      omega
  | succ f ih =>
    intro listed a w hB inv hfree hr hy H
    have hun := (mem_ready.1 hr).1
    refine ⟨fun h => (by rw [h] at hr; cases hr), fun j hj => ?_⟩
    have hjn : j < nn := by
      rcases htl with h0 | ⟨hn, hs, hc⟩
      · obtain ⟨_, o, ho, _⟩ := mem_ready.1 hj
        rw [h0]
        exact (Array.getElem?_eq_some_iff.1 ho).1
      rcases Nat.lt_or_ge j nn with h | h
      · exact h
      · exact absurd hj (tail_waits hs hc hn inv _ i rfl hin hun j h)
    refine ⟨hjn, ?_⟩
    by_cases hji : j = i
    · subst hji; exact ⟨oi, hi, .inl ⟨hik, v, hy, H⟩⟩
    · obtain ⟨_, oj, hoj, hcase⟩ := H.2 j (ready_mono hj hji)
      obtain ⟨hjun, oj', hoj', hall⟩ := mem_ready.1 hj
      obtain rfl : oj = oj' := Option.some.inj (hoj.symm.trans hoj')
      have hnot : ∀ e ∈ oj.after, Region.binds md e = true → e.on ≠ i := fun e he hb heq => by
        have h1 := hall e he hb
        rw [heq, getD_both hun] at h1
        cases h1
      have hap := hfree j oj hoj hji hjun hnot
      obtain ⟨p1, p2, p3⟩ := Oper.apart_spec hap
      have hsi := fun cs b => hsel i oi cs b hi
      have hsj := fun cs b => hsel j oj cs b hoj
      have keep : ∀ u w2, Below B w w2 → YQ B F n P ops oi v (a.put oj.dst u) w2 := fun u w2 x =>
        (hy.later x).of_same (execOp_put oi hsi a oj.dst u p3) (wanted_put oi a oj.dst u p3) (fun w => about_put oi w a oj.dst u p3)
      have hfree' : ∀ k ok, ops[k]? = some ok → k ≠ i → (listed.setIfInBounds j true).getD k true = false →
          (∀ e ∈ ok.after, Region.binds md e = true → e.on ≠ i) → oi.apart ops ok = true := fun k ok hk hki hun hno => by
        refine hfree k ok hk hki ?_ hno
        by_cases hjk : j = k
        · subst hjk; exact hjun
        · rw [getD_set_ne true hjk] at hun; exact hun
      refine ⟨oj, hoj, hcase.imp (fun ⟨hjk, u, hyj, hK⟩ => ⟨hjk, u, ?_, ?_⟩) (fun ⟨hjk, hw, hm⟩ => ⟨hjk, ?_, fun w1 hx => ⟨?_, ?_⟩⟩)⟩
      · exact hyj.of_same (execOp_put oj hsj a oi.dst v p1).symm (wanted_put oj a oi.dst v p1).symm (fun w => (about_put oj w a oi.dst v p1).symm)
      · refine ih (listed.setIfInBounds j true) _ w hB (inv.set hj hjn) hfree' (ready_mono hr (Ne.symm hji)) (keep u w (Below.refl _ _)) ?_
        rw [Array.setIfInBounds_comm _ _ hji, ← Act.put_comm a v u p2]
        exact hK
      · rw [← wanted_put oj a oi.dst v p1]; exact hw
      · rw [← about_put oj w1 a oi.dst v p1]; exact (hm w1 hx).1
      · have h2 := (hm w1 hx).2
        rw [execOp_put oj hsj a oi.dst v p1] at h2
        refine doneO_mono (fun u w2 h12 hK => ?_) h2
        refine ih (listed.setIfInBounds j true) _ w2 (Nat.le_trans (Nat.le_trans hB hx.bel.size) h12.size) (inv.set hj hjn) hfree' (ready_mono hr (Ne.symm hji)) (keep u w2 ((hx.belB hB).trans h12)) ?_
        rw [Array.setIfInBounds_comm _ _ hji, ← Act.put_comm a v u p2]
        exact hK

def lexT (md : Region.Mode) (ops : Array Oper) : List Nat → Array Bool → Bool
  | [], _ => true
  | i :: is, listed => (Region.ready md ops listed).contains i && Region.free md ops listed i && lexT md ops is (listed.setIfInBounds i true)
def setAll : List Nat → Array Bool → Array Bool
  | [], listed => listed
  | i :: is, listed => setAll is (listed.setIfInBounds i true)
theorem wpAnyT_lex {isQ : Nat → Bool} {nn k : Nat} {L : Array Bool → Act → World → Prop} (hdone : ∀ listed a w, L listed a w → ∀ j ∈ Region.ready md ops listed, nn ≤ j)
    (hsel : Region.noSelect ops = true) (htl : nn = ops.size ∨ (nn < ops.size ∧ Region.sinkB md ops nn = true ∧ Region.chainB md ops nn = true)) :
    ∀ (qs : List Nat) (listed : Array Bool) (a : Act) (w : World), B ≤ w.heap.size → (∀ i ∈ qs, isQ i = true ∧ i < nn) → HeadInv md ops nn listed →
    lexT md ops qs listed = true → wpQ B F n P ops w (fun a' => wpAnyT B F n P md ops isQ nn L k (setAll qs listed) a' w) qs a →
    wpAnyT B F n P md ops isQ nn L (qs.length + k) listed a w
  | [], listed, a, w, _, _, _, _, h => by
    simp only [wpQ, setAll] at h
    simpa using h
  | i :: is, listed, a, w, hw, hq, inv, hB, h => by
    simp only [lexT, Bool.and_eq_true] at hB
    obtain ⟨⟨hr, hf⟩, hB'⟩ := hB
    obtain ⟨h1, h2⟩ := hq i (by simp)
    have hr' : i ∈ Region.ready md ops listed := by simpa using hr
    obtain ⟨o, h0, v, hy, hK⟩ := h
    have := wpAnyT_first (F := F) (n := n) (P := P) (isQ := isQ) (L := L) h0 (Region.noSelect_spec hsel) htl h2 h1 hdone (is.length + k) listed a w hw inv (Region.free_spec h0 hf) hr' hy
      (wpAnyT_lex hdone hsel htl is _ _ w hw (fun k hk => hq k (by simp [hk])) (inv.set hr' h2) hB' hK)
    rw [List.length_cons, show is.length + 1 + k = is.length + k + 1 by omega]
    exact this

def treeB (ops : Array Oper) (nn : Nat) (qs : List Nat) : Bool :=
  Region.noSelect ops && ops.all noDefer && (decide (nn = ops.size) || (decide (nn < ops.size) && Region.sinkB .any ops nn && Region.chainB .any ops nn)) && decide (qs.length ≤ nn) && qs.all (fun i => decide (i < nn)) && lexT .any ops qs (Array.replicate ops.size false)

/-- The end of the tree: the operations from nn on come one after the other. -/
def TreeEnd (F : Fence) (n : Nat) (P : Program) (ops : Array Oper) (nn : Nat) (tail : List Oper) (Q : Exit → Act → World → Prop) (listed : Array Bool) (a : Act) (w : World) : Prop :=
  Region.seqB .any ops (ops.size - nn) nn listed = true ∧ ∀ w3, Ext w w3 → wpListIn F n P ops Q tail a w3

/-- The operations qs only read or call quietly; those from nn on stand behind all others, one after the other; the others are walked in every order. -/
theorem wpIn_region_tree {id : Nat} {Q : Exit → Act → World → Prop} {a : Act} {w : World} {l : List Oper} (nn : Nat) (qs : List Nat) (hBw : B ≤ w.heap.size) (hm : P.follows .mixedOrders = true) (hB : treeB l.toArray nn qs = true)
    (h : wpQ B F n P l.toArray w (fun a' => wpAnyT B F n P .any l.toArray (fun i => qs.contains i) nn (TreeEnd F n P l.toArray nn (l.drop nn) Q) (nn - qs.length) (setAll qs (Array.replicate l.toArray.size false)) a' w) qs a) : (Code.region id l.toArray true).wpIn F n P Q a w := by
  simp only [treeB, Bool.and_eq_true, decide_eq_true_eq] at hB
  obtain ⟨⟨⟨⟨⟨hsel, hnd⟩, htl⟩, hlen⟩, hqs⟩, hlex⟩ := hB
  simp only [Bool.or_eq_true, Bool.and_eq_true, decide_eq_true_eq] at htl
  replace htl := htl.imp (fun h => h) fun (h : (nn < l.toArray.size ∧ Region.sinkB .any l.toArray nn = true) ∧ Region.chainB .any l.toArray nn = true) => (⟨h.1.1, h.1.2, h.2⟩ : nn < l.toArray.size ∧ Region.sinkB .any l.toArray nn = true ∧ Region.chainB .any l.toArray nn = true)
  have hn' : nn ≤ l.toArray.size := by rcases htl with h | h <;> omega
  have hdl : (l.drop nn).length = l.toArray.size - nn := by simp
  have inv0 : HeadInv .any l.toArray nn (Array.replicate l.toArray.size false) :=
    ⟨by simp, fun j oj _ hl => (by rw [getD_replicate_false] at hl; cases hl), fun t _ ht => getD_in (by simpa using ht) (getD_replicate_false _ _)⟩
  have H := wpAnyT_lex (F := F) (n := n) (P := P) (md := .any) (isQ := fun i => qs.contains i) (nn := nn) (L := TreeEnd F n P l.toArray nn (l.drop nn) Q) (fun listed a w hL => seqB_ready hL.1) hsel htl qs _ a w hBw
    (fun i hi => ⟨by simpa using hi, by simpa using List.all_eq_true.1 hqs i hi⟩) inv0 hlex h
  refine wpIn_region_any hm ?_
  have := wpAnyIn_of_T (F := F) (n := n) (P := P) (Q' := Q) (g := l.toArray.size - nn) hnd (fun listed a' w' w1 hL hx => by
    have := wpAnyIn_of_seq (F := F) (n := n) (P := P) (md := .any) (Q' := Q) (l.drop nn) nn listed a' w1 (fun j => by simp [List.getElem?_drop]) (by rw [hdl]; exact hL.1) (hL.2 w1 hx)
    rwa [hdl] at this) _ _ _ _ { w with drawn := w.drawn + 1 } hBw ((Ext.refl w).drew) H
  rw [show qs.length + (nn - qs.length) = nn by omega, show nn + (l.toArray.size - nn) = l.toArray.size by omega] at this
  exact this

/-- One more step of the tree: the operations that may come next are those of rs. -/
theorem wpAnyT_step {isQ : Nat → Bool} {nn f : Nat} {L : Array Bool → Act → World → Prop} {listed : Array Bool} {a : Act} {w : World} (rs : List Nat) (hr : Region.ready md ops listed = rs) (hne : rs ≠ []) (hlt : rs.all (fun i => decide (i < nn) && !isQ i) = true)
    (h : ∀ i ∈ rs, ∃ o, ops[i]? = some o ∧ midT B F n P ops o (wpAnyT B F n P md ops isQ nn L f (listed.setIfInBounds i true)) a w) : wpAnyT B F n P md ops isQ nn L (f + 1) listed a w := by
  refine ⟨by rw [hr]; exact hne, fun i hi => ?_⟩
  rw [hr] at hi
  have h1 := List.all_eq_true.1 hlt i hi
  simp only [Bool.and_eq_true, decide_eq_true_eq, Bool.not_eq_true'] at h1
  obtain ⟨o, ho, hm⟩ := h i hi
  exact ⟨h1.1, o, ho, .inr ⟨h1.2, hm⟩⟩
/-- The operation, walked from any world upon this one. -/
theorem midT_step {o : Oper} {a : Act} {w : World} {K : Act → World → Prop} (hw : Region.wanted o (yielded ops a.tmps) = true) (hab : ∀ w1 f, o.about P w1 a.eval = some f → F.fn f)
    (h : ∀ (δ : BExt w) (K' : Act → World → Prop), (∀ a w2, K a w2 → K' a w2) → doneO B F n P δ.wd (fun v w2 => K' (a.put o.dst v) w2) ((execOp a.eval o).run P δ.wd)) : midT B F n P ops o K a w :=
  ⟨hw, fun w1 x => ⟨hab w1, h ⟨w1, x.bel⟩ _ fun _ _ h => h⟩⟩
end
attribute [go_sem] doneO
end
section
/- QSet: The tree of orders, walked once for each set of done operations. No condition. -/
open Go.RowKit

section
variable {F : Fence} {n : Nat} {P : Program} {ops : Array Oper} {md : Region.Mode} {B : Nat}
/-- An invariant over the sets of done operations: lv f lists those sets that want f more steps. -/
theorem wpAnyT_set {isQ : Nat → Bool} {nn : Nat} {L : Array Bool → Act → World → Prop} (S : Array Bool → Act → World → Prop) (lv : Nat → List (Array Bool)) (hB : ∀ listed a w, S listed a w → B ≤ w.heap.size)
    (hstep : ∀ f, ∀ listed ∈ lv (f + 1), ∀ a w, S listed a w → Region.ready md ops listed ≠ [] ∧ ∀ i ∈ Region.ready md ops listed, i < nn ∧ isQ i = false ∧ listed.setIfInBounds i true ∈ lv f ∧ ∃ o, ops[i]? = some o ∧ midT B F n P ops o (S (listed.setIfInBounds i true)) a w)
    (hend : ∀ listed ∈ lv 0, ∀ a w, S listed a w → L listed a w) : ∀ (f : Nat) (listed : Array Bool) (a : Act) (w : World), listed ∈ lv f → S listed a w → wpAnyT B F n P md ops isQ nn L f listed a w
  | 0, listed, a, w, hm, hs => hend listed hm a w hs
  | f + 1, listed, a, w, hm, hs => by
    obtain ⟨h1, h2⟩ := hstep f listed hm a w hs
    refine ⟨h1, fun i hi => ?_⟩
    obtain ⟨h3, h4, h5, o, ho, hmid⟩ := h2 i hi
    exact ⟨h3, o, ho, .inr ⟨h4, midT_mono (hB _ _ _ hs) (fun a2 w2 _ hs2 => wpAnyT_set S lv hB hstep hend f _ a2 w2 h5 hs2) hmid⟩⟩
/-- The laws of the sequential walk of blocks (wpM_step, wpM_app, EK.appAll_M ..) serve one operation of the tree. -/
theorem midT_of_wpM {i : Nat} {o : Oper} {K : Act → World → Prop} {a : Act} {w : World} (h0 : ops[i]? = some o) (h : wpM B P ops K [i] a w) : midT B F n P ops o K a w := by
  obtain ⟨o', h1, h2⟩ := h
  rw [h0] at h1
  cases h1
  refine ⟨h2.1, fun w1 x => ?_⟩
  obtain ⟨hab, v, w2, hr, hb, hk⟩ := h2.2 w1 x
  refine And.intro (fun f hf => absurd hf (by rw [hab]; simp)) ?_
  rw [hr]
  exact ⟨hb, hk⟩
end
end
open Go.RowKit

/-- An operation of the net: its number, where its value goes, whose facts it needs, and which facts it ends. -/
structure Dag where
  i : Nat
  d : Option Tmp
  on : List Nat
  ends : List Nat
def putL (u : Nat → Value) : List Dag → Act → Act
  | [], a => a
  | r :: rs, a => putL u rs (a.put r.d (u r.i))
def updV (u : Nat → Value) (i : Nat) (v : Value) : Nat → Value := fun k => if k = i then v else u k
/-- The block that a value owns: a slice's, a pointer's, or that of the first of some results. -/
def blkOf : Value → Option Nat
  | .pointer (some p) => some p.block
  | .tuple vs => (vs.getD 0 undef).ownBlock
  | v => v.ownBlock
def inDag (ms : List Dag) (bs : List Nat) (j : Nat) : Prop := (∃ r ∈ ms, r.i = j) ∨ j ∈ bs
/-- What a step of the net leaves. -/
def StepOk (ow : Nat → Nat) (os : List Nat) (Φ : Nat → (Nat → Value) → World → Prop) (r : Dag) (u : Nat → Value) (w1 : World) (v : Value) (w2 : World) : Prop :=
  Φ r.i (updV u r.i v) w2 ∧ (r.i ∈ os → ∀ b, blkOf (updV u r.i v (ow r.i)) = some b → b < w2.heap.size ∧ (w1.heap.size ≤ b ∨ ∃ k ∈ r.ends, k ∈ os ∧ blkOf (u (ow k)) = some b)) ∧
    (Ext w1 w2 ∨ ∃ k ∈ r.ends, k ∈ os ∧ w1.grownBy w2 (blkOf (u (ow k))))
theorem updV_same (u : Nat → Value) (i : Nat) (v : Value) : updV u i v i = v := by simp [updV]
theorem updV_ne (u : Nat → Value) {i k : Nat} (v : Value) (h : k ≠ i) : updV u i v k = u k := by simp [updV, h]

section
variable {F : Fence} {n : Nat} {P : Program} {ops : Array Oper} {md : Region.Mode} {B : Nat}

/-- The same as doneO, but closed to the walk's unifier. -/
structure DoneS (B : Nat) (F : Fence) (n : Nat) (P : Program) (w1 : World) (K : Value → World → Prop) (r : Result Next) : Prop where
  out : doneO B F n P w1 K r
theorem doneS_iff {w1 : World} {K : Value → World → Prop} {r : Result Next} : DoneS B F n P w1 K r ↔ doneO B F n P w1 K r := ⟨fun h => h.out, fun h => ⟨h⟩⟩

def clearB (ops : Array Oper) (i : Nat) (d : Option Tmp) : Bool :=
  match ops[i]?, d with
  | some o, some d => !(o.looksAt ops).contains d
  | _, _ => true
def dagB (md : Region.Mode) (ops : Array Oper) (isQ : Nat → Bool) (nn f : Nat) (listed : Array Bool) (ms : List Dag) (bs : List Nat) : Bool :=
  decide (ms.length = f) && decide (listed.size = ops.size) && Region.noSelect ops &&
  ms.all (fun r => (ops[r.i]?).any (fun o => o.dst == r.d) && decide (r.i < nn) && !isQ r.i && !listed.getD r.i true &&
    (ops[r.i]?).any (fun o => o.after.all fun e => !Region.binds md e || listed.getD e.on false || (decide (e.on < r.i) && ms.any (fun s => s.i == e.on))) &&
    r.ends.all (fun j => r.on.contains j) &&
    r.on.all (fun j => (bs.contains j || (Region.waitsFor md ops r.i j && ms.any (fun s => s.i == j))) && ms.all (fun s => !s.ends.contains j || s.i == r.i || Region.waitsFor md ops s.i r.i)) &&
    !bs.contains r.i &&
    ms.all (fun s => (clearB ops r.i s.d || Region.waitsFor md ops r.i s.i) && (r.i == s.i || r.d.isNone || r.d != s.d))) &&
  (List.range nn).all (fun i => listed.getD i false || ms.any (fun r => r.i == i)) &&
  decide ((ms.map (·.i)).Nodup) &&
  (List.range ops.size).all (fun j => !listed.getD j false || (ops[j]?).all (fun o => o.after.all fun e => !Region.binds md e || listed.getD e.on false)) &&
  (List.range ops.size).all (fun t => decide (t < nn) || !listed.getD t true) &&
  (decide (nn = ops.size) || (decide (nn < ops.size) && Region.sinkB md ops nn && Region.chainB md ops nn))

theorem putL_filter {ms : List Dag} (hd : ∀ r ∈ ms, ∀ s ∈ ms, r.i ≠ s.i → ∀ d, r.d = some d → s.d ≠ some d) (hnd : (ms.map (·.i)).Nodup) (u : Nat → Value) {r : Dag} (hr : r ∈ ms) :
    ∀ a, putL u ms a = putL u (ms.filter (fun s => s.i != r.i)) (a.put r.d (u r.i)) := by
  induction ms with
  | nil => cases hr
  | cons x xs ih =>
    intro a
    simp only [List.map_cons, List.nodup_cons] at hnd
    have hx : ∀ s ∈ xs, s.i ≠ x.i := fun s hs he => hnd.1 (by rw [← he]; exact List.mem_map.2 ⟨s, hs, rfl⟩)
    by_cases he : x.i = r.i
    · have hxr : r = x := by
        rcases List.mem_cons.1 hr with h | h
        · exact h
        · exact absurd he.symm (hx r h)
      subst hxr
      rw [List.filter_cons_of_neg (by simp), List.filter_eq_self.2 (fun s hs => by simpa using hx s hs)]
      rfl
    · have hr' : r ∈ xs := by
        rcases List.mem_cons.1 hr with h | h
        · subst h; exact absurd rfl he
        · exact h
      rw [List.filter_cons_of_pos (by simpa using he)]
      show putL u xs (a.put x.d (u x.i)) = putL u (xs.filter _) ((a.put r.d (u r.i)).put x.d (u x.i))
      rw [ih (fun r hr s hs => hd r (by simp [hr]) s (by simp [hs])) hnd.2 hr' (a.put x.d (u x.i)), Act.put_comm a _ _ (hd x (by simp) r (by simp [hr']) he)]
theorem exec_putL (o : Oper) (hs : ∀ cs b, o.op ≠ .select cs b) (u : Nat → Value) : ∀ (l : List Dag) (a : Act), (∀ r ∈ l, ∀ d, r.d = some d → d ∉ o.looksAt ops) →
    execOp (putL u l a).eval o = execOp a.eval o ∧ Region.wanted o (yielded ops (putL u l a).tmps) = Region.wanted o (yielded ops a.tmps) ∧ ∀ w, o.about P w (putL u l a).eval = o.about P w a.eval
  | [], _, _ => ⟨rfl, rfl, fun _ => rfl⟩
  | r :: rs, a, h => by
    obtain ⟨h1, h2, h3⟩ := exec_putL o hs u rs (a.put r.d (u r.i)) fun s hs => h s (by simp [hs])
    have hr := h r (by simp)
    refine ⟨?_, ?_, fun w => ?_⟩
    · show execOp (putL u rs _).eval o = _
      rw [h1, execOp_put o hs a r.d _ hr]
    · show Region.wanted o (yielded ops (putL u rs _).tmps) = _
      rw [h2, wanted_put o a r.d _ hr]
    · show o.about P w (putL u rs _).eval = _
      rw [h3 w, about_put o w a r.d _ hr]
theorem putL_congr {u u' : Nat → Value} : ∀ (l : List Dag) (a : Act), (∀ r ∈ l, u' r.i = u r.i) → putL u' l a = putL u l a
  | [], _, _ => rfl
  | r :: rs, a, h => by
    show putL u' rs (a.put r.d (u' r.i)) = putL u rs (a.put r.d (u r.i))
    rw [h r (by simp), putL_congr rs _ fun s hs => h s (by simp [hs])]

structure DagOk (md : Region.Mode) (ops : Array Oper) (isQ : Nat → Bool) (nn f : Nat) (listed : Array Bool) (ms : List Dag) (bs : List Nat) : Prop where
  len : ms.length = f
  sel : Region.noSelect ops = true
  inv : HeadInv md ops nn listed
  row : ∀ r ∈ ms, ∃ o, ops[r.i]? = some o ∧ o.dst = r.d
  lt : ∀ r ∈ ms, r.i < nn
  nq : ∀ r ∈ ms, isQ r.i = false
  un : ∀ r ∈ ms, listed.getD r.i true = false
  back : ∀ r ∈ ms, ∀ o, ops[r.i]? = some o → ∀ e ∈ o.after, Region.binds md e = true → listed.getD e.on false = true ∨ (e.on < r.i ∧ ∃ s ∈ ms, s.i = e.on)
  ends : ∀ r ∈ ms, ∀ j ∈ r.ends, j ∈ r.on
  onn : ∀ r ∈ ms, ∀ j ∈ r.on, (j ∈ bs ∨ (Region.waitsFor md ops r.i j = true ∧ ∃ s ∈ ms, s.i = j)) ∧ ∀ s ∈ ms, j ∈ s.ends → s.i = r.i ∨ Region.waitsFor md ops s.i r.i = true
  nb : ∀ r ∈ ms, r.i ∉ bs
  clr : ∀ r ∈ ms, ∀ s ∈ ms, clearB ops r.i s.d = true ∨ Region.waitsFor md ops r.i s.i = true
  dis : ∀ r ∈ ms, ∀ s ∈ ms, r.i ≠ s.i → ∀ d, r.d = some d → s.d ≠ some d
  all : ∀ i, i < nn → listed.getD i false = true ∨ ∃ r ∈ ms, r.i = i
  nd : (ms.map (·.i)).Nodup
  tl : nn = ops.size ∨ (nn < ops.size ∧ Region.sinkB md ops nn = true ∧ Region.chainB md ops nn = true)
theorem dagB_ok {isQ : Nat → Bool} {nn f : Nat} {listed : Array Bool} {ms : List Dag} {bs : List Nat} (h : dagB md ops isQ nn f listed ms bs = true) : DagOk md ops isQ nn f listed ms bs := by
  unfold dagB at h
  simp only [Bool.and_eq_true, Bool.or_eq_true, decide_eq_true_eq] at h
  obtain ⟨⟨⟨⟨⟨⟨⟨⟨h1, h2⟩, h3⟩, h4⟩, h5⟩, h6⟩, h7⟩, h8⟩, h9⟩ := h
  have h4' := fun r hr => List.all_eq_true.1 h4 r hr
  simp only [Bool.and_eq_true, decide_eq_true_eq, Bool.not_eq_true'] at h4'
  refine ⟨h1, h3, ⟨h2, fun j oj hj hl e he hb => ?_, fun t ht hts => ?_⟩, fun r hr => ?_, fun r hr => (h4' r hr).1.1.1.1.1.1.1.2, fun r hr => (h4' r hr).1.1.1.1.1.1.2, fun r hr => (h4' r hr).1.1.1.1.1.2, fun r hr o ho e he hb => ?_, fun r hr j hj => by simpa using List.all_eq_true.1 (h4' r hr).1.1.1.2 j hj, fun r hr j hj => ?_, fun r hr hm => ?_, fun r hr s hs => ?_, fun r hr s hs hne d hd he => ?_, fun i hi => ?_, h6, ?_⟩
  · have hlt := (Array.getElem?_eq_some_iff.1 hj).1
    have := List.all_eq_true.1 h7 j (List.mem_range.2 hlt)
    simp only [hj, Bool.or_eq_true, Bool.not_eq_true', hl, Bool.true_eq_false, false_or, Option.all_some] at this
    have h10 := Array.all_eq_true'.1 this e he
    simpa [hb] using h10
  · have := List.all_eq_true.1 h8 t (List.mem_range.2 hts)
    simp only [Bool.or_eq_true, decide_eq_true_eq, Bool.not_eq_true'] at this
    rcases this with h | h
    · omega
    · exact h
  · have := (h4' r hr).1.1.1.1.1.1.1.1
    cases ho : ops[r.i]? with
    | none => simp [ho] at this
    | some o => exact ⟨o, rfl, by simpa [ho] using this⟩
  · have := (h4' r hr).1.1.1.1.2
    simp only [ho, Option.any_some] at this
    have h10 := Array.all_eq_true'.1 this e he
    simp only [hb, Bool.not_true, Bool.false_or, Bool.or_eq_true, Bool.and_eq_true, decide_eq_true_eq] at h10
    refine h10.imp id fun h => ⟨h.1, ?_⟩
    obtain ⟨s, hs, he⟩ := List.any_eq_true.1 h.2
    exact ⟨s, hs, by simpa using he⟩
  · have := List.all_eq_true.1 (h4' r hr).1.1.2 j hj
    simp only [Bool.and_eq_true, Bool.or_eq_true] at this
    refine ⟨this.1.imp (fun h => by simpa using h) (fun h => ⟨h.1, ?_⟩), fun s hs he => ?_⟩
    · obtain ⟨s, hs, he⟩ := List.any_eq_true.1 h.2
      exact ⟨s, hs, by simpa using he⟩
    have h10 := List.all_eq_true.1 this.2 s hs
    simp only [Bool.or_eq_true, Bool.not_eq_true', beq_iff_eq] at h10
    rcases h10 with (h | h) | h
    · exact absurd he (by simpa using h)
    · exact .inl h
    · exact .inr h
  · have := (h4' r hr).1.2
    rw [List.contains_iff_mem.2 hm] at this
    cases this
  · have := List.all_eq_true.1 (h4' r hr).2 s hs
    simp only [Bool.and_eq_true, Bool.or_eq_true] at this
    exact this.1
  · have := List.all_eq_true.1 (h4' r hr).2 s hs
    simp only [Bool.and_eq_true, Bool.or_eq_true, beq_iff_eq, bne_iff_ne] at this
    rcases this.2 with (h | h) | h
    · exact hne h
    · rw [hd] at h; cases h
    · exact h (by rw [hd, he])
  · have := List.all_eq_true.1 h5 i (List.mem_range.2 hi)
    simp only [Bool.or_eq_true] at this
    refine this.imp id fun h => ?_
    obtain ⟨s, hs, he⟩ := List.any_eq_true.1 h
    exact ⟨s, hs, by simpa using he⟩
  · exact h9.imp id fun h => ⟨h.1.1, h.1.2, h.2⟩

/-- Fact j holds: its operation is done (or it held ahead), and none that ends it. -/
def liveJ (ms : List Dag) (bs : List Nat) (listed : Array Bool) (j : Nat) : Prop := (j ∈ bs ∨ listed.getD j false = true) ∧ ∀ s ∈ ms, j ∈ s.ends → listed.getD s.i false = false
structure DagS (md : Region.Mode) (ops : Array Oper) (nn B : Nat) (ow : Nat → Nat) (ms : List Dag) (bs os : List Nat) (Φ : Nat → (Nat → Value) → World → Prop) (listed0 : Array Bool) (a0 : Act) (w0 : World) (u : Nat → Value) (listed : Array Bool) (a : Act) (w : World) : Prop where
  inv : HeadInv md ops nn listed
  same : ∀ j, (∀ r ∈ ms, r.i ≠ j) → listed.getD j false = listed0.getD j false
  bel : Below B w0 w
  act : ∀ u' : Nat → Value, (∀ r ∈ ms, listed.getD r.i false = true → u' r.i = u r.i) → putL u' (ms.filter fun r => !listed.getD r.i false) a = putL u' ms a0
  fct : ∀ j, inDag ms bs j → liveJ ms bs listed j → Φ j u w
  own : ∀ j, inDag ms bs j → j ∈ os → liveJ ms bs listed j → ∀ b, blkOf (u (ow j)) = some b → B ≤ b ∧ b < w.heap.size ∧ ∀ k, inDag ms bs k → k ∈ os → liveJ ms bs listed k → k ≠ j → blkOf (u (ow k)) ≠ some b

theorem both_of {listed : Array Bool} {m i : Nat} (hs : listed.size = m) (hi : i < m) (d : Bool) : listed.getD i d = listed.getD i false := by
  have : i < listed.size := by omega
  simp [this]

theorem wpAnyT_dag {isQ : Nat → Bool} {nn f : Nat} {L : Array Bool → Act → World → Prop} {listed0 : Array Bool} {a0 : Act} {w0 : World} (ow : Nat → Nat) (ms : List Dag) (bs os : List Nat) (Φ : Nat → (Nat → Value) → World → Prop) (u0 : Nat → Value) (hBw : B ≤ w0.heap.size)
    (hchk : dagB md ops isQ nn f listed0 ms bs = true) (how : (ms.all (fun r => ow r.i == r.i || r.on.contains (ow r.i)) && bs.all (fun j => ow j == j)) = true)
    (hloc : ∀ j, inDag ms bs j → ∀ u u' w, u' j = u j → (∀ r ∈ ms, r.i = j → ∀ k ∈ r.on, u' k = u k) → Φ j u w → Φ j u' w)
    (hext : ∀ j, inDag ms bs j → ∀ u w w', Φ j u w → Ext w w' → Φ j u w')
    (hkeep : os = [] ∨ ∀ j, inDag ms bs j → (ms.any fun r => r.i != j && !r.ends.contains j && r.ends.any fun k => os.contains k) = true → ∀ u w w' row, Φ j u w → w.grownBy w' row → (∀ b, row = some b → B ≤ b ∧ (j ∈ os → blkOf (u (ow j)) ≠ some b)) → Φ j u w')
    (hbs : ∀ j ∈ bs, Φ j u0 w0 ∧ (j ∈ os → ∀ b, blkOf (u0 (ow j)) = some b → B ≤ b ∧ b < w0.heap.size ∧ ∀ k ∈ bs, k ∈ os → k ≠ j → blkOf (u0 (ow k)) ≠ some b))
    (hstep : ∀ r ∈ ms, ∀ (u : Nat → Value) (w1 : World), Below B w0 w1 → (∀ j ∈ r.on, Φ j u w1) → ∃ o, ops[r.i]? = some o ∧ Region.wanted o (yielded ops (putL u ms a0).tmps) = true ∧ (∀ f, o.about P w1 (putL u ms a0).eval = some f → F.fn f) ∧
      DoneS B F n P w1 (StepOk ow os Φ r u w1) ((execOp (putL u ms a0).eval o).run P w1))
    (hend : ∀ (u : Nat → Value) (w : World), Below B w0 w → (∀ j, inDag ms bs j → (∀ s ∈ ms, j ∉ s.ends) → Φ j u w) → L (setAll (ms.map (·.i)) listed0) (putL u ms a0) w) :
    wpAnyT B F n P md ops isQ nn L f listed0 a0 w0 := by
  have C := dagB_ok hchk
  have key : ∀ (g : Nat) (u : Nat → Value) (listed : Array Bool) (a : Act) (w : World), (ms.filter fun r => !listed.getD r.i false).length = g → DagS md ops nn B ow ms bs os Φ listed0 a0 w0 u listed a w → wpAnyT B F n P md ops isQ nn L g listed a w := by
    intro g
    induction g with
    | zero =>
      intro u listed a w hg S
      have hnil : (ms.filter fun r => !listed.getD r.i false) = [] := List.length_eq_zero_iff.1 hg
      have hall : ∀ r ∈ ms, listed.getD r.i false = true := fun r hr => by
        have := List.filter_eq_nil_iff.1 hnil r hr
        simpa using this
      have ha : a = putL u ms a0 := by
        have := S.act u fun _ _ _ => rfl
        rwa [hnil] at this
      have hset : ∀ (l : List Nat) (x : Array Bool), (setAll l x).size = x.size ∧ ∀ j, (setAll l x).getD j false = ((decide (j < x.size) && l.contains j) || x.getD j false) := by
        intro l
        induction l with
        | nil => intro x; exact ⟨rfl, fun j => by simp [setAll]⟩
        | cons i is ih =>
          intro x
          obtain ⟨h1, h2⟩ := ih (x.setIfInBounds i true)
          refine ⟨by rw [setAll, h1]; simp, fun j => ?_⟩
          rw [setAll, h2]
          by_cases hij : i = j
          · subst hij
            rcases Nat.lt_or_ge i x.size with hl | hl
            · simp [hl]
            · simp [Nat.not_lt.2 hl]
          · rw [getD_set_ne false hij]
            simp only [Array.size_setIfInBounds, List.contains_cons]
            have : (j == i) = false := by simpa using Ne.symm hij
            rw [this, Bool.false_or]
      have hl : listed = setAll (ms.map (·.i)) listed0 := by
        obtain ⟨s1, s2⟩ := hset (ms.map (·.i)) listed0
        have e1 : listed.size = (setAll (ms.map (·.i)) listed0).size := by rw [s1, S.inv.size, C.inv.size]
        refine Array.ext e1 fun j hj1 hj2 => ?_
        have h3 := s2 j
        have g1 : listed.getD j false = listed[j] := by simp [hj1]
        have g2 : (setAll (ms.map (·.i)) listed0).getD j false = (setAll (ms.map (·.i)) listed0)[j] := by simp [hj2]
        rw [← g1, ← g2, h3]
        by_cases hm : ∃ r ∈ ms, r.i = j
        · obtain ⟨r, hr, rfl⟩ := hm
          rw [hall r hr]
          have c2 : r.i < listed0.size := by rw [C.inv.size, ← S.inv.size]; exact hj1
          simp [c2]
          exact .inl ⟨_, hr, rfl⟩
        · rw [S.same j fun r hr he => hm ⟨r, hr, he⟩]
          have c1 : (ms.map (·.i)).contains j = false := by
            rw [← Bool.not_eq_true]
            intro h
            obtain ⟨r, hr, he⟩ := List.mem_map.1 (List.contains_iff_mem.1 h)
            exact hm ⟨r, hr, he⟩
          rw [c1, Bool.and_false, Bool.false_or]
      show L listed a w
      rw [hl, ha]
      refine hend u w S.bel fun j hj hne => S.fct j hj ⟨?_, fun s hs he => absurd he (hne s hs)⟩
      rcases hj with ⟨r, hr, rfl⟩ | hb
      · exact .inr (hall r hr)
      · exact .inl hb
    | succ g ih =>
      intro u listed a w hg S
      have hsz := S.inv.size
      -- the least unlisted one is ready
      have hex : ∃ r ∈ ms, listed.getD r.i false = false := by
        cases hf : (ms.filter fun r => !listed.getD r.i false) with
        | nil => rw [hf] at hg; cases hg
        | cons x xs =>
          have : x ∈ (ms.filter fun r => !listed.getD r.i false) := by rw [hf]; simp
          obtain ⟨h1, h2⟩ := List.mem_filter.1 this
          exact ⟨x, h1, by simpa using h2⟩
      have hltops : ∀ r ∈ ms, r.i < ops.size := fun r hr => by
        obtain ⟨o, ho, _⟩ := C.row r hr
        exact (Array.getElem?_eq_some_iff.1 ho).1
      have hmono : ∀ j, listed0.getD j false = true → listed.getD j false = true := fun j hj => by
        by_cases hm : ∃ r ∈ ms, r.i = j
        · obtain ⟨r, hr, rfl⟩ := hm
          have := getD_both (C.un r hr)
          rw [this] at hj
          cases hj
        · rw [S.same j fun r hr he => hm ⟨r, hr, he⟩]; exact hj
      have hready : ∃ r ∈ ms, r.i ∈ Region.ready md ops listed := by
        obtain ⟨r, hr, hu⟩ := hex
        have : ∀ m, ∀ r ∈ ms, r.i = m → listed.getD r.i false = false → ∃ r ∈ ms, r.i ∈ Region.ready md ops listed := by
          intro m
          induction m using Nat.strongRecOn with
          | _ m ih2 =>
            intro r hr hm hu
            by_cases hb : ∃ s ∈ ms, s.i < r.i ∧ listed.getD s.i false = false
            · obtain ⟨s, hs, hl, hu2⟩ := hb
              exact ih2 s.i (by omega) s hs rfl hu2
            · obtain ⟨o, ho, _⟩ := C.row r hr
              refine ⟨r, hr, mem_ready.2 ⟨by rw [both_of hsz (hltops r hr)]; exact hu, o, ho, fun e he hbd => ?_⟩⟩
              rcases C.back r hr o ho e he hbd with h | ⟨h, s, hs, hse⟩
              · exact hmono _ h
              · cases hh : listed.getD e.on false with
                | true => rfl
                | false => exact absurd ⟨s, hs, by omega, by rw [hse]; exact hh⟩ hb
        exact this _ r hr rfl hu
      refine ⟨fun h => ?_, fun i hi => ?_⟩
      · obtain ⟨r, _, hr⟩ := hready
        rw [h] at hr
        cases hr
      obtain ⟨hun, o, ho, hall⟩ := mem_ready.1 hi
      have hiops := (Array.getElem?_eq_some_iff.1 ho).1
      have hinn : i < nn := by
        rcases C.tl with h | ⟨h1, h2, h3⟩
        · omega
        · obtain ⟨r, hr, hu⟩ := hex
          rcases Nat.lt_or_ge i nn with h | h
          · exact h
          · exact absurd hi (tail_waits h2 h3 h1 S.inv _ r.i rfl (C.lt r hr) (by rw [both_of hsz (hltops r hr)]; exact hu) i h)
      obtain ⟨r, hr, rfl⟩ : ∃ r ∈ ms, r.i = i := by
        rcases C.all i hinn with h | h
        · have := hmono i h
          rw [getD_both hun] at this
          cases this
        · exact h
      refine ⟨hinn, o, ho, .inr ⟨C.nq r hr, ?_⟩⟩
      have hod : o.dst = r.d := by
        obtain ⟨o', ho', h⟩ := C.row r hr
        rw [ho] at ho'
        cases ho'
        exact h
      have hwait : ∀ j, Region.waitsFor md ops r.i j = true → listed.getD j false = true := fun j hj => by
        obtain ⟨o', ho', e, he, hb, hon⟩ := Region.waitsFor_spec hj
        rw [ho] at ho'
        cases ho'
        rw [← hon]
        exact hall e he hb
      have hwaits : ∀ k j, Region.waitsFor md ops k j = true → listed.getD k false = true → listed.getD j false = true := fun k j hj hk => by
        obtain ⟨o', ho', e, he, hb, hon⟩ := Region.waitsFor_spec hj
        rw [← hon]
        exact S.inv.closed k o' ho' hk e he hb
      have hunf := getD_both hun
      -- the frame, as the operation sees it
      have hsel := fun cs b => Region.noSelect_spec C.sel r.i o cs b ho
      have hfr : ∀ s ∈ (ms.filter fun r => !listed.getD r.i false), ∀ d, s.d = some d → d ∉ o.looksAt ops := fun s hs d hd => by
        obtain ⟨hs1, hs2⟩ := List.mem_filter.1 hs
        simp only [Bool.not_eq_true'] at hs2
        rcases C.clr r hr s hs1 with h | h
        · unfold clearB at h
          rw [ho, hd] at h
          simpa using h
        · rw [hwait _ h] at hs2
          cases hs2
      have hE := exec_putL (P := P) o hsel u _ a hfr
      rw [S.act u fun _ _ _ => rfl] at hE
      obtain ⟨e1, e2, e3⟩ := hE
      have hdep : ∀ j ∈ r.on, inDag ms bs j ∧ liveJ ms bs listed j := by
        intro j hj
        obtain ⟨h1, h2⟩ := C.onn r hr j hj
        refine ⟨h1.symm.imp (fun h => h.2) id, h1.imp id (fun h => hwait _ h.1), fun s hs he => ?_⟩
        rcases h2 s hs he with h | h
        · rw [h]; exact hunf
        · cases hl : listed.getD s.i false with
          | false => rfl
          | true =>
            rw [hwaits _ _ h hl] at hunf
            cases hunf
      have inv' := S.inv.set hi hinn
      have hlen : (ms.filter fun s => !(listed.setIfInBounds r.i true).getD s.i false) = (ms.filter fun s => !listed.getD s.i false).filter (fun s => s.i != r.i) := by
        rw [List.filter_filter]
        refine List.filter_congr fun s hs => ?_
        by_cases hsi : r.i = s.i
        · rw [← hsi]
          have : r.i < listed.size := by omega
          simp [this]
        · rw [getD_set_ne false hsi]
          have : (s.i != r.i) = true := by simpa using Ne.symm hsi
          rw [this, Bool.true_and]
      have hrf : r ∈ (ms.filter fun s => !listed.getD s.i false) := List.mem_filter.2 ⟨hr, by simpa using hunf⟩
      have hndf : ((ms.filter fun s => !listed.getD s.i false).map (·.i)).Nodup := List.Nodup.sublist (List.Sublist.map _ List.filter_sublist) C.nd
      have hput := fun u => putL_filter (ms := ms.filter fun s => !listed.getD s.i false) (fun x hx y hy => C.dis x (List.mem_filter.1 hx).1 y (List.mem_filter.1 hy).1) hndf u hrf
      have hcnt : (ms.filter fun s => !(listed.setIfInBounds r.i true).getD s.i false).length = g := by
        rw [hlen]
        have h1 : ∀ (l : List Dag), (l.map (·.i)).Nodup → r ∈ l → (l.filter (fun s => s.i != r.i)).length + 1 = l.length := by
          intro l
          induction l with
          | nil => intro _ h; cases h
          | cons x xs ih3 =>
            intro hnd hm
            simp only [List.map_cons, List.nodup_cons] at hnd
            by_cases he : x.i = r.i
            · rw [List.filter_cons_of_neg (by simpa using he), List.filter_eq_self.2 (fun s hs => ?_)]
              · rfl
              · have : s.i ≠ r.i := fun h => hnd.1 (by rw [he, ← h]; exact List.mem_map.2 ⟨s, hs, rfl⟩)
                simpa using this
            · have hm' : r ∈ xs := by
                rcases List.mem_cons.1 hm with h | h
                · subst h; exact absurd rfl he
                · exact h
              rw [List.filter_cons_of_pos (by simpa using he), List.length_cons, List.length_cons, ih3 hnd.2 hm']
        have := h1 _ hndf hrf
        omega
      refine ⟨?_, fun w1 hx => ?_⟩
      · obtain ⟨o', ho', hw, _⟩ := hstep r hr u w S.bel fun j hj => S.fct j (hdep j hj).1 (hdep j hj).2
        rw [ho] at ho'
        cases ho'
        rw [← e2]
        exact hw
      have hbw : B ≤ w.heap.size := Nat.le_trans hBw S.bel.size
      have hb1 : Below B w0 w1 := S.bel.trans (hx.belB hbw)
      obtain ⟨o', ho', hw, hab, hd⟩ := hstep r hr u w1 hb1 fun j hj => hext j (hdep j hj).1 _ _ _ (S.fct j (hdep j hj).1 (hdep j hj).2) hx
      rw [ho] at ho'
      cases ho'
      refine ⟨fun f hf => hab f (by rw [e3]; exact hf), ?_⟩
      rw [e1] at hd
      refine doneO_mono (fun v w2 h12 hP => ?_) hd.out
      obtain ⟨hΦ, hown, hstp⟩ := hP
      -- what is live behind the step, was live ahead of it
      have hlv : ∀ j, j ≠ r.i → liveJ ms bs (listed.setIfInBounds r.i true) j → liveJ ms bs listed j ∧ j ∉ r.ends := fun j hji hlive => by
        refine ⟨⟨hlive.1.imp id fun h => by rwa [getD_set_ne false (Ne.symm hji)] at h, fun s hs he => ?_⟩, fun he => ?_⟩
        · have := hlive.2 s hs he
          cases hl : listed.getD s.i false with
          | false => rfl
          | true => rw [getD_set_true hl] at this; cases this
        · have := hlive.2 r hr he
          have hlt : r.i < listed.size := by omega
          simp [hlt] at this
      have hs12 := h12.size
      have hs01 := hx.bel.size
      have hup2 : ∀ j, inDag ms bs j → liveJ ms bs listed j → updV u r.i v (ow j) = u (ow j) := fun j hj hl => by
        simp only [Bool.and_eq_true, List.all_eq_true, Bool.or_eq_true, beq_iff_eq] at how
        refine updV_ne _ _ fun hki => ?_
        have hjr : j ≠ r.i := fun e => by
          rcases hl.1 with h | h
          · exact C.nb r hr (e ▸ h)
          · rw [e, hunf] at h; cases h
        rcases hj with ⟨s, hs, rfl⟩ | hb
        · rcases how.1 s hs with e | e
          · exact hjr (by rw [← e, hki])
          · rw [hki] at e
            obtain ⟨h1, _⟩ := C.onn s hs r.i (List.contains_iff_mem.1 e)
            rcases h1 with h1 | ⟨h1, _⟩
            · exact C.nb r hr h1
            · rcases hl.1 with hd | hd
              · exact C.nb s hs hd
              · have := hwaits _ _ h1 hd
                rw [hunf] at this
                cases this
        · exact hjr (by rw [← how.2 j hb, hki])
      have hendl : ∀ k ∈ r.ends, inDag ms bs k ∧ liveJ ms bs listed k := fun k hk => hdep k (C.ends r hr k hk)
      refine ih (updV u r.i v) _ _ _ hcnt ⟨inv', fun j hj => ?_, hb1.trans h12, fun u' hu' => ?_, fun j hj hlive => ?_, fun j hj hjo hlive b hb => ?_⟩
      · rw [getD_set_ne false (hj r hr)]; exact S.same j hj
      · have hv : u' r.i = v := by
          have := hu' r hr (by have : r.i < listed.size := by omega
                               simp [this])
          rw [this, updV_same]
        rw [hlen, hod, ← hv, ← hput u']
        refine S.act u' fun s hs hl => ?_
        have hne : s.i ≠ r.i := fun h => by rw [h, hunf] at hl; cases hl
        rw [hu' s hs (getD_set_true hl), updV_ne _ _ hne]
      · by_cases hji : j = r.i
        · subst hji; exact hΦ
        obtain ⟨hlive', hnot⟩ := hlv j hji hlive
        have hΦ1 : Φ j u w1 := hext j hj _ _ _ (S.fct j hj hlive') hx
        have hΦ2 : Φ j u w2 := by
          rcases hstp with h | ⟨k, hk, hko, h⟩
          · exact hext j hj _ _ _ hΦ1 h
          · rcases hkeep with h0 | hkeep
            · rw [h0] at hko; cases hko
            · refine hkeep j hj (List.any_eq_true.2 ⟨r, hr, ?_⟩) _ _ _ _ hΦ1 h fun b hb => ?_
              · simp only [Bool.and_eq_true, bne_iff_ne, Bool.not_eq_true', List.any_eq_true]
                refine ⟨⟨Ne.symm hji, ?_⟩, k, hk, List.contains_iff_mem.2 hko⟩
                rw [← Bool.not_eq_true]
                exact fun hc => hnot (List.contains_iff_mem.1 hc)
              obtain ⟨h1, h2⟩ := hendl k hk
              obtain ⟨h3, h4, h5⟩ := S.own k h1 hko h2 b hb
              exact ⟨h3, fun hjo => h5 j hj hjo hlive' fun e => hnot (e ▸ hk)⟩
        refine hloc j hj u _ w2 (updV_ne _ _ hji) (fun s hs hsj k hk => ?_) hΦ2
        refine updV_ne _ _ fun hki => ?_
        obtain ⟨h1, _⟩ := C.onn s hs k hk
        rcases h1 with h1 | ⟨h1, _⟩
        · exact C.nb r hr (by rw [← hki]; exact h1)
        · rcases hlive'.1 with hd | hd
          · exact C.nb s hs (by rw [hsj]; exact hd)
          · rw [← hsj] at hd
            have := hwaits _ _ h1 hd
            rw [hki, hunf] at this
            cases this
      · by_cases hji : j = r.i
        · subst hji
          obtain ⟨h1, h2⟩ := hown hjo b hb
          rcases h2 with h2 | ⟨k0, hk0, hk0o, hk0b⟩
          · refine ⟨by omega, h1, fun k hk hko hkl hkj hkb => ?_⟩
            rw [hup2 k hk (hlv k hkj hkl).1] at hkb
            have := (S.own k hk hko (hlv k hkj hkl).1 b hkb).2.1
            omega
          · obtain ⟨g1, g2⟩ := hendl k0 hk0
            obtain ⟨g3, g4, g5⟩ := S.own k0 g1 hk0o g2 b hk0b
            refine ⟨g3, h1, fun k hk hko hkl hkj => ?_⟩
            rw [hup2 k hk (hlv k hkj hkl).1]
            obtain ⟨q1, q2⟩ := hlv k hkj hkl
            exact g5 k hk hko q1 fun e => q2 (e ▸ hk0)
        · obtain ⟨hlive', hnot⟩ := hlv j hji hlive
          rw [hup2 j hj hlive'] at hb
          obtain ⟨g3, g4, g5⟩ := S.own j hj hjo hlive' b hb
          refine ⟨g3, by omega, fun k hk hko hkl hkj hkb => ?_⟩
          by_cases hki : k = r.i
          · subst hki
            obtain ⟨_, h2⟩ := hown hko b hkb
            rcases h2 with h2 | ⟨k0, hk0, hk0o, hk0b⟩
            · omega
            · obtain ⟨q1, q2⟩ := hendl k0 hk0
              exact g5 k0 q1 hk0o q2 (fun e => hnot (e ▸ hk0)) hk0b
          · rw [hup2 k hk (hlv k hki hkl).1] at hkb
            exact g5 k hk hko (hlv k hki hkl).1 hkj hkb
  have h0 : (ms.filter fun r => !listed0.getD r.i false) = ms := List.filter_eq_self.2 fun r hr => by
    have := getD_both (C.un r hr)
    simpa using this
  have hb0 : ∀ j, inDag ms bs j → liveJ ms bs listed0 j → j ∈ bs := fun j hj hlive => by
    rcases hj with ⟨r, hr, rfl⟩ | hb
    · rcases hlive.1 with h | h
      · exact h
      · rw [getD_both (C.un r hr)] at h
        cases h
    · exact hb
  exact key f u0 listed0 a0 w0 (by rw [h0, C.len]) ⟨C.inv, fun _ _ => rfl, Below.refl _ _, fun u' _ => by rw [h0], fun j hj hlive => (hbs j (hb0 j hj hlive)).1, fun j hj hjo hlive b hb => by
    obtain ⟨h1, h2, h3⟩ := (hbs j (hb0 j hj hlive)).2 hjo b hb
    exact ⟨h1, h2, fun k hk hko hkl hkj => h3 k (hb0 k hk hkl) hko hkj⟩⟩
theorem inDag_iff {ms : List Dag} {bs : List Nat} {j : Nat} : inDag ms bs j ↔ j ∈ ms.map (·.i) ++ bs := by
  unfold inDag
  rw [List.mem_append, List.mem_map]
/-- The same, with the facts by the list of their numbers. -/
theorem wpAnyT_netO {isQ : Nat → Bool} {nn f : Nat} {L : Array Bool → Act → World → Prop} {listed0 : Array Bool} {a0 : Act} {w0 : World} (ow : Nat → Nat) (ms : List Dag) (bs os : List Nat) (Φ : Nat → (Nat → Value) → World → Prop) (u0 : Nat → Value) (hBw : B ≤ w0.heap.size)
    (hchk : dagB md ops isQ nn f listed0 ms bs = true) (how : (ms.all (fun r => ow r.i == r.i || r.on.contains (ow r.i)) && bs.all (fun j => ow j == j)) = true)
    (hloc : ∀ j ∈ ms.map (·.i) ++ bs, ∀ u u' w, u' j = u j → (∀ r ∈ ms, r.i = j → ∀ k ∈ r.on, u' k = u k) → Φ j u w → Φ j u' w)
    (hext : ∀ j ∈ ms.map (·.i) ++ bs, ∀ u w w', Φ j u w → Ext w w' → Φ j u w')
    (hkeep : os = [] ∨ ∀ j ∈ ms.map (·.i) ++ bs, (ms.any fun r => r.i != j && !r.ends.contains j && r.ends.any fun k => os.contains k) = true → ∀ u w w' row, Φ j u w → w.grownBy w' row → (∀ b, row = some b → B ≤ b ∧ (j ∈ os → blkOf (u (ow j)) ≠ some b)) → Φ j u w')
    (hbs : ∀ j ∈ bs, Φ j u0 w0 ∧ (j ∈ os → ∀ b, blkOf (u0 (ow j)) = some b → B ≤ b ∧ b < w0.heap.size ∧ ∀ k ∈ bs, k ∈ os → k ≠ j → blkOf (u0 (ow k)) ≠ some b))
    (hstep : ∀ r ∈ ms, ∀ (u : Nat → Value) (w1 : World), Below B w0 w1 → (∀ j ∈ r.on, Φ j u w1) → ∃ o, ops[r.i]? = some o ∧ Region.wanted o (yielded ops (putL u ms a0).tmps) = true ∧ (∀ f, o.about P w1 (putL u ms a0).eval = some f → F.fn f) ∧
      DoneS B F n P w1 (StepOk ow os Φ r u w1) ((execOp (putL u ms a0).eval o).run P w1))
    (hend : ∀ (u : Nat → Value) (w : World), Below B w0 w → (∀ j ∈ ms.map (·.i) ++ bs, (ms.all fun s => !s.ends.contains j) = true → Φ j u w) → L (setAll (ms.map (·.i)) listed0) (putL u ms a0) w) :
    wpAnyT B F n P md ops isQ nn L f listed0 a0 w0 :=
  wpAnyT_dag ow ms bs os Φ u0 hBw hchk how (fun j hj => hloc j (inDag_iff.1 hj)) (fun j hj => hext j (inDag_iff.1 hj)) (hkeep.imp id fun h j hj => h j (inDag_iff.1 hj)) hbs hstep fun u w hb hf => hend u w hb fun j hj hne => hf j (inDag_iff.2 hj) fun s hs hm => by
    have := List.all_eq_true.1 hne s hs
    simp only [Bool.not_eq_true'] at this
    rw [List.contains_iff_mem.2 hm] at this
    cases this
/-- The same, with the facts by the list of their numbers. -/
theorem wpAnyT_net {isQ : Nat → Bool} {nn f : Nat} {L : Array Bool → Act → World → Prop} {listed0 : Array Bool} {a0 : Act} {w0 : World} (ms : List Dag) (bs os : List Nat) (Φ : Nat → (Nat → Value) → World → Prop) (u0 : Nat → Value) (hBw : B ≤ w0.heap.size)
    (hchk : dagB md ops isQ nn f listed0 ms bs = true)
    (hloc : ∀ j ∈ ms.map (·.i) ++ bs, ∀ u u' w, u' j = u j → (∀ r ∈ ms, r.i = j → ∀ k ∈ r.on, u' k = u k) → Φ j u w → Φ j u' w)
    (hext : ∀ j ∈ ms.map (·.i) ++ bs, ∀ u w w', Φ j u w → Ext w w' → Φ j u w')
    (hkeep : os = [] ∨ ∀ j ∈ ms.map (·.i) ++ bs, (ms.any fun r => r.i != j && !r.ends.contains j && r.ends.any fun k => os.contains k) = true → ∀ u w w' row, Φ j u w → w.grownBy w' row → (∀ b, row = some b → B ≤ b ∧ (j ∈ os → blkOf (u j) ≠ some b)) → Φ j u w')
    (hbs : ∀ j ∈ bs, Φ j u0 w0 ∧ (j ∈ os → ∀ b, blkOf (u0 j) = some b → B ≤ b ∧ b < w0.heap.size ∧ ∀ k ∈ bs, k ∈ os → k ≠ j → blkOf (u0 k) ≠ some b))
    (hstep : ∀ r ∈ ms, ∀ (u : Nat → Value) (w1 : World), Below B w0 w1 → (∀ j ∈ r.on, Φ j u w1) → ∃ o, ops[r.i]? = some o ∧ Region.wanted o (yielded ops (putL u ms a0).tmps) = true ∧ (∀ f, o.about P w1 (putL u ms a0).eval = some f → F.fn f) ∧
      DoneS B F n P w1 (StepOk (fun j => j) os Φ r u w1) ((execOp (putL u ms a0).eval o).run P w1))
    (hend : ∀ (u : Nat → Value) (w : World), Below B w0 w → (∀ j ∈ ms.map (·.i) ++ bs, (ms.all fun s => !s.ends.contains j) = true → Φ j u w) → L (setAll (ms.map (·.i)) listed0) (putL u ms a0) w) :
    wpAnyT B F n P md ops isQ nn L f listed0 a0 w0 :=
  wpAnyT_netO (fun j => j) ms bs os Φ u0 hBw hchk (by simp) hloc hext hkeep hbs hstep hend
end
attribute [go_sem] doneS_iff
end Go.Proofs.YtkjgcmdabelohaaGreat

namespace Go.Proofs.YtkjgcmdabelohaaGreat
section
/- GAppD: A whole slice is appended, as an operation of a net. No condition. -/
section
/- GAppA: A whole slice is appended. No condition. -/
open Go.RowKit

section
variable {α : Type} {K : EK α} {F : Fence} {n : Nat}

theorem EK.Is.flat {w : World} {ad : Addr} {m c : Nat} {xs : List α} (h : K.Is w (.slice (some ad) m c) xs) : ∀ j u, (xs.flatMap K.enc)[j]? = some u → w.cell? (ad.add j) = some u := by
  intro j u hj
  obtain ⟨A, c', he, _, _, hr⟩ := h
  simp only [Value.slice.injEq] at he
  obtain ⟨rfl, rfl, rfl⟩ := he
  have hp := K.pos
  have hlt : j < xs.length * K.k := by
    rw [← flat_len K xs]
    exact (List.getElem?_eq_some_iff.1 hj).1
  have hq : j / K.k < xs.length := Nat.div_lt_of_lt_mul (by rw [Nat.mul_comm]; exact hlt)
  have hi : j % K.k < K.k := Nat.mod_lt _ hp
  have hj' : j / K.k * K.k + j % K.k = j := by rw [Nat.mul_comm]; exact Nat.div_add_mod j K.k
  obtain ⟨b, o, hA, _, hc⟩ := hr (j / K.k) hq
  simp only [Option.some.injEq] at hA
  subst hA
  rw [← hj', flat_at K xs _ hq _ hi] at hj
  have := hc _ _ hj
  rw [Nat.add_assoc, hj'] at this
  simp only [Addr.add]
  split
  · rename_i h0
    subst h0
    exact this
  · exact this

theorem EK.appAll {w : World} {ops : Array Oper} {rest : List Oper} {o : Oper} {a : Act} {Q : Exit → Act → World → Prop} (hgd : o.guard = none) (s x : Operand)
    (ho : o.op = .call { callee := .builtin .append, args := #[s, x], argTypes := #[K.st, K.st] })
    {B : Nat} {v : Value} {xs ys : List α} {A : Option Addr} {m c : Nat} (hs : a.eval s = v) (hx : a.eval x = .slice A m c)
    (hu : K.Is w (.slice A m c) ys) (hown : K.Own B w v xs) (hB : B ≤ w.heap.size) (hlen : xs.length + ys.length ≤ 1000000000)
    (h : ∀ v' w', K.Own B w' v' (xs ++ ys) → Below B w w' → w.grownBy w' v.ownBlock → wpList Tryz.prog ops Q rest (a.put o.dst v') w') : wpList Tryz.prog ops Q (o :: rest) a w := by
  obtain ⟨i0, hi, hz0, hz1, hz2⟩ := info_parts K.info
  have hsm := K.small
  have hm : m = ys.length := by
    obtain ⟨_, _, he, _⟩ := hu
    simp only [Value.slice.injEq] at he
    exact he.2.1
  match A with
  | none =>
    obtain ⟨A', c', he, h0, _, hr⟩ := hu
    simp only [Value.slice.injEq] at he
    obtain ⟨rfl, -, rfl⟩ := he
    have hy : ys = [] := by
      rcases ys with _ | ⟨y, ys⟩
      · rfl
      · obtain ⟨_, _, he, _⟩ := hr 0 (by simp)
        cases he
    subst hy
    obtain rfl := h0 rfl
    subst hm
    refine wpList_append_own_none hgd s x K.st ho B K.ty i0 K.k K.und hi v _ _ hs hown hx (h v w (by simpa using hown) (Below.refl B w) ⟨rfl, rfl, rfl, Nat.le_refl _, fun _ _ _ => rfl⟩)
  | some ad =>
    have hf := hu.flat
    refine wpList_append_own w hgd s x K.st ho B K.ty i0 K.z K.k K.bytes K.und hi hz0 hz1 hz2 K.hzs K.pos v _ _ hs hown ad m c (ys.flatMap K.enc) hx (by rw [flat_len, hm]) hf (fun u hu => ?_) (by simp only [maxLen]; omega) ?_ hB (fun v' w' h1 h2 _ => h v' w' (by simpa [EK.Own, hm] using h1) ?_ h2)
    · obtain ⟨y, _, hy⟩ := List.mem_flatMap.1 hu
      exact K.one y u hy
    · exact Nat.le_trans (Nat.mul_le_mul (show xs.length + m ≤ 1000000000 by omega) hsm) (by decide)
    · exact (Below.refl B w).grown h2 hB fun k hk => (World.ownsRow.lt hown k hk).1

/-- The same in a region that draws its order. -/
theorem EK.appAll_mid {w : World} {ops : Array Oper} {Q : Act → World → Prop} {i : Nat} {is : List Nat} {o : Oper} {a : Act} (h0 : ops[i]? = some o) (hgd : o.guard = none) (s x : Operand)
    (ho : o.op = .call { callee := .builtin .append, args := #[s, x], argTypes := #[K.st, K.st] })
    {B : Nat} {v : Value} {xs ys : List α} {A : Option Addr} {m c : Nat} (hs : a.eval s = v) (hx : a.eval x = .slice A m c)
    (hu : K.Is w (.slice A m c) ys) (hown : K.Own B w v xs) (hB : B ≤ w.heap.size) (hlen : xs.length + ys.length ≤ 1000000000)
    (h : ∀ v' w1 w2, K.Own B w2 v' (xs ++ ys) → Ext w w1 → w1.grownBy w2 v.ownBlock → wpMD v.ownBlock.toList F n Tryz.prog ops Q is (a.put o.dst v') w2) : wpMD v.ownBlock.toList F n Tryz.prog ops Q (i :: is) a w := by
  refine wpMD_run h0 hgd (fun _ => by simp [Oper.about, ho, resolve, Target.leads, Sem.run_pure]) fun w1 X => ?_
  obtain ⟨i0, hi, hz0, hz1, hz2⟩ := info_parts K.info
  have hsm := K.small
  have hu1 := hu.ext X
  have hm : m = ys.length := by
    obtain ⟨_, _, he, _⟩ := hu
    simp only [Value.slice.injEq] at he
    exact he.2.1
  match A with
  | none =>
    obtain ⟨A', c', he, h0', _, hr⟩ := hu
    simp only [Value.slice.injEq] at he
    obtain ⟨rfl, -, rfl⟩ := he
    have hy : ys = [] := by
      rcases ys with _ | ⟨y, ys⟩
      · rfl
      · obtain ⟨_, _, he, _⟩ := hr 0 (by simp)
        cases he
    subst hy
    obtain rfl := h0' rfl
    subst hm
    have hrun := run_append_owned_none (P := Tryz.prog) (w := w1) B K.st o.type K.ty i0 K.k K.und hi v _ _ (hown.ext X)
    refine ⟨v, w1, ?_, But.refl _ w1, h v w1 w1 (by simpa using hown.ext X) X ⟨rfl, rfl, rfl, Nat.le_refl _, fun _ _ _ => rfl⟩⟩
    simp [execOp, ho, resolve, invoke, builtin, hs, hx, hrun, Result.andThen]
  | some ad =>
    obtain ⟨v', w2, hrun, r1, r2, _⟩ := run_append_own (P := Tryz.prog) w1 B K.st o.type K.ty i0 K.z K.k K.bytes K.und hi hz0 hz1 hz2 K.hzs K.pos v _ _ (hown.ext X) ad m c (ys.flatMap K.enc) (by rw [flat_len, hm]) hu1.flat (fun u hu => by
      obtain ⟨y, _, hy⟩ := List.mem_flatMap.1 hu
      exact K.one y u hy) (by simp only [maxLen]; omega) (Nat.le_trans (Nat.mul_le_mul (show xs.length + m ≤ 1000000000 by omega) hsm) (by decide)) (Nat.le_trans hB X.bel.size)
    refine ⟨v', w2, ?_, (But.refl _ w1).grown r2 (fun r e => .inl (by rw [e]; simp)), h v' w1 w2 (by simpa [EK.Own, hm] using r1) X r2⟩
    simp [execOp, ho, resolve, invoke, builtin, hs, hx, hrun, Result.andThen]
theorem EK.appAll_s {w : World} {ops : Array Oper} {T : Act → World → Prop} {i : Nat} {is : List (Nat × Bool)} {o : Oper} {a : Act} (h0 : ops[i]? = some o) (hgd : o.guard = none) (s x : Operand)
    (ho : o.op = .call { callee := .builtin .append, args := #[s, x], argTypes := #[K.st, K.st] })
    {B : Nat} {v : Value} {xs ys : List α} {A : Option Addr} {m c : Nat} (hs : a.eval s = v) (hx : a.eval x = .slice A m c)
    (hu : K.Is w (.slice A m c) ys) (hown : K.Own B w v xs) (hB : B ≤ w.heap.size) (hlen : xs.length + ys.length ≤ 1000000000)
    (h : ∀ v' w1 w2, K.Own B w2 v' (xs ++ ys) → Ext w w1 → w1.grownBy w2 v.ownBlock → wpSD v.ownBlock.toList F n Tryz.prog ops T is (a.put o.dst v') w2) : wpSD v.ownBlock.toList F n Tryz.prog ops T ((i, false) :: is) a w := by
  have := EK.appAll_mid (F := F) (n := n) (Q := wpSD v.ownBlock.toList F n Tryz.prog ops T is) (is := []) h0 hgd s x ho hs hx hu hown hB hlen h
  exact this
theorem wanted_noneG {o : Oper} {ops : Array Oper} {a : Act} (hg : o.guard = none) : Region.wanted o (yielded ops a.tmps) = true := by simp [Region.wanted, hg]
/-- The same, where the slice lies in a block that the region made. -/
theorem EK.appAll_M {B : Nat} {w : World} {ops : Array Oper} {Q : Act → World → Prop} {i : Nat} {is : List Nat} {o : Oper} {a : Act} (h0 : ops[i]? = some o) (hgd : o.guard = none) (s x : Operand)
    (ho : o.op = .call { callee := .builtin .append, args := #[s, x], argTypes := #[K.st, K.st] })
    {B' : Nat} {v : Value} {xs ys : List α} {A : Option Addr} {m c : Nat} (hs : a.eval s = v) (hx : a.eval x = .slice A m c)
    (hu : K.Is w (.slice A m c) ys) (hown : K.Own B' w v xs) (hBB : B ≤ B') (hB : B' ≤ w.heap.size) (hlen : xs.length + ys.length ≤ 1000000000)
    (h : ∀ v' w', K.Own B' w' v' (xs ++ ys) → Below B' w w' → wpM B Tryz.prog ops Q is (a.put o.dst v') w') : wpM B Tryz.prog ops Q (i :: is) a w := by
  obtain ⟨i0, hi, hz0, hz1, hz2⟩ := info_parts K.info
  have hsm := K.small
  refine ⟨o, h0, wanted_noneG hgd, fun w1 X => ⟨by simp [Oper.about, ho, resolve, Target.leads, Sem.run_pure], ?_⟩⟩
  have hu1 := hu.ext X
  have hm : m = ys.length := by
    obtain ⟨_, _, he, _⟩ := hu
    simp only [Value.slice.injEq] at he
    exact he.2.1
  match A with
  | none =>
    obtain ⟨A', c', he, h0', _, hr⟩ := hu
    simp only [Value.slice.injEq] at he
    obtain ⟨rfl, -, rfl⟩ := he
    have hy : ys = [] := by
      rcases ys with _ | ⟨y, ys⟩
      · rfl
      · obtain ⟨_, _, he, _⟩ := hr 0 (by simp)
        cases he
    subst hy
    obtain rfl := h0' rfl
    subst hm
    have hrun := run_append_owned_none (P := Tryz.prog) (w := w1) B' K.st o.type K.ty i0 K.k K.und hi v _ _ (hown.ext X)
    refine ⟨v, w1, ?_, Below.refl _ _, h v w1 (by simpa using hown.ext X) (X.belB hB)⟩
    simp [execOp, ho, resolve, invoke, builtin, hs, hx, hrun, Result.andThen]
  | some ad =>
    obtain ⟨v', w2, hrun, r1, r2, _⟩ := run_append_own (P := Tryz.prog) w1 B' K.st o.type K.ty i0 K.z K.k K.bytes K.und hi hz0 hz1 hz2 K.hzs K.pos v _ _ (hown.ext X) ad m c (ys.flatMap K.enc) (by rw [flat_len, hm]) hu1.flat (fun u hu => by
      obtain ⟨y, _, hy⟩ := List.mem_flatMap.1 hu
      exact K.one y u hy) (by simp only [maxLen]; omega) (Nat.le_trans (Nat.mul_le_mul (show xs.length + m ≤ 1000000000 by omega) hsm) (by decide)) (Nat.le_trans hB X.bel.size)
    have hb2 : Below B' w1 w2 := (Below.refl B' w1).grown r2 (Nat.le_trans hB X.bel.size) fun k hk => (World.ownsRow.lt (hown.ext X) k hk).1
    refine ⟨v', w2, ?_, hb2.mono hBB, h v' w2 (by simpa [EK.Own, hm] using r1) ((X.belB hB).trans hb2)⟩
    simp [execOp, ho, resolve, invoke, builtin, hs, hx, hrun, Result.andThen]
end
end
section
/- LSlotG: Elements of a slice of the call's own are read and stored in place. No condition. -/
open Go.RowKit

/-- A block that lies as it was made. -/
def BoxAt (b : Nat) (cs : Array Value) (T : TypeId) (W : World) : Prop := W.heap[b]? = some (.cells cs T)
theorem BoxAt.new (w : World) (cs : Array Value) (T : TypeId) : BoxAt w.heap.size cs T (w.alloc (.cells cs T)) := heap_alloc_new w _
theorem BoxAt.cell {b : Nat} {cs : Array Value} {T : TypeId} {W : World} (h : BoxAt b cs T W) {i : Nat} {u : Value} (hu : cs.toList[i]? = some u) : W.cell? ⟨b, i, none⟩ = some u := by
  have h2 : cs[i]? = some u := by simpa using hu
  unfold BoxAt at h
  unfold World.cell?
  simp only [h]
  exact h2
theorem BoxAt.lt {b : Nat} {cs : Array Value} {T : TypeId} {W : World} (h : BoxAt b cs T W) : b < W.heap.size := (Array.getElem?_eq_some_iff.1 h).1
theorem BoxAt.ext {b : Nat} {cs : Array Value} {T : TypeId} {W W' : World} (h : BoxAt b cs T W) (x : Ext W W') : BoxAt b cs T W' := (x.bel.block b h.lt).trans h
theorem EK.Own.box_ne {α : Type} {K : EK α} {B b : Nat} {w : World} {v : Value} {xs : List α} {cs : Array Value} {T : TypeId} (h : K.Own B w v xs) (hb : BoxAt b cs T w) (hne : K.ty ≠ T) : v.ownBlock ≠ some b := by
  rcases h.2 with ⟨rfl, _⟩ | ⟨g, cap, cur, rfl, _, hg, _⟩
  · exact fun e => by cases e
  · intro e
    simp only [Value.ownBlock, Option.some.injEq] at e
    subst e
    unfold BoxAt at hb
    rw [hg] at hb
    simp only [Option.some.injEq, Obj.cells.injEq] at hb
    exact hne hb.2.1
theorem BoxAt.grown {α : Type} {K : EK α} {B b : Nat} {w w' : World} {v : Value} {xs : List α} {cs : Array Value} {T : TypeId} (h : BoxAt b cs T w) (ho : K.Own B w v xs) (hne : K.ty ≠ T) (g : w.grownBy w' v.ownBlock) : BoxAt b cs T w' :=
  (g.block b h.lt (fun e => ho.box_ne h hne e.symm)).trans h
/-- A struct stored whole. -/
theorem setRow_but (W : World) (g : Nat) (cs : Array Value) : But [g] W (W.setRow g cs) :=
  ⟨rfl, rfl, rfl, by simp [World.setRow], fun i _ hd => by
    have hne : g ≠ i := fun e => hd (by simp [e])
    simp [World.setRow, Array.getElem?_modify, hne]⟩
theorem BoxAt.setRow {b : Nat} {cs : Array Value} {T : TypeId} {W : World} (h : BoxAt b cs T W) (cs' : Array Value) : BoxAt b cs' T (W.setRow b cs') := setRow_heap W b cs cs' T _ h
theorem BoxAt.but {b : Nat} {cs : Array Value} {T : TypeId} {D : List Nat} {W W' : World} (h : BoxAt b cs T W) (x : But D W W') (hd : b ∉ D) : BoxAt b cs T W' := (x.block b h.lt hd).trans h
end
open Go.RowKit

/-- A whole variable is stored, as an operation of a net. -/
theorem store_D {F : Fence} {n B : Nat} {w1 : World} {T : Value → World → Prop} {o : Oper} {a : Act} {t : TypeId} {x d : Operand} {g : Nat} {z : Array Value} {v : Value} (ho : o.op = .store t d x) (hd : a.eval d = .pointer (some ⟨g, 0, none⟩)) (hx : a.eval x = v)
    (hg : BoxAt g z t w1) (hB : B ≤ g) (cs : Array Value) (hc : v.cells = cs) (hi : (Tryz.prog.info? t).map (·.size) = some cs.size) (hz : z.size = cs.size) (h1 : cs.all (·.oneCell') = true)
    (h : ∀ v' w2, BoxAt g cs t w2 → w1.grownBy w2 (some g) → But [g] w1 w2 → T v' w2) : DoneS B F n Tryz.prog w1 T ((execOp a.eval o).run Tryz.prog w1) := by
  subst hc
  obtain ⟨nx, hrun, hnx⟩ := run_store_block (P := Tryz.prog) hg hi hz h1 ho hd hx
  have hbut := setRow_but w1 g v.cells
  have hb : Below B w1 (w1.setRow g v.cells) := ⟨hbut.os, hbut.tape, hbut.output, hbut.size, fun k hk => hbut.block k (by have := hg.lt; omega) (by simp; omega)⟩
  have hgr : w1.grownBy (w1.setRow g v.cells) (some g) := ⟨hbut.os, hbut.tape, hbut.output, hbut.size, fun i hi hne => hbut.block i hi (by simpa using fun e => hne (by rw [e]))⟩
  rw [hrun]
  rcases hnx with rfl | ⟨u, rfl⟩
  · exact ⟨⟨hb, h _ _ (BoxAt.setRow hg _) hgr hbut⟩⟩
  · exact ⟨⟨hb, h _ _ (BoxAt.setRow hg _) hgr hbut⟩⟩
theorem BoxAt.two {b : Nat} {x y : Value} {T : TypeId} {W : World} (h : BoxAt b #[x, y] T W) : W.cell? ⟨b, 0, none⟩ = some x ∧ W.cell? ⟨b, 1, none⟩ = some y := ⟨h.cell rfl, h.cell rfl⟩

section
variable {α : Type} {K : EK α} {F : Fence} {n : Nat}
theorem EK.appAll_D {B : Nat} {w1 : World} {T : Value → World → Prop} {o : Oper} {ρ : Operand → Value} (s x : Operand)
    (ho : o.op = .call { callee := .builtin .append, args := #[s, x], argTypes := #[K.st, K.st] })
    {B' : Nat} {v : Value} {xs ys : List α} {y : Value} (hs : ρ s = v) (hx : ρ x = y)
    (hu1 : K.Is w1 y ys) (hown : K.Own B' w1 v xs) (hBB : B ≤ B') (hB : B' ≤ w1.heap.size) (hlen : xs.length + ys.length ≤ 1000000000)
    (h : ∀ v' w2, K.Own B' w2 v' (xs ++ ys) → w1.grownBy w2 v.ownBlock → Below B' w1 w2 → (v'.ownBlock = v.ownBlock ∨ v'.ownBlock = some w1.heap.size) → T v' w2) : DoneS B F n Tryz.prog w1 T ((execOp ρ o).run Tryz.prog w1) := by
  obtain ⟨i0, hi, hz0, hz1, hz2⟩ := info_parts K.info
  have hsm := K.small
  obtain ⟨A, m, c, rfl⟩ : ∃ A m c, y = .slice A m c := by
    obtain ⟨A, c, h, _⟩ := hu1
    exact ⟨A, _, c, h⟩
  have hm : m = ys.length := by
    obtain ⟨_, _, he, _⟩ := hu1
    simp only [Value.slice.injEq] at he
    exact he.2.1
  match A with
  | none =>
    obtain ⟨A', c', he, h0', _, hr⟩ := hu1
    simp only [Value.slice.injEq] at he
    obtain ⟨rfl, -, rfl⟩ := he
    have hy : ys = [] := by
      rcases ys with _ | ⟨y, ys⟩
      · rfl
      · obtain ⟨_, _, he, _⟩ := hr 0 (by simp)
        cases he
    subst hy
    obtain rfl := h0' rfl
    subst hm
    have hrun := run_append_owned_none (P := Tryz.prog) (w := w1) B' K.st o.type K.ty i0 K.k K.und hi v _ _ hown
    have he : (execOp ρ o).run Tryz.prog w1 = .ok (.value v) w1 := by simp [execOp, ho, resolve, invoke, builtin, hs, hx, hrun, Result.andThen]
    rw [he]
    exact ⟨⟨Below.refl _ _, h v w1 (by simpa using hown) ⟨rfl, rfl, rfl, Nat.le_refl _, fun _ _ _ => rfl⟩ (Below.refl _ _) (.inl rfl)⟩⟩
  | some ad =>
    obtain ⟨v', w2, hrun, r1, r2, _, r3⟩ := run_append_own_at (P := Tryz.prog) w1 B' K.st o.type K.ty i0 K.z K.k K.bytes K.und hi hz0 hz1 hz2 K.hzs K.pos v _ _ hown ad m c (ys.flatMap K.enc) (by rw [flat_len, hm]) hu1.flat (fun u hu => by
      obtain ⟨y, _, hy⟩ := List.mem_flatMap.1 hu
      exact K.one y u hy) (by simp only [maxLen]; omega) (Nat.le_trans (Nat.mul_le_mul (show xs.length + m ≤ 1000000000 by omega) hsm) (by decide)) hB
    have hb2 : Below B' w1 w2 := (Below.refl B' w1).grown r2 hB fun k hk => (World.ownsRow.lt hown k hk).1
    have he : (execOp ρ o).run Tryz.prog w1 = .ok (.value v') w2 := by simp [execOp, ho, resolve, invoke, builtin, hs, hx, hrun, Result.andThen]
    rw [he]
    exact ⟨⟨hb2.mono hBB, h v' w2 (by simpa [EK.Own, hm] using r1) r2 hb2 r3⟩⟩
theorem blkOf_own {B : Nat} {w : World} {v : Value} {xs : List α} (h : K.Own B w v xs) : blkOf v = v.ownBlock := by
  obtain ⟨A, c, rfl, _⟩ := h.is
  rfl
theorem own_keep {B : Nat} {w w' : World} {row : Option Nat} {v : Value} {xs : List α} (h : K.Own B w v xs) (hg : w.grownBy w' row) (hne : ∀ b, row = some b → blkOf v ≠ some b) : K.Own B w' v xs := by
  rw [blkOf_own h] at hne
  refine h.kept hg ?_
  cases row with
  | none => cases v.ownBlock <;> simp
  | some b => exact .inr (hne b rfl)
/-- A call's slice of its own: its block is new. -/
theorem own_fresh {W w2 : World} {v : Value} {xs : List α} (h : K.Own W.heap.size w2 v xs) : ∀ b, blkOf v = some b → b < w2.heap.size ∧ W.heap.size ≤ b := by
  intro b hb
  rw [blkOf_own h] at hb
  exact ⟨(h.lt b hb).2, (h.lt b hb).1⟩
theorem step_ext {ow : Nat → Nat} {os : List Nat} {Φ : Nat → (Nat → Value) → World → Prop} {r : Dag} {u : Nat → Value} {w1 w2 : World} {v : Value} (h : Φ r.i (updV u r.i v) w2) (x : Ext w1 w2) (hf : ∀ b, blkOf v = some b → b < w2.heap.size ∧ w1.heap.size ≤ b) (ho : ow r.i = r.i := by rfl) : StepOk ow os Φ r u w1 v w2 :=
  ⟨h, fun _ b hb => by rw [ho, updV_same] at hb; exact ⟨(hf b hb).1, .inl (hf b hb).2⟩, .inl x⟩
theorem step_none {ow : Nat → Nat} {os : List Nat} {Φ : Nat → (Nat → Value) → World → Prop} {r : Dag} {u : Nat → Value} {w1 w2 : World} {v : Value} (h : Φ r.i (updV u r.i v) w2) (x : Ext w1 w2) (hf : r.i ∉ os) : StepOk ow os Φ r u w1 v w2 :=
  ⟨h, fun hi _ _ => absurd hi hf, .inl x⟩
theorem box_keep {w w' : World} {row : Option Nat} {b : Nat} {cs : Array Value} {T : TypeId} (h : BoxAt b cs T w) (hg : w.grownBy w' row) (hne : ∀ b', row = some b' → b ≠ b') : BoxAt b cs T w' := by
  obtain ⟨_, _, _, _, hb⟩ := hg
  refine (hb b h.lt fun e => ?_).trans h
  exact hne b e.symm rfl
/-- An append, as a step of the net: it ends the fact of the slice that it appends to. -/
theorem step_app {ow : Nat → Nat} {os : List Nat} {Φ : Nat → (Nat → Value) → World → Prop} {r : Dag} {u : Nat → Value} {w1 w2 : World} {v' : Value} {B B' : Nat} {xs ys : List α} (k : Nat) (hk : k ∈ r.ends) (hko : k ∈ os) (h0 : K.Own B w1 (u k) xs) (h1 : K.Own B' w2 v' ys)
    (hg : w1.grownBy w2 (u k).ownBlock) (hat : v'.ownBlock = (u k).ownBlock ∨ v'.ownBlock = some w1.heap.size) (h : Φ r.i (updV u r.i v') w2) (ho : ow r.i = r.i := by rfl) (hk' : ow k = k := by rfl) : StepOk ow os Φ r u w1 v' w2 := by
  refine ⟨h, fun _ b hb => ?_, .inr ⟨k, hk, hko, by rw [hk', blkOf_own h0]; exact hg⟩⟩
  rw [ho, updV_same, blkOf_own h1] at hb
  refine ⟨(h1.lt b hb).2, ?_⟩
  rcases hat with e | e
  · exact .inr ⟨k, hk, hko, by rw [hk', blkOf_own h0, ← e]; exact hb⟩
  · rw [e] at hb
    cases hb
    exact .inl (Nat.le_refl _)
end
end
open Go.RowKit
theorem BoxAt.setCell {b : Nat} {cs : Array Value} {T : TypeId} {W : World} (h : BoxAt b cs T W) (i : Nat) (v : Value) : BoxAt b (cs.setIfInBounds i v) T (W.setCell ⟨b, i, none⟩ v) := by
  rw [setCell_eq_setRow W b i cs T (0, 0) v h]
  exact h.setRow _
theorem BoxAt.setOther {b : Nat} {cs : Array Value} {T : TypeId} {W : World} (h : BoxAt b cs T W) {p : Addr} (hp : b ≠ p.block) (v : Value) : BoxAt b cs T (W.setCell p v) := (heap_setCell_other W p b v hp).trans h
theorem but_grown' {b : Nat} {W W' : World} (h : But [b] W W') : W.grownBy W' (some b) :=
  ⟨h.os, h.tape, h.output, h.size, fun i hi hne => h.block i hi (by simpa using fun e => hne (by rw [e]))⟩
end Go.Proofs.YtkjgcmdabelohaaGreat

namespace Go.Proofs.YtkjgcmdabelohaaGreat
open Go.RowKit

section
variable {F : Fence} {n : Nat} {P : Program} {ops : Array Oper} {md : Region.Mode} {D : List Nat}

/-- What the operation leaves: a value, a call's, or nothing (a store); all but D lies. -/
def doneE (D : List Nat) (F : Fence) (n : Nat) (P : Program) (w1 : World) (K : Value → World → Prop) : Result Next → Prop
  | .ok (.value v) w2 => But D w1 w2 ∧ K v w2
  | .ok (.enter f args) w2 => w2 = w1 ∧ (F.depth.isSome = true → 1 ≤ n) ∧ CallsIn F (n - 1) P f args w1 (fun e w3 => ∃ v, e = .returned v ∧ But D w1 w3 ∧ K v w3)
  | .ok .skip w2 => But D w1 w2 ∧ K undef w2
  | _ => False
theorem doneE_mono {w1 : World} {K K' : Value → World → Prop} (h : ∀ v w, But D w1 w → K v w → K' v w) : ∀ {r : Result Next}, doneE D F n P w1 K r → doneE D F n P w1 K' r
  | .ok (.value _) _, h1 => ⟨h1.1, h _ _ h1.1 h1.2⟩
  | .ok (.enter _ _) _, h1 => ⟨h1.1, h1.2.1, h1.2.2.mono fun _ _ ⟨v, h2, h3, h4⟩ => ⟨v, h2, h3, h _ _ h3 h4⟩⟩
  | .ok .skip _, h1 => ⟨h1.1, h _ _ h1.1 h1.2⟩
  | .halt _ _, h1 => h1.elim
def midE (D : List Nat) (F : Fence) (n : Nat) (P : Program) (ops : Array Oper) (o : Oper) (K : Act → World → Prop) (a : Act) (w : World) : Prop :=
  ∀ w1, Ext w w1 → (∀ f, o.about P w1 a.eval = some f → F.fn f) ∧
    ((Region.wanted o (yielded ops a.tmps) = true ∧ doneE D F n P w1 (fun v w2 => K (a.put o.dst v) w2) ((execOp a.eval o).run P w1)) ∨
     (Region.wanted o (yielded ops a.tmps) = false ∧ K (a.put o.dst undef) w1))
theorem midE_mono {o : Oper} {a : Act} {w : World} {K K' : Act → World → Prop} (h : ∀ a w2, But D w w2 → K a w2 → K' a w2) (hm : midE D F n P ops o K a w) : midE D F n P ops o K' a w :=
  fun w1 hx => ⟨(hm w1 hx).1, (hm w1 hx).2.imp (fun ⟨h1, h2⟩ => ⟨h1, doneE_mono (fun _ _ hb hK => h _ _ (hx.but.trans hb) hK) h2⟩) (fun ⟨h1, h2⟩ => ⟨h1, h _ _ hx.but h2⟩)⟩
theorem wpOpIn_of_midE {i : Nat} {o : Oper} {a : Act} {w w1 : World} {K : Act → World → Prop} {Q' : Exit → Act → World → Prop} (hi : ops[i]? = some o) (hnd : noDefer o = true) (hx : Ext w w1) (hm : midE D F n P ops o K a w) :
    wpOpIn F n P ops Q' i (fun a2 w2 => But D w1 w2 ∧ K a2 w2) a w1 := by
  unfold wpOpIn
  simp only [hi]
  obtain ⟨hab, hr⟩ := hm w1 hx
  rcases hr with ⟨hw, hr⟩ | ⟨hw, hr⟩
  · simp only [hw, if_true]
    unfold Oper.wpIn
    refine ⟨hab, ?_⟩
    rw [semAt_any hnd]
    generalize (execOp a.eval o).run P w1 = r at *
    cases r with
    | ok x w' =>
      cases x <;> simp only [doneE] at hr <;> simp only [Oper.uponIn]
      case value v => exact hr
      case skip => exact hr
      case enter f args =>
        obtain ⟨e1, hd, hc⟩ := hr
        rw [e1]
        exact ⟨hd, hc.mono fun e w'' ⟨v, he, hb, hK⟩ => by subst he; exact ⟨hb, hK⟩⟩
    | halt x w' => simp only [doneE] at hr
  · simp only [hw, Bool.false_eq_true, if_false]
    exact ⟨hab, But.refl _ _, hr⟩
def nextE (D : List Nat) (F : Fence) (n : Nat) (P : Program) (o : Oper) (a : Act) (w : World) (K : Act → World → Prop) : Prop := doneE D F n P w (fun v w2 => K (a.put o.dst v) w2) ((execOp a.eval o).run P w)

def wpAnyE (Dq : Nat → List Nat) (D : List Nat) (F : Fence) (n : Nat) (P : Program) (md : Region.Mode) (ops : Array Oper) (isQ : Nat → Bool) (nn : Nat) (L : Array Bool → Act → World → Prop) : Nat → Array Bool → Act → World → Prop
  | 0, listed, a, w => L listed a w
  | f + 1, listed, a, w =>
    Region.ready md ops listed ≠ [] ∧ ∀ i ∈ Region.ready md ops listed, i < nn ∧ ∃ o, ops[i]? = some o ∧
      ((isQ i = true ∧ ∃ v, YD (Dq i) F n P ops o v a w ∧ wpAnyE Dq D F n P md ops isQ nn L f (listed.setIfInBounds i true) (a.put o.dst v) w) ∨
       (isQ i = false ∧ midE D F n P ops o (wpAnyE Dq D F n P md ops isQ nn L f (listed.setIfInBounds i true)) a w))

theorem wpAnyIn_of_E {Dq : Nat → List Nat} {isQ : Nat → Bool} {nn g : Nat} {L : Array Bool → Act → World → Prop} {Q' : Exit → Act → World → Prop} (hnd : ops.all noDefer = true) (hL : ∀ listed a w w1, L listed a w → Ext w w1 → wpAnyIn F n P md ops Q' g listed a w1) :
    ∀ (f : Nat) (listed : Array Bool) (a : Act) (w w1 : World), Ext w w1 → wpAnyE Dq D F n P md ops isQ nn L f listed a w → wpAnyIn F n P md ops Q' (f + g) listed a w1
  | 0, listed, a, w, w1, hx, h => by rw [Nat.zero_add]; exact hL _ _ _ _ h hx
  | f + 1, listed, a, w, w1, hx, h => by
    rw [show f + 1 + g = (f + g) + 1 by omega]
    refine ⟨fun h0 => absurd h0 h.1, fun i hi => ?_⟩
    obtain ⟨_, o, ho, hc⟩ := h.2 i hi
    have hnd' : noDefer o = true := by
      obtain ⟨hi, rfl⟩ := Array.getElem?_eq_some_iff.1 ho
      exact Array.all_eq_true.1 hnd i hi
    rcases hc with ⟨_, v, hy, hK⟩ | ⟨_, hm⟩
    · exact wpOpIn_of_YD ho hnd' hx.but hy fun w2 h2 => wpAnyIn_of_E hnd hL f _ _ _ _ (hx.trans h2) hK
    · exact wpOpIn_mono (fun a' w' h' => wpAnyIn_of_E hnd hL f _ a' w' w' (Ext.refl _) h'.2) (wpOpIn_of_midE ho hnd' hx hm)

theorem wpAnyE_first {Dq : Nat → List Nat} {isQ : Nat → Bool} {nn i : Nat} {oi : Oper} {v : Value} {L : Array Bool → Act → World → Prop} (hi : ops[i]? = some oi) (hsel : ∀ (j : Nat) (o : Oper) cs b, ops[j]? = some o → o.op ≠ .select cs b)
    (hs : Region.sinkB md ops nn = true) (hc : Region.chainB md ops nn = true) (hn : nn < ops.size) (hin : i < nn) (hik : isQ i = true)
    (hdone : ∀ listed a w, L listed a w → ∀ j ∈ Region.ready md ops listed, nn ≤ j)
    (hearly : Dq i = D ∨ ∀ j oj, ops[j]? = some oj → j < nn → isQ j = false → ∃ e ∈ oj.after, Region.binds md e = true ∧ e.on = i) :
    ∀ (f : Nat) (listed : Array Bool) (a : Act) (w : World), HeadInv md ops nn listed →
      (∀ j oj, ops[j]? = some oj → j ≠ i → listed.getD j true = false → (∀ e ∈ oj.after, Region.binds md e = true → e.on ≠ i) → oi.apart ops oj = true) →
      i ∈ Region.ready md ops listed → YD (Dq i) F n P ops oi v a w →
      wpAnyE Dq D F n P md ops isQ nn L f (listed.setIfInBounds i true) (a.put oi.dst v) w → wpAnyE Dq D F n P md ops isQ nn L (f + 1) listed a w := by
  intro f
  induction f with
  | zero =>
    intro listed a w inv _ hr hy H
    have hun := (mem_ready.1 hr).1
    refine ⟨fun h => (by rw [h] at hr; cases hr), fun j hj => ?_⟩
    have hjn : j < nn := by
      rcases Nat.lt_or_ge j nn with h | h
      · exact h
      · exact absurd hj (tail_waits hs hc hn inv _ i rfl hin hun j h)
    refine ⟨hjn, ?_⟩
    by_cases hji : j = i
    · subst hji; exact ⟨oi, hi, .inl ⟨hik, v, hy, H⟩⟩
    · have := hdone _ _ _ H j (ready_mono hj hji)
      omega
  | succ f ih =>
    intro listed a w inv hfree hr hy H
    have hun := (mem_ready.1 hr).1
    refine ⟨fun h => (by rw [h] at hr; cases hr), fun j hj => ?_⟩
    have hjn : j < nn := by
      rcases Nat.lt_or_ge j nn with h | h
      · exact h
      · exact absurd hj (tail_waits hs hc hn inv _ i rfl hin hun j h)
    refine ⟨hjn, ?_⟩
    by_cases hji : j = i
    · subst hji; exact ⟨oi, hi, .inl ⟨hik, v, hy, H⟩⟩
    · obtain ⟨_, oj, hoj, hcase⟩ := H.2 j (ready_mono hj hji)
      obtain ⟨hjun, oj', hoj', hall⟩ := mem_ready.1 hj
      obtain rfl : oj = oj' := Option.some.inj (hoj.symm.trans hoj')
      have hnot : ∀ e ∈ oj.after, Region.binds md e = true → e.on ≠ i := fun e he hb heq => by
        have h1 := hall e he hb
        rw [heq, getD_both hun] at h1
        cases h1
      have hap := hfree j oj hoj hji hjun hnot
      obtain ⟨p1, p2, p3⟩ := Oper.apart_spec hap
      have hsi := fun cs b => hsel i oi cs b hi
      have hsj := fun cs b => hsel j oj cs b hoj
      have keep0 : ∀ u, YD (Dq i) F n P ops oi v (a.put oj.dst u) w := fun u =>
        hy.of_same (execOp_put oi hsi a oj.dst u p3) (wanted_put oi a oj.dst u p3) (fun w => about_put oi w a oj.dst u p3)
      have hfree' : ∀ k ok, ops[k]? = some ok → k ≠ i → (listed.setIfInBounds j true).getD k true = false →
          (∀ e ∈ ok.after, Region.binds md e = true → e.on ≠ i) → oi.apart ops ok = true := fun k ok hk hki hun hno => by
        refine hfree k ok hk hki ?_ hno
        by_cases hjk : j = k
        · subst hjk; exact hjun
        · rw [getD_set_ne true hjk] at hun; exact hun
      have hgo : ∀ u w2, YD (Dq i) F n P ops oi v (a.put oj.dst u) w2 → wpAnyE Dq D F n P md ops isQ nn L f ((listed.setIfInBounds i true).setIfInBounds j true) ((a.put oi.dst v).put oj.dst u) w2 → wpAnyE Dq D F n P md ops isQ nn L (f + 1) (listed.setIfInBounds j true) (a.put oj.dst u) w2 := fun u w2 hb hK => by
        refine ih (listed.setIfInBounds j true) _ w2 (inv.set hj hjn) hfree' (ready_mono hr (Ne.symm hji)) hb ?_
        rw [Array.setIfInBounds_comm _ _ hji, ← Act.put_comm a v u p2]
        exact hK
      rcases hcase with ⟨hjk, u, hyj, hK⟩ | ⟨hjk, hm⟩
      · refine ⟨oj, hoj, .inl ⟨hjk, u, ?_, ?_⟩⟩
        · exact hyj.of_same (execOp_put oj hsj a oi.dst v p1).symm (wanted_put oj a oi.dst v p1).symm (fun w => (about_put oj w a oi.dst v p1).symm)
        · exact hgo u w (keep0 u) hK
      · rcases hearly with hD | hE
        · have keep : ∀ u w2, But D w w2 → YD (Dq i) F n P ops oi v (a.put oj.dst u) w2 := fun u w2 x =>
            (keep0 u).later (by rw [hD]; exact x)
          refine ⟨oj, hoj, .inr ⟨hjk, fun w1 hx => ⟨?_, ?_⟩⟩⟩
          · rw [← about_put oj w1 a oi.dst v p1]; exact (hm w1 hx).1
          · have h2 := (hm w1 hx).2
            rw [execOp_put oj hsj a oi.dst v p1, wanted_put oj a oi.dst v p1] at h2
            exact h2.imp (fun ⟨h3, h4⟩ => ⟨h3, doneE_mono (fun u w2 h12 hK => hgo u w2 (keep u w2 (hx.but.trans h12)) hK) h4⟩) (fun ⟨h3, h4⟩ => ⟨h3, hgo undef w1 (keep undef w1 hx.but) h4⟩)
        · obtain ⟨e, he, hb, heq⟩ := hE j oj hoj hjn hjk
          exact absurd heq (hnot e he hb)

/-- The walk in steps: 0: quiet whatever is written; 1: quiet, ahead of every write; 2: the only one ready. -/
def wpSE (D : List Nat) (F : Fence) (n : Nat) (P : Program) (ops : Array Oper) (T : Act → World → Prop) : List (Nat × Nat) → Act → World → Prop
  | [], a, w => T a w
  | (i, 0) :: is, a, w => ∃ o, ops[i]? = some o ∧ ∃ v, YD D F n P ops o v a w ∧ wpSE D F n P ops T is (a.put o.dst v) w
  | (i, 1) :: is, a, w => ∃ o, ops[i]? = some o ∧ ∃ v, YD [] F n P ops o v a w ∧ wpSE D F n P ops T is (a.put o.dst v) w
  | (i, _ + 2) :: is, a, w => ∃ o, ops[i]? = some o ∧ midE D F n P ops o (wpSE D F n P ops T is) a w
def earlyB (md : Region.Mode) (ops : Array Oper) (nn : Nat) (isQ : Nat → Bool) (i : Nat) : Bool :=
  (List.range ops.size).all fun j => isQ j || decide (nn ≤ j) || (match ops[j]? with | some oj => oj.after.any fun e => Region.binds md e && e.on == i | none => true)
def lexE (md : Region.Mode) (ops : Array Oper) (nn : Nat) (isQ : Nat → Bool) : List (Nat × Nat) → Array Bool → Bool
  | [], listed => Region.seqB md ops (ops.size - nn) nn listed
  | (i, 0) :: is, listed => (Region.ready md ops listed).contains i && Region.free md ops listed i && lexE md ops nn isQ is (listed.setIfInBounds i true)
  | (i, 1) :: is, listed => earlyB md ops nn isQ i && (Region.ready md ops listed).contains i && Region.free md ops listed i && lexE md ops nn isQ is (listed.setIfInBounds i true)
  | (i, _ + 2) :: is, listed => decide (Region.ready md ops listed = [i]) && lexE md ops nn isQ is (listed.setIfInBounds i true)
theorem earlyB_spec {nn i : Nat} {isQ : Nat → Bool} (h : earlyB md ops nn isQ i = true) : ∀ j oj, ops[j]? = some oj → j < nn → isQ j = false → ∃ e ∈ oj.after, Region.binds md e = true ∧ e.on = i := by
  intro j oj hj hjn hq
  have hjs := (Array.getElem?_eq_some_iff.1 hj).1
  have := List.all_eq_true.1 h j (List.mem_range.2 hjs)
  rw [hq, decide_eq_false (by omega), hj] at this
  simp only [Bool.false_or, Array.any_eq_true] at this
  obtain ⟨k, hk, he⟩ := this
  simp only [Bool.and_eq_true, beq_iff_eq] at he
  exact ⟨_, Array.getElem_mem hk, he.1, he.2⟩

/-- Which blocks a quiet operation may find changed. -/
def dqOf (D : List Nat) (ss : List (Nat × Nat)) (i : Nat) : List Nat := if ss.contains (i, 1) then [] else D
theorem wpAnyE_steps {Dq : Nat → List Nat} {isQ : Nat → Bool} {nn : Nat} {T : Act → World → Prop} (hsel : Region.noSelect ops = true) (hs : Region.sinkB md ops nn = true) (hc : Region.chainB md ops nn = true) (hn : nn < ops.size) :
    ∀ (ss : List (Nat × Nat)) (listed : Array Bool) (a : Act) (w : World), (∀ s ∈ ss, isQ s.1 = decide (s.2 < 2) ∧ s.1 < nn ∧ Dq s.1 = if s.2 = 1 then [] else D) → HeadInv md ops nn listed →
    lexE md ops nn isQ ss listed = true → wpSE D F n P ops T ss a w →
    wpAnyE Dq D F n P md ops isQ nn (fun listed' a' w' => Region.seqB md ops (ops.size - nn) nn listed' = true ∧ T a' w') ss.length listed a w
  | [], listed, a, w, _, _, hB, h => ⟨hB, h⟩
  | (i, 0) :: is, listed, a, w, hq, inv, hB, h => by
    simp only [lexE, Bool.and_eq_true] at hB
    obtain ⟨⟨hr, hf⟩, hB'⟩ := hB
    obtain ⟨h1, h2, h3⟩ := hq (i, 0) (by simp)
    have hr' : i ∈ Region.ready md ops listed := by simpa using hr
    obtain ⟨o, h0, v, hy, hK⟩ := h
    exact wpAnyE_first (Dq := Dq) (F := F) (n := n) (P := P) (isQ := isQ) (L := fun listed' a' w' => Region.seqB md ops (ops.size - nn) nn listed' = true ∧ T a' w') h0 (Region.noSelect_spec hsel) hs hc hn h2 (by simpa using h1) (fun listed' a' w' hL => seqB_ready hL.1) (.inl (by simpa using h3)) is.length listed a w inv (Region.free_spec h0 hf) hr' (by rw [show Dq i = D by simpa using h3]; exact hy)
      (wpAnyE_steps hsel hs hc hn is _ _ w (fun k hk => hq k (by simp [hk])) (inv.set hr' h2) hB' hK)
  | (i, 1) :: is, listed, a, w, hq, inv, hB, h => by
    simp only [lexE, Bool.and_eq_true] at hB
    obtain ⟨⟨⟨he, hr⟩, hf⟩, hB'⟩ := hB
    obtain ⟨h1, h2, h3⟩ := hq (i, 1) (by simp)
    have hr' : i ∈ Region.ready md ops listed := by simpa using hr
    obtain ⟨o, h0, v, hy, hK⟩ := h
    exact wpAnyE_first (Dq := Dq) (F := F) (n := n) (P := P) (isQ := isQ) (L := fun listed' a' w' => Region.seqB md ops (ops.size - nn) nn listed' = true ∧ T a' w') h0 (Region.noSelect_spec hsel) hs hc hn h2 (by simpa using h1) (fun listed' a' w' hL => seqB_ready hL.1) (.inr (earlyB_spec he)) is.length listed a w inv (Region.free_spec h0 hf) hr' (by rw [show Dq i = [] by simpa using h3]; exact hy)
      (wpAnyE_steps hsel hs hc hn is _ _ w (fun k hk => hq k (by simp [hk])) (inv.set hr' h2) hB' hK)
  | (i, m + 2) :: is, listed, a, w, hq, inv, hB, h => by
    simp only [lexE, Bool.and_eq_true, decide_eq_true_eq] at hB
    have hi : i ∈ Region.ready md ops listed := by rw [hB.1]; simp
    obtain ⟨h1, h2, _⟩ := hq (i, m + 2) (by simp)
    refine ⟨fun h1 => (by rw [hB.1] at h1; cases h1), fun j hj => ?_⟩
    rw [hB.1] at hj
    obtain rfl : j = i := by simpa using hj
    obtain ⟨o, h0, hmid⟩ := h
    exact ⟨h2, o, h0, .inr ⟨h1.trans (decide_eq_false (by omega)), midE_mono (fun a2 w2 _ h3 => wpAnyE_steps hsel hs hc hn is _ a2 w2 (fun k hk => hq k (by simp [hk])) (inv.set hi h2) hB.2 h3) hmid⟩⟩

def stepsE (ops : Array Oper) (nn : Nat) (ss : List (Nat × Nat)) : Bool :=
  Region.noSelect ops && ops.all noDefer && decide (nn < ops.size) && Region.sinkB .any ops nn && Region.chainB .any ops nn && decide (ss.length = nn) &&
    ss.all (fun s => decide (s.1 < nn) && ((ss.contains (s.1, 0) || ss.contains (s.1, 1)) == decide (s.2 < 2)) && (ss.contains (s.1, 1) == decide (s.2 = 1))) && lexE .any ops nn (fun i => ss.contains (i, 0) || ss.contains (i, 1)) ss (Array.replicate ops.size false)

theorem wpIn_region_early {id : Nat} {Q : Exit → Act → World → Prop} {a : Act} {w : World} {l : List Oper} (D : List Nat) (nn : Nat) (ss : List (Nat × Nat)) (hm : P.follows .mixedOrders = true) (hB : stepsE l.toArray nn ss = true)
    (h : wpSE D F n P l.toArray (fun a2 w2 => ∀ w3, Ext w2 w3 → wpListIn F n P l.toArray Q (l.drop nn) a2 w3) ss a w) : (Code.region id l.toArray true).wpIn F n P Q a w := by
  simp only [stepsE, Bool.and_eq_true, decide_eq_true_eq] at hB
  obtain ⟨⟨⟨⟨⟨⟨⟨hsel, hnd⟩, hn⟩, hs⟩, hc⟩, hlen⟩, hqs⟩, hlex⟩ := hB
  have hn' : nn < l.length := by simpa using hn
  have hdl : (l.drop nn).length = l.toArray.size - nn := by simp
  have inv0 : HeadInv .any l.toArray nn (Array.replicate l.toArray.size false) :=
    ⟨by simp, fun j oj _ hl => (by rw [getD_replicate_false] at hl; cases hl), fun t _ ht => getD_in (by simpa using ht) (getD_replicate_false _ _)⟩
  have H := wpAnyE_steps (Dq := dqOf D ss) (F := F) (n := n) (P := P) (md := .any) (isQ := fun i => ss.contains (i, 0) || ss.contains (i, 1)) (nn := nn) hsel hs hc hn ss _ a w (fun s hs' => by
    have := List.all_eq_true.1 hqs s hs'
    simp only [Bool.and_eq_true, decide_eq_true_eq, beq_iff_eq] at this
    refine ⟨this.1.2, this.1.1, ?_⟩
    unfold dqOf
    rw [this.2]
    by_cases e : s.2 = 1 <;> simp [e]) inv0 hlex h
  refine wpIn_region_any hm ?_
  have := wpAnyIn_of_E (F := F) (n := n) (P := P) (Q' := Q) (g := l.toArray.size - nn) hnd (fun listed a' w' w1 hL hx => by
    have := wpAnyIn_of_seq (F := F) (n := n) (P := P) (md := .any) (Q' := Q) (l.drop nn) nn listed a' w1 (fun j => by simp [List.getElem?_drop]) (by rw [hdl]; exact hL.1) (hL.2 w1 hx)
    rwa [hdl] at this) _ _ _ _ { w with drawn := w.drawn + 1 } ((Ext.refl w).drew) H
  rw [hlen, show nn + (l.toArray.size - nn) = l.toArray.size by omega] at this
  exact this

theorem YD_of_pure {w : World} {o : Oper} {a : Act} {K : Act → Prop} (hab : ∀ w3 f, o.about P w3 a.eval = some f → F.fn f)
    (h1 : if Region.wanted o (yielded ops a.tmps) then pureD D F n P o a w K else K (a.put o.dst undef)) : ∃ v, YD D F n P ops o v a w ∧ K (a.put o.dst v) := by
  by_cases hw : Region.wanted o (yielded ops a.tmps) = true
  · rw [if_pos hw] at h1
    obtain ⟨v, h2, h3⟩ := h1
    refine ⟨v, ⟨fun w3 _ => hab w3, .inl ⟨hw, fun w3 x => ?_⟩⟩, h3⟩
    have h4 := h2 ⟨w3, x⟩
    unfold Oper.quietAtIn
    generalize (execOp a.eval o).run P w3 = r at *
    cases r with
    | ok x w' => cases x <;> simp only [pureUD] at h4 <;> simp only [Oper.quietUponIn] <;> first | exact h4 | exact h4.elim
    | halt x w' => simp only [pureUD] at h4
  · rw [if_neg hw] at h1
    exact ⟨undef, ⟨fun w3 _ => hab w3, .inr ⟨by simpa using hw, rfl⟩⟩, h1⟩
theorem wpSE_q {w : World} {T : Act → World → Prop} {i : Nat} {is : List (Nat × Nat)} {o : Oper} {a : Act} (h0 : ops[i]? = some o) (hab : ∀ w3 f, o.about P w3 a.eval = some f → F.fn f)
    (h : ∀ K : Act → Prop, (∀ a, wpSE D F n P ops T is a w → K a) → if Region.wanted o (yielded ops a.tmps) then pureD D F n P o a w K else K (a.put o.dst undef)) : wpSE D F n P ops T ((i, 0) :: is) a w := by
  obtain ⟨v, h1, h2⟩ := YD_of_pure hab (h _ (fun _ h => h))
  exact ⟨o, h0, v, h1, h2⟩
theorem wpSE_e {w : World} {T : Act → World → Prop} {i : Nat} {is : List (Nat × Nat)} {o : Oper} {a : Act} (h0 : ops[i]? = some o) (hab : ∀ w3 f, o.about P w3 a.eval = some f → F.fn f)
    (h : ∀ K : Act → Prop, (∀ a, wpSE D F n P ops T is a w → K a) → if Region.wanted o (yielded ops a.tmps) then pureD [] F n P o a w K else K (a.put o.dst undef)) : wpSE D F n P ops T ((i, 1) :: is) a w := by
  obtain ⟨v, h1, h2⟩ := YD_of_pure hab (h _ (fun _ h => h))
  exact ⟨o, h0, v, h1, h2⟩
theorem wpSE_nil {w : World} {T : Act → World → Prop} {a : Act} (h : T a w) : wpSE D F n P ops T [] a w := h
theorem wpSE_m {w : World} {T : Act → World → Prop} {i : Nat} {is : List (Nat × Nat)} {o : Oper} {a : Act} (h0 : ops[i]? = some o) (hab : ∀ w1 f, o.about P w1 a.eval = some f → F.fn f)
    (h : ∀ (δ : BExt w) (K : Act → World → Prop), (∀ a w2, wpSE D F n P ops T is a w2 → K a w2) → if Region.wanted o (yielded ops a.tmps) then nextE D F n P o a δ.wd K else K (a.put o.dst undef) δ.wd) : wpSE D F n P ops T ((i, 2) :: is) a w := by
  refine ⟨o, h0, fun w1 x => ⟨hab w1, ?_⟩⟩
  have h1 := h ⟨w1, x.bel⟩ _ (fun _ _ h => h)
  by_cases hw : Region.wanted o (yielded ops a.tmps) = true
  · rw [if_pos hw] at h1
    exact .inl ⟨hw, h1⟩
  · rw [if_neg hw] at h1
    exact .inr ⟨by simpa using hw, h1⟩
end
attribute [go_sem] nextE doneE
end Go.Proofs.YtkjgcmdabelohaaGreat
