/- A region that draws its order, walked in steps (QS), with operations that only read and stand ahead of every write: these may read what is written later. Condition: no defer statement in it. -/
import Derived.Test.YtkjgcmdabelohaaQS
namespace Go.Proofs.Ytkjgcmdabelohaa
open Go.RowKit

section
variable {F : Fence} {n : Nat} {P : Program} {ops : Array Oper} {md : Region.Mode} {D : List Nat}

/-- What the operation leaves: a value, a call's, or nothing (a store); all but D lies. -/
def doneE (D : List Nat) (F : Fence) (n : Nat) (P : Program) (w1 : World) (K : Value → World → Prop) : Result Next → Prop
  | .ok (.value v) w2 => But D w1 w2 ∧ K v w2
  | .ok (.enter f args) w2 => w2 = w1 ∧ (F.depth.isSome = true → 1 ≤ n) ∧ CallsIn F (n - 1) P f args w1 (fun e w3 => ∃ v, e = .returned v ∧ But D w1 w3 ∧ K v w3)
  | .ok .skip w2 => But D w1 w2 ∧ K undef w2
  | _ => False
theorem doneE_mono {w1 : World} {K K' : Value → World → Prop} (h : ∀ v w, But D w1 w → K v w → K' v w) : ∀ {r : Result Next}, doneE D F n P w1 K r → doneE D F n P w1 K' r
  | .ok (.value _) _, h1 => ⟨h1.1, h _ _ h1.1 h1.2⟩
  | .ok (.enter _ _) _, h1 => ⟨h1.1, h1.2.1, h1.2.2.mono fun _ _ ⟨v, h2, h3, h4⟩ => ⟨v, h2, h3, h _ _ h3 h4⟩⟩
  | .ok .skip _, h1 => ⟨h1.1, h _ _ h1.1 h1.2⟩
  | .halt _ _, h1 => h1.elim
def midE (D : List Nat) (F : Fence) (n : Nat) (P : Program) (ops : Array Oper) (o : Oper) (K : Act → World → Prop) (a : Act) (w : World) : Prop :=
  ∀ w1, Ext w w1 → (∀ f, o.about P w1 a.eval = some f → F.fn f) ∧
    ((Region.wanted o (yielded ops a.tmps) = true ∧ doneE D F n P w1 (fun v w2 => K (a.put o.dst v) w2) ((execOp a.eval o).run P w1)) ∨
     (Region.wanted o (yielded ops a.tmps) = false ∧ K (a.put o.dst undef) w1))
theorem midE_mono {o : Oper} {a : Act} {w : World} {K K' : Act → World → Prop} (h : ∀ a w2, But D w w2 → K a w2 → K' a w2) (hm : midE D F n P ops o K a w) : midE D F n P ops o K' a w :=
  fun w1 hx => ⟨(hm w1 hx).1, (hm w1 hx).2.imp (fun ⟨h1, h2⟩ => ⟨h1, doneE_mono (fun _ _ hb hK => h _ _ (hx.but.trans hb) hK) h2⟩) (fun ⟨h1, h2⟩ => ⟨h1, h _ _ hx.but h2⟩)⟩
theorem wpOpIn_of_midE {i : Nat} {o : Oper} {a : Act} {w w1 : World} {K : Act → World → Prop} {Q' : Exit → Act → World → Prop} (hi : ops[i]? = some o) (hnd : noDefer o = true) (hx : Ext w w1) (hm : midE D F n P ops o K a w) :
    wpOpIn F n P ops Q' i (fun a2 w2 => But D w1 w2 ∧ K a2 w2) a w1 := by
  unfold wpOpIn
  simp only [hi]
  obtain ⟨hab, hr⟩ := hm w1 hx
  rcases hr with ⟨hw, hr⟩ | ⟨hw, hr⟩
  · simp only [hw, if_true]
    unfold Oper.wpIn
    refine ⟨hab, ?_⟩
    rw [semAt_any hnd]
    generalize (execOp a.eval o).run P w1 = r at *
    cases r with
    | ok x w' =>
      cases x <;> simp only [doneE] at hr <;> simp only [Oper.uponIn]
      case value v => exact hr
      case skip => exact hr
      case enter f args =>
        obtain ⟨e1, hd, hc⟩ := hr
        rw [e1]
        exact ⟨hd, hc.mono fun e w'' ⟨v, he, hb, hK⟩ => by subst he; exact ⟨hb, hK⟩⟩
    | halt x w' => simp only [doneE] at hr
  · simp only [hw, Bool.false_eq_true, if_false]
    exact ⟨hab, But.refl _ _, hr⟩
def nextE (D : List Nat) (F : Fence) (n : Nat) (P : Program) (o : Oper) (a : Act) (w : World) (K : Act → World → Prop) : Prop := doneE D F n P w (fun v w2 => K (a.put o.dst v) w2) ((execOp a.eval o).run P w)

def wpAnyE (Dq : Nat → List Nat) (D : List Nat) (F : Fence) (n : Nat) (P : Program) (md : Region.Mode) (ops : Array Oper) (isQ : Nat → Bool) (nn : Nat) (L : Array Bool → Act → World → Prop) : Nat → Array Bool → Act → World → Prop
  | 0, listed, a, w => L listed a w
  | f + 1, listed, a, w =>
    Region.ready md ops listed ≠ [] ∧ ∀ i ∈ Region.ready md ops listed, i < nn ∧ ∃ o, ops[i]? = some o ∧
      ((isQ i = true ∧ ∃ v, YD (Dq i) F n P ops o v a w ∧ wpAnyE Dq D F n P md ops isQ nn L f (listed.setIfInBounds i true) (a.put o.dst v) w) ∨
       (isQ i = false ∧ midE D F n P ops o (wpAnyE Dq D F n P md ops isQ nn L f (listed.setIfInBounds i true)) a w))

theorem wpAnyIn_of_E {Dq : Nat → List Nat} {isQ : Nat → Bool} {nn g : Nat} {L : Array Bool → Act → World → Prop} {Q' : Exit → Act → World → Prop} (hnd : ops.all noDefer = true) (hL : ∀ listed a w w1, L listed a w → Ext w w1 → wpAnyIn F n P md ops Q' g listed a w1) :
    ∀ (f : Nat) (listed : Array Bool) (a : Act) (w w1 : World), Ext w w1 → wpAnyE Dq D F n P md ops isQ nn L f listed a w → wpAnyIn F n P md ops Q' (f + g) listed a w1
  | 0, listed, a, w, w1, hx, h => by rw [Nat.zero_add]; exact hL _ _ _ _ h hx
  | f + 1, listed, a, w, w1, hx, h => by
    rw [show f + 1 + g = (f + g) + 1 by omega]
    refine ⟨fun h0 => absurd h0 h.1, fun i hi => ?_⟩
    obtain ⟨_, o, ho, hc⟩ := h.2 i hi
    have hnd' : noDefer o = true := by
      obtain ⟨hi, rfl⟩ := Array.getElem?_eq_some_iff.1 ho
      exact Array.all_eq_true.1 hnd i hi
    rcases hc with ⟨_, v, hy, hK⟩ | ⟨_, hm⟩
    · exact wpOpIn_of_YD ho hnd' hx.but hy fun w2 h2 => wpAnyIn_of_E hnd hL f _ _ _ _ (hx.trans h2) hK
    · exact wpOpIn_mono (fun a' w' h' => wpAnyIn_of_E hnd hL f _ a' w' w' (Ext.refl _) h'.2) (wpOpIn_of_midE ho hnd' hx hm)

theorem wpAnyE_first {Dq : Nat → List Nat} {isQ : Nat → Bool} {nn i : Nat} {oi : Oper} {v : Value} {L : Array Bool → Act → World → Prop} (hi : ops[i]? = some oi) (hsel : ∀ (j : Nat) (o : Oper) cs b, ops[j]? = some o → o.op ≠ .select cs b)
    (hs : Region.sinkB md ops nn = true) (hc : Region.chainB md ops nn = true) (hn : nn < ops.size) (hin : i < nn) (hik : isQ i = true)
    (hdone : ∀ listed a w, L listed a w → ∀ j ∈ Region.ready md ops listed, nn ≤ j)
    (hearly : Dq i = D ∨ ∀ j oj, ops[j]? = some oj → j < nn → isQ j = false → ∃ e ∈ oj.after, Region.binds md e = true ∧ e.on = i) :
    ∀ (f : Nat) (listed : Array Bool) (a : Act) (w : World), HeadInv md ops nn listed →
      (∀ j oj, ops[j]? = some oj → j ≠ i → listed.getD j true = false → (∀ e ∈ oj.after, Region.binds md e = true → e.on ≠ i) → oi.apart ops oj = true) →
      i ∈ Region.ready md ops listed → YD (Dq i) F n P ops oi v a w →
      wpAnyE Dq D F n P md ops isQ nn L f (listed.setIfInBounds i true) (a.put oi.dst v) w → wpAnyE Dq D F n P md ops isQ nn L (f + 1) listed a w := by
  intro f
  induction f with
  | zero =>
    intro listed a w inv _ hr hy H
    have hun := (mem_ready.1 hr).1
    refine ⟨fun h => (by rw [h] at hr; cases hr), fun j hj => ?_⟩
    have hjn : j < nn := by
      rcases Nat.lt_or_ge j nn with h | h
      · exact h
      · exact absurd hj (tail_waits hs hc hn inv _ i rfl hin hun j h)
    refine ⟨hjn, ?_⟩
    by_cases hji : j = i
    · subst hji; exact ⟨oi, hi, .inl ⟨hik, v, hy, H⟩⟩
    · have := hdone _ _ _ H j (ready_mono hj hji)
      omega
  | succ f ih =>
    intro listed a w inv hfree hr hy H
    have hun := (mem_ready.1 hr).1
    refine ⟨fun h => (by rw [h] at hr; cases hr), fun j hj => ?_⟩
    have hjn : j < nn := by
      rcases Nat.lt_or_ge j nn with h | h
      · exact h
      · exact absurd hj (tail_waits hs hc hn inv _ i rfl hin hun j h)
    refine ⟨hjn, ?_⟩
    by_cases hji : j = i
    · subst hji; exact ⟨oi, hi, .inl ⟨hik, v, hy, H⟩⟩
    · obtain ⟨_, oj, hoj, hcase⟩ := H.2 j (ready_mono hj hji)
      obtain ⟨hjun, oj', hoj', hall⟩ := mem_ready.1 hj
      obtain rfl : oj = oj' := Option.some.inj (hoj.symm.trans hoj')
      have hnot : ∀ e ∈ oj.after, Region.binds md e = true → e.on ≠ i := fun e he hb heq => by
        have h1 := hall e he hb
        rw [heq, getD_both hun] at h1
        cases h1
      have hap := hfree j oj hoj hji hjun hnot
      obtain ⟨p1, p2, p3⟩ := Oper.apart_spec hap
      have hsi := fun cs b => hsel i oi cs b hi
      have hsj := fun cs b => hsel j oj cs b hoj
      have keep0 : ∀ u, YD (Dq i) F n P ops oi v (a.put oj.dst u) w := fun u =>
        hy.of_same (execOp_put oi hsi a oj.dst u p3) (wanted_put oi a oj.dst u p3) (fun w => about_put oi w a oj.dst u p3)
      have hfree' : ∀ k ok, ops[k]? = some ok → k ≠ i → (listed.setIfInBounds j true).getD k true = false →
          (∀ e ∈ ok.after, Region.binds md e = true → e.on ≠ i) → oi.apart ops ok = true := fun k ok hk hki hun hno => by
        refine hfree k ok hk hki ?_ hno
        by_cases hjk : j = k
        · subst hjk; exact hjun
        · rw [getD_set_ne true hjk] at hun; exact hun
      have hgo : ∀ u w2, YD (Dq i) F n P ops oi v (a.put oj.dst u) w2 → wpAnyE Dq D F n P md ops isQ nn L f ((listed.setIfInBounds i true).setIfInBounds j true) ((a.put oi.dst v).put oj.dst u) w2 → wpAnyE Dq D F n P md ops isQ nn L (f + 1) (listed.setIfInBounds j true) (a.put oj.dst u) w2 := fun u w2 hb hK => by
        refine ih (listed.setIfInBounds j true) _ w2 (inv.set hj hjn) hfree' (ready_mono hr (Ne.symm hji)) hb ?_
        rw [Array.setIfInBounds_comm _ _ hji, ← Act.put_comm a v u p2]
        exact hK
      rcases hcase with ⟨hjk, u, hyj, hK⟩ | ⟨hjk, hm⟩
      · refine ⟨oj, hoj, .inl ⟨hjk, u, ?_, ?_⟩⟩
        · exact hyj.of_same (execOp_put oj hsj a oi.dst v p1).symm (wanted_put oj a oi.dst v p1).symm (fun w => (about_put oj w a oi.dst v p1).symm)
        · exact hgo u w (keep0 u) hK
      · rcases hearly with hD | hE
        · have keep : ∀ u w2, But D w w2 → YD (Dq i) F n P ops oi v (a.put oj.dst u) w2 := fun u w2 x =>
            (keep0 u).later (by rw [hD]; exact x)
          refine ⟨oj, hoj, .inr ⟨hjk, fun w1 hx => ⟨?_, ?_⟩⟩⟩
          · rw [← about_put oj w1 a oi.dst v p1]; exact (hm w1 hx).1
          · have h2 := (hm w1 hx).2
            rw [execOp_put oj hsj a oi.dst v p1, wanted_put oj a oi.dst v p1] at h2
            exact h2.imp (fun ⟨h3, h4⟩ => ⟨h3, doneE_mono (fun u w2 h12 hK => hgo u w2 (keep u w2 (hx.but.trans h12)) hK) h4⟩) (fun ⟨h3, h4⟩ => ⟨h3, hgo undef w1 (keep undef w1 hx.but) h4⟩)
        · obtain ⟨e, he, hb, heq⟩ := hE j oj hoj hjn hjk
          exact absurd heq (hnot e he hb)

/-- The walk in steps: 0: quiet whatever is written; 1: quiet, ahead of every write; 2: the only one ready. -/
def wpSE (D : List Nat) (F : Fence) (n : Nat) (P : Program) (ops : Array Oper) (T : Act → World → Prop) : List (Nat × Nat) → Act → World → Prop
  | [], a, w => T a w
  | (i, 0) :: is, a, w => ∃ o, ops[i]? = some o ∧ ∃ v, YD D F n P ops o v a w ∧ wpSE D F n P ops T is (a.put o.dst v) w
  | (i, 1) :: is, a, w => ∃ o, ops[i]? = some o ∧ ∃ v, YD [] F n P ops o v a w ∧ wpSE D F n P ops T is (a.put o.dst v) w
  | (i, _ + 2) :: is, a, w => ∃ o, ops[i]? = some o ∧ midE D F n P ops o (wpSE D F n P ops T is) a w
def earlyB (md : Region.Mode) (ops : Array Oper) (nn : Nat) (isQ : Nat → Bool) (i : Nat) : Bool :=
  (List.range ops.size).all fun j => isQ j || decide (nn ≤ j) || (match ops[j]? with | some oj => oj.after.any fun e => Region.binds md e && e.on == i | none => true)
def lexE (md : Region.Mode) (ops : Array Oper) (nn : Nat) (isQ : Nat → Bool) : List (Nat × Nat) → Array Bool → Bool
  | [], listed => Region.seqB md ops (ops.size - nn) nn listed
  | (i, 0) :: is, listed => (Region.ready md ops listed).contains i && Region.free md ops listed i && lexE md ops nn isQ is (listed.setIfInBounds i true)
  | (i, 1) :: is, listed => earlyB md ops nn isQ i && (Region.ready md ops listed).contains i && Region.free md ops listed i && lexE md ops nn isQ is (listed.setIfInBounds i true)
  | (i, _ + 2) :: is, listed => decide (Region.ready md ops listed = [i]) && lexE md ops nn isQ is (listed.setIfInBounds i true)
theorem earlyB_spec {nn i : Nat} {isQ : Nat → Bool} (h : earlyB md ops nn isQ i = true) : ∀ j oj, ops[j]? = some oj → j < nn → isQ j = false → ∃ e ∈ oj.after, Region.binds md e = true ∧ e.on = i := by
  intro j oj hj hjn hq
  have hjs := (Array.getElem?_eq_some_iff.1 hj).1
  have := List.all_eq_true.1 h j (List.mem_range.2 hjs)
  rw [hq, decide_eq_false (by omega), hj] at this
  simp only [Bool.false_or, Array.any_eq_true] at this
  obtain ⟨k, hk, he⟩ := this
  simp only [Bool.and_eq_true, beq_iff_eq] at he
  exact ⟨_, Array.getElem_mem hk, he.1, he.2⟩

/-- Which blocks a quiet operation may find changed. -/
def dqOf (D : List Nat) (ss : List (Nat × Nat)) (i : Nat) : List Nat := if ss.contains (i, 1) then [] else D
theorem wpAnyE_steps {Dq : Nat → List Nat} {isQ : Nat → Bool} {nn : Nat} {T : Act → World → Prop} (hsel : Region.noSelect ops = true) (hs : Region.sinkB md ops nn = true) (hc : Region.chainB md ops nn = true) (hn : nn < ops.size) :
    ∀ (ss : List (Nat × Nat)) (listed : Array Bool) (a : Act) (w : World), (∀ s ∈ ss, isQ s.1 = decide (s.2 < 2) ∧ s.1 < nn ∧ Dq s.1 = if s.2 = 1 then [] else D) → HeadInv md ops nn listed →
    lexE md ops nn isQ ss listed = true → wpSE D F n P ops T ss a w →
    wpAnyE Dq D F n P md ops isQ nn (fun listed' a' w' => Region.seqB md ops (ops.size - nn) nn listed' = true ∧ T a' w') ss.length listed a w
  | [], listed, a, w, _, _, hB, h => ⟨hB, h⟩
  | (i, 0) :: is, listed, a, w, hq, inv, hB, h => by
    simp only [lexE, Bool.and_eq_true] at hB
    obtain ⟨⟨hr, hf⟩, hB'⟩ := hB
    obtain ⟨h1, h2, h3⟩ := hq (i, 0) (by simp)
    have hr' : i ∈ Region.ready md ops listed := by simpa using hr
    obtain ⟨o, h0, v, hy, hK⟩ := h
    exact wpAnyE_first (Dq := Dq) (F := F) (n := n) (P := P) (isQ := isQ) (L := fun listed' a' w' => Region.seqB md ops (ops.size - nn) nn listed' = true ∧ T a' w') h0 (Region.noSelect_spec hsel) hs hc hn h2 (by simpa using h1) (fun listed' a' w' hL => seqB_ready hL.1) (.inl (by simpa using h3)) is.length listed a w inv (Region.free_spec h0 hf) hr' (by rw [show Dq i = D by simpa using h3]; exact hy)
      (wpAnyE_steps hsel hs hc hn is _ _ w (fun k hk => hq k (by simp [hk])) (inv.set hr' h2) hB' hK)
  | (i, 1) :: is, listed, a, w, hq, inv, hB, h => by
    simp only [lexE, Bool.and_eq_true] at hB
    obtain ⟨⟨⟨he, hr⟩, hf⟩, hB'⟩ := hB
    obtain ⟨h1, h2, h3⟩ := hq (i, 1) (by simp)
    have hr' : i ∈ Region.ready md ops listed := by simpa using hr
    obtain ⟨o, h0, v, hy, hK⟩ := h
    exact wpAnyE_first (Dq := Dq) (F := F) (n := n) (P := P) (isQ := isQ) (L := fun listed' a' w' => Region.seqB md ops (ops.size - nn) nn listed' = true ∧ T a' w') h0 (Region.noSelect_spec hsel) hs hc hn h2 (by simpa using h1) (fun listed' a' w' hL => seqB_ready hL.1) (.inr (earlyB_spec he)) is.length listed a w inv (Region.free_spec h0 hf) hr' (by rw [show Dq i = [] by simpa using h3]; exact hy)
      (wpAnyE_steps hsel hs hc hn is _ _ w (fun k hk => hq k (by simp [hk])) (inv.set hr' h2) hB' hK)
  | (i, m + 2) :: is, listed, a, w, hq, inv, hB, h => by
    simp only [lexE, Bool.and_eq_true, decide_eq_true_eq] at hB
    have hi : i ∈ Region.ready md ops listed := by rw [hB.1]; simp
    obtain ⟨h1, h2, _⟩ := hq (i, m + 2) (by simp)
    refine ⟨fun h1 => (by rw [hB.1] at h1; cases h1), fun j hj => ?_⟩
    rw [hB.1] at hj
    obtain rfl : j = i := by simpa using hj
    obtain ⟨o, h0, hmid⟩ := h
    exact ⟨h2, o, h0, .inr ⟨h1.trans (decide_eq_false (by omega)), midE_mono (fun a2 w2 _ h3 => wpAnyE_steps hsel hs hc hn is _ a2 w2 (fun k hk => hq k (by simp [hk])) (inv.set hi h2) hB.2 h3) hmid⟩⟩

def stepsE (ops : Array Oper) (nn : Nat) (ss : List (Nat × Nat)) : Bool :=
  Region.noSelect ops && ops.all noDefer && decide (nn < ops.size) && Region.sinkB .any ops nn && Region.chainB .any ops nn && decide (ss.length = nn) &&
    ss.all (fun s => decide (s.1 < nn) && ((ss.contains (s.1, 0) || ss.contains (s.1, 1)) == decide (s.2 < 2)) && (ss.contains (s.1, 1) == decide (s.2 = 1))) && lexE .any ops nn (fun i => ss.contains (i, 0) || ss.contains (i, 1)) ss (Array.replicate ops.size false)

theorem wpIn_region_early {id : Nat} {Q : Exit → Act → World → Prop} {a : Act} {w : World} {l : List Oper} (D : List Nat) (nn : Nat) (ss : List (Nat × Nat)) (hm : P.follows .mixedOrders = true) (hB : stepsE l.toArray nn ss = true)
    (h : wpSE D F n P l.toArray (fun a2 w2 => ∀ w3, Ext w2 w3 → wpListIn F n P l.toArray Q (l.drop nn) a2 w3) ss a w) : (Code.region id l.toArray true).wpIn F n P Q a w := by
  simp only [stepsE, Bool.and_eq_true, decide_eq_true_eq] at hB
  obtain ⟨⟨⟨⟨⟨⟨⟨hsel, hnd⟩, hn⟩, hs⟩, hc⟩, hlen⟩, hqs⟩, hlex⟩ := hB
  have hn' : nn < l.length := by simpa using hn
  have hdl : (l.drop nn).length = l.toArray.size - nn := by simp
  have inv0 : HeadInv .any l.toArray nn (Array.replicate l.toArray.size false) :=
    ⟨by simp, fun j oj _ hl => (by rw [getD_replicate_false] at hl; cases hl), fun t _ ht => getD_in (by simpa using ht) (getD_replicate_false _ _)⟩
  have H := wpAnyE_steps (Dq := dqOf D ss) (F := F) (n := n) (P := P) (md := .any) (isQ := fun i => ss.contains (i, 0) || ss.contains (i, 1)) (nn := nn) hsel hs hc hn ss _ a w (fun s hs' => by
    have := List.all_eq_true.1 hqs s hs'
    simp only [Bool.and_eq_true, decide_eq_true_eq, beq_iff_eq] at this
    refine ⟨this.1.2, this.1.1, ?_⟩
    unfold dqOf
    rw [this.2]
    by_cases e : s.2 = 1 <;> simp [e]) inv0 hlex h
  refine wpIn_region_any hm ?_
  have := wpAnyIn_of_E (F := F) (n := n) (P := P) (Q' := Q) (g := l.toArray.size - nn) hnd (fun listed a' w' w1 hL hx => by
    have := wpAnyIn_of_seq (F := F) (n := n) (P := P) (md := .any) (Q' := Q) (l.drop nn) nn listed a' w1 (fun j => by simp [List.getElem?_drop]) (by rw [hdl]; exact hL.1) (hL.2 w1 hx)
    rwa [hdl] at this) _ _ _ _ { w with drawn := w.drawn + 1 } ((Ext.refl w).drew) H
  rw [hlen, show nn + (l.toArray.size - nn) = l.toArray.size by omega] at this
  exact this

theorem YD_of_pure {w : World} {o : Oper} {a : Act} {K : Act → Prop} (hab : ∀ w3 f, o.about P w3 a.eval = some f → F.fn f)
    (h1 : if Region.wanted o (yielded ops a.tmps) then pureD D F n P o a w K else K (a.put o.dst undef)) : ∃ v, YD D F n P ops o v a w ∧ K (a.put o.dst v) := by
  by_cases hw : Region.wanted o (yielded ops a.tmps) = true
  · rw [if_pos hw] at h1
    obtain ⟨v, h2, h3⟩ := h1
    refine ⟨v, ⟨fun w3 _ => hab w3, .inl ⟨hw, fun w3 x => ?_⟩⟩, h3⟩
    have h4 := h2 ⟨w3, x⟩
    unfold Oper.quietAtIn
    generalize (execOp a.eval o).run P w3 = r at *
    cases r with
    | ok x w' => cases x <;> simp only [pureUD] at h4 <;> simp only [Oper.quietUponIn] <;> first | exact h4 | exact h4.elim
    | halt x w' => simp only [pureUD] at h4
  · rw [if_neg hw] at h1
    exact ⟨undef, ⟨fun w3 _ => hab w3, .inr ⟨by simpa using hw, rfl⟩⟩, h1⟩
theorem wpSE_q {w : World} {T : Act → World → Prop} {i : Nat} {is : List (Nat × Nat)} {o : Oper} {a : Act} (h0 : ops[i]? = some o) (hab : ∀ w3 f, o.about P w3 a.eval = some f → F.fn f)
    (h : ∀ K : Act → Prop, (∀ a, wpSE D F n P ops T is a w → K a) → if Region.wanted o (yielded ops a.tmps) then pureD D F n P o a w K else K (a.put o.dst undef)) : wpSE D F n P ops T ((i, 0) :: is) a w := by
  obtain ⟨v, h1, h2⟩ := YD_of_pure hab (h _ (fun _ h => h))
  exact ⟨o, h0, v, h1, h2⟩
theorem wpSE_e {w : World} {T : Act → World → Prop} {i : Nat} {is : List (Nat × Nat)} {o : Oper} {a : Act} (h0 : ops[i]? = some o) (hab : ∀ w3 f, o.about P w3 a.eval = some f → F.fn f)
    (h : ∀ K : Act → Prop, (∀ a, wpSE D F n P ops T is a w → K a) → if Region.wanted o (yielded ops a.tmps) then pureD [] F n P o a w K else K (a.put o.dst undef)) : wpSE D F n P ops T ((i, 1) :: is) a w := by
  obtain ⟨v, h1, h2⟩ := YD_of_pure hab (h _ (fun _ h => h))
  exact ⟨o, h0, v, h1, h2⟩
theorem wpSE_nil {w : World} {T : Act → World → Prop} {a : Act} (h : T a w) : wpSE D F n P ops T [] a w := h
theorem wpSE_m {w : World} {T : Act → World → Prop} {i : Nat} {is : List (Nat × Nat)} {o : Oper} {a : Act} (h0 : ops[i]? = some o) (hab : ∀ w1 f, o.about P w1 a.eval = some f → F.fn f)
    (h : ∀ (δ : BExt w) (K : Act → World → Prop), (∀ a w2, wpSE D F n P ops T is a w2 → K a w2) → if Region.wanted o (yielded ops a.tmps) then nextE D F n P o a δ.wd K else K (a.put o.dst undef) δ.wd) : wpSE D F n P ops T ((i, 2) :: is) a w := by
  refine ⟨o, h0, fun w1 x => ⟨hab w1, ?_⟩⟩
  have h1 := h ⟨w1, x.bel⟩ _ (fun _ _ h => h)
  by_cases hw : Region.wanted o (yielded ops a.tmps) = true
  · rw [if_pos hw] at h1
    exact .inl ⟨hw, h1⟩
  · rw [if_neg hw] at h1
    exact .inr ⟨by simpa using hw, h1⟩
end
attribute [go_sem] nextE doneE
end Go.Proofs.Ytkjgcmdabelohaa
