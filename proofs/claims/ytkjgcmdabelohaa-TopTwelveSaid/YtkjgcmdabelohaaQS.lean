/- A region that draws its order, walked in steps: an operation that only reads or calls quietly is taken where it is ready; any other where nothing else is. Condition: no defer statement in it. -/
import Derived.Test.YtkjgcmdabelohaaQTail
import Derived.Test.YtkjgcmdabelohaaAcc
namespace Go.Proofs.Ytkjgcmdabelohaa
section
/- QD: A region that draws its order: operations that only read or call quietly come first, in the order of the text; those of a second list follow, one after the other, and may write the blocks of D; what waits for all of them stands behind. Condition: no defer statement in it. -/
open Go.RowKit

theorem But.trans {D : List Nat} {a b c : World} (h : But D a b) (k : But D b c) : But D a c :=
  ⟨k.os.trans h.os, k.tape.trans h.tape, k.output.trans h.output, Nat.le_trans h.size k.size, fun i hi hd => (k.block i (Nat.lt_of_lt_of_le hi h.size) hd).trans (h.block i hi hd)⟩
theorem Ext.but {D : List Nat} {a b : World} (x : Ext a b) : But D a b := (But.refl D a).ext x
theorem But.frozen {D : List Nat} {w a : World} (h : But D w a) {b o : Nat} {v : Value} {c : Bool} (hc : w.cell? ⟨b, o, none⟩ = some v) (hf : w.frozen? ⟨b, o, none⟩ = c) (hd : b ∉ D) : a.frozen? ⟨b, o, none⟩ = c := by
  rw [← hf]
  have := h.block b (cell_lt hc) hd
  simp [World.frozen?, this]

/-- A world in which all blocks of w but those of D lie as they lay. -/
structure BBut (D : List Nat) (w : World) where
  wd : World
  but : But D w wd
instance BBut.some_ (D : List Nat) (w : World) : Nonempty (BBut D w) := ⟨⟨w, But.refl _ _⟩⟩

section
variable {F : Fence} {n : Nat} {P : Program} {ops : Array Oper} {md : Region.Mode} {D : List Nat}

/-- In every world that is w but for D, the operation leaves v, and a world that lies upon that one. -/
def YD (D : List Nat) (F : Fence) (n : Nat) (P : Program) (ops : Array Oper) (o : Oper) (v : Value) (a : Act) (w : World) : Prop :=
  (∀ w3, But D w w3 → ∀ f, o.about P w3 a.eval = some f → F.fn f) ∧
  ((Region.wanted o (yielded ops a.tmps) = true ∧ ∀ w3, But D w w3 → o.quietAtIn F n P a (Ext w3) w3 v) ∨ (Region.wanted o (yielded ops a.tmps) = false ∧ v = undef))
theorem YD.later {o : Oper} {v : Value} {a : Act} {w w2 : World} (h : YD D F n P ops o v a w) (x : But D w w2) : YD D F n P ops o v a w2 :=
  ⟨fun w3 h3 => h.1 w3 (x.trans h3), h.2.imp (fun h => ⟨h.1, fun w3 h3 => h.2 w3 (x.trans h3)⟩) id⟩
theorem YD.of_same {o : Oper} {v : Value} {a a' : Act} {w : World} (hy : YD D F n P ops o v a w) (he : execOp a'.eval o = execOp a.eval o)
    (hw : Region.wanted o (yielded ops a'.tmps) = Region.wanted o (yielded ops a.tmps)) (hb : ∀ w, o.about P w a'.eval = o.about P w a.eval) : YD D F n P ops o v a' w := by
  unfold YD Oper.quietAtIn at *
  rw [he, hw]
  exact ⟨fun w hc f hf => hy.1 w hc f (by rw [← hb w]; exact hf), hy.2⟩

/-- What the operation leaves: a value, or a call's; all but D lies. -/
def doneD (D : List Nat) (F : Fence) (n : Nat) (P : Program) (w1 : World) (K : Value → World → Prop) : Result Next → Prop
  | .ok (.value v) w2 => But D w1 w2 ∧ K v w2
  | .ok (.enter f args) w2 => w2 = w1 ∧ (F.depth.isSome = true → 1 ≤ n) ∧ CallsIn F (n - 1) P f args w1 (fun e w3 => ∃ v, e = .returned v ∧ But D w1 w3 ∧ K v w3)
  | _ => False
theorem doneD_mono {w1 : World} {K K' : Value → World → Prop} (h : ∀ v w, But D w1 w → K v w → K' v w) : ∀ {r : Result Next}, doneD D F n P w1 K r → doneD D F n P w1 K' r
  | .ok (.value _) _, h1 => ⟨h1.1, h _ _ h1.1 h1.2⟩
  | .ok (.enter _ _) _, h1 => ⟨h1.1, h1.2.1, h1.2.2.mono fun _ _ ⟨v, h2, h3, h4⟩ => ⟨v, h2, h3, h _ _ h3 h4⟩⟩
  | .ok .skip _, h1 => h1.elim
  | .halt _ _, h1 => h1.elim
def midD (D : List Nat) (F : Fence) (n : Nat) (P : Program) (ops : Array Oper) (o : Oper) (K : Act → World → Prop) (a : Act) (w : World) : Prop :=
  ∀ w1, Ext w w1 → (∀ f, o.about P w1 a.eval = some f → F.fn f) ∧
    ((Region.wanted o (yielded ops a.tmps) = true ∧ doneD D F n P w1 (fun v w2 => K (a.put o.dst v) w2) ((execOp a.eval o).run P w1)) ∨
     (Region.wanted o (yielded ops a.tmps) = false ∧ K (a.put o.dst undef) w1))
theorem midD_mono {o : Oper} {a : Act} {w : World} {K K' : Act → World → Prop} (h : ∀ a w2, But D w w2 → K a w2 → K' a w2) (hm : midD D F n P ops o K a w) : midD D F n P ops o K' a w :=
  fun w1 hx => ⟨(hm w1 hx).1, (hm w1 hx).2.imp (fun ⟨h1, h2⟩ => ⟨h1, doneD_mono (fun _ _ hb hK => h _ _ (hx.but.trans hb) hK) h2⟩) (fun ⟨h1, h2⟩ => ⟨h1, h _ _ hx.but h2⟩)⟩

def wpAnyD (D : List Nat) (F : Fence) (n : Nat) (P : Program) (md : Region.Mode) (ops : Array Oper) (isQ : Nat → Bool) (nn : Nat) (L : Array Bool → Act → World → Prop) : Nat → Array Bool → Act → World → Prop
  | 0, listed, a, w => L listed a w
  | f + 1, listed, a, w =>
    Region.ready md ops listed ≠ [] ∧ ∀ i ∈ Region.ready md ops listed, i < nn ∧ ∃ o, ops[i]? = some o ∧
      ((isQ i = true ∧ ∃ v, YD D F n P ops o v a w ∧ wpAnyD D F n P md ops isQ nn L f (listed.setIfInBounds i true) (a.put o.dst v) w) ∨
       (isQ i = false ∧ midD D F n P ops o (wpAnyD D F n P md ops isQ nn L f (listed.setIfInBounds i true)) a w))

theorem wpOpIn_of_YD {i : Nat} {o : Oper} {v : Value} {a : Act} {w w1 : World} {K' : Act → World → Prop} {Q' : Exit → Act → World → Prop} (hi : ops[i]? = some o) (hnd : noDefer o = true) (hx : But D w w1) (hy : YD D F n P ops o v a w)
    (h : ∀ w2, Ext w1 w2 → K' (a.put o.dst v) w2) : wpOpIn F n P ops Q' i K' a w1 := by
  unfold wpOpIn
  simp only [hi]
  rcases hy.2 with ⟨hw, hq⟩ | ⟨hw, rfl⟩
  · simp only [hw, if_true]
    have h3 := hq w1 hx
    unfold Oper.quietAtIn at h3
    unfold Oper.wpIn
    refine ⟨hy.1 w1 hx, ?_⟩
    rw [semAt_any hnd]
    generalize (execOp a.eval o).run P w1 = r at *
    cases r with
    | ok x w' =>
      cases x <;> simp only [Oper.quietUponIn] at h3 <;> simp only [Oper.uponIn]
      case value u =>
        obtain ⟨e1, e2⟩ := h3
        rw [e1, e2]
        exact h _ (Ext.refl _)
      case skip =>
        obtain ⟨e1, e2⟩ := h3
        rw [e1, ← e2]
        exact h _ (Ext.refl _)
      case enter f args =>
        obtain ⟨e1, hd, hc⟩ := h3
        rw [e1]
        exact ⟨hd, hc.mono fun e w'' ⟨he, hw''⟩ => by subst he; exact h _ hw''⟩
    | halt x w' => simp only [Oper.quietUponIn] at h3
  · simp only [hw, Bool.false_eq_true, if_false]
    exact ⟨hy.1 w1 hx, h _ (Ext.refl _)⟩
theorem wpOpIn_of_midD {i : Nat} {o : Oper} {a : Act} {w w1 : World} {K : Act → World → Prop} {Q' : Exit → Act → World → Prop} (hi : ops[i]? = some o) (hnd : noDefer o = true) (hx : Ext w w1) (hm : midD D F n P ops o K a w) :
    wpOpIn F n P ops Q' i (fun a2 w2 => But D w1 w2 ∧ K a2 w2) a w1 := by
  unfold wpOpIn
  simp only [hi]
  obtain ⟨hab, hr⟩ := hm w1 hx
  rcases hr with ⟨hw, hr⟩ | ⟨hw, hr⟩
  · simp only [hw, if_true]
    unfold Oper.wpIn
    refine ⟨hab, ?_⟩
    rw [semAt_any hnd]
    generalize (execOp a.eval o).run P w1 = r at *
    cases r with
    | ok x w' =>
      cases x <;> simp only [doneD] at hr <;> simp only [Oper.uponIn]
      case value v => exact hr
      case enter f args =>
        obtain ⟨e1, hd, hc⟩ := hr
        rw [e1]
        exact ⟨hd, hc.mono fun e w'' ⟨v, he, hb, hK⟩ => by subst he; exact ⟨hb, hK⟩⟩
    | halt x w' => simp only [doneD] at hr
  · simp only [hw, Bool.false_eq_true, if_false]
    exact ⟨hab, But.refl _ _, hr⟩

theorem wpAnyIn_of_D {isQ : Nat → Bool} {nn g : Nat} {L : Array Bool → Act → World → Prop} {Q' : Exit → Act → World → Prop} (hnd : ops.all noDefer = true) (hL : ∀ listed a w w1, L listed a w → Ext w w1 → wpAnyIn F n P md ops Q' g listed a w1) :
    ∀ (f : Nat) (listed : Array Bool) (a : Act) (w w1 : World), Ext w w1 → wpAnyD D F n P md ops isQ nn L f listed a w → wpAnyIn F n P md ops Q' (f + g) listed a w1
  | 0, listed, a, w, w1, hx, h => by rw [Nat.zero_add]; exact hL _ _ _ _ h hx
  | f + 1, listed, a, w, w1, hx, h => by
    rw [show f + 1 + g = (f + g) + 1 by omega]
    refine ⟨fun h0 => absurd h0 h.1, fun i hi => ?_⟩
    obtain ⟨_, o, ho, hc⟩ := h.2 i hi
    have hnd' : noDefer o = true := by
      obtain ⟨hi, rfl⟩ := Array.getElem?_eq_some_iff.1 ho
      exact Array.all_eq_true.1 hnd i hi
    rcases hc with ⟨_, v, hy, hK⟩ | ⟨_, hm⟩
    · exact wpOpIn_of_YD ho hnd' hx.but hy fun w2 h2 => wpAnyIn_of_D hnd hL f _ _ _ _ (hx.trans h2) hK
    · exact wpOpIn_mono (fun a' w' h' => wpAnyIn_of_D hnd hL f _ a' w' w' (Ext.refl _) h'.2) (wpOpIn_of_midD ho hnd' hx hm)

theorem wpAnyD_first {isQ : Nat → Bool} {nn i : Nat} {oi : Oper} {v : Value} {L : Array Bool → Act → World → Prop} (hi : ops[i]? = some oi) (hsel : ∀ (j : Nat) (o : Oper) cs b, ops[j]? = some o → o.op ≠ .select cs b)
    (hs : Region.sinkB md ops nn = true) (hc : Region.chainB md ops nn = true) (hn : nn < ops.size) (hin : i < nn) (hik : isQ i = true)
    (hdone : ∀ listed a w, L listed a w → ∀ j ∈ Region.ready md ops listed, nn ≤ j) :
    ∀ (f : Nat) (listed : Array Bool) (a : Act) (w : World), HeadInv md ops nn listed →
      (∀ j oj, ops[j]? = some oj → j ≠ i → listed.getD j true = false → (∀ e ∈ oj.after, Region.binds md e = true → e.on ≠ i) → oi.apart ops oj = true) →
      i ∈ Region.ready md ops listed → YD D F n P ops oi v a w →
      wpAnyD D F n P md ops isQ nn L f (listed.setIfInBounds i true) (a.put oi.dst v) w → wpAnyD D F n P md ops isQ nn L (f + 1) listed a w := by
  intro f
  induction f with
  | zero =>
    intro listed a w inv _ hr hy H
    have hun := (mem_ready.1 hr).1
    refine ⟨fun h => (by rw [h] at hr; cases hr), fun j hj => ?_⟩
    have hjn : j < nn := by
      rcases Nat.lt_or_ge j nn with h | h
      · exact h
      · exact absurd hj (tail_waits hs hc hn inv _ i rfl hin hun j h)
    refine ⟨hjn, ?_⟩
    by_cases hji : j = i
    · subst hji; exact ⟨oi, hi, .inl ⟨hik, v, hy, H⟩⟩
    · have := hdone _ _ _ H j (ready_mono hj hji)
      omega
  | succ f ih =>
    intro listed a w inv hfree hr hy H
    have hun := (mem_ready.1 hr).1
    refine ⟨fun h => (by rw [h] at hr; cases hr), fun j hj => ?_⟩
    have hjn : j < nn := by
      rcases Nat.lt_or_ge j nn with h | h
      · exact h
      · exact absurd hj (tail_waits hs hc hn inv _ i rfl hin hun j h)
    refine ⟨hjn, ?_⟩
    by_cases hji : j = i
    · subst hji; exact ⟨oi, hi, .inl ⟨hik, v, hy, H⟩⟩
    · obtain ⟨_, oj, hoj, hcase⟩ := H.2 j (ready_mono hj hji)
      obtain ⟨hjun, oj', hoj', hall⟩ := mem_ready.1 hj
      obtain rfl : oj = oj' := Option.some.inj (hoj.symm.trans hoj')
      have hnot : ∀ e ∈ oj.after, Region.binds md e = true → e.on ≠ i := fun e he hb heq => by
        have h1 := hall e he hb
        rw [heq, getD_both hun] at h1
        cases h1
      have hap := hfree j oj hoj hji hjun hnot
      obtain ⟨p1, p2, p3⟩ := Oper.apart_spec hap
      have hsi := fun cs b => hsel i oi cs b hi
      have hsj := fun cs b => hsel j oj cs b hoj
      have keep : ∀ u w2, But D w w2 → YD D F n P ops oi v (a.put oj.dst u) w2 := fun u w2 x =>
        (hy.later x).of_same (execOp_put oi hsi a oj.dst u p3) (wanted_put oi a oj.dst u p3) (fun w => about_put oi w a oj.dst u p3)
      have hfree' : ∀ k ok, ops[k]? = some ok → k ≠ i → (listed.setIfInBounds j true).getD k true = false →
          (∀ e ∈ ok.after, Region.binds md e = true → e.on ≠ i) → oi.apart ops ok = true := fun k ok hk hki hun hno => by
        refine hfree k ok hk hki ?_ hno
        by_cases hjk : j = k
        · subst hjk; exact hjun
        · rw [getD_set_ne true hjk] at hun; exact hun
      have hgo : ∀ u w2, But D w w2 → wpAnyD D F n P md ops isQ nn L f ((listed.setIfInBounds i true).setIfInBounds j true) ((a.put oi.dst v).put oj.dst u) w2 → wpAnyD D F n P md ops isQ nn L (f + 1) (listed.setIfInBounds j true) (a.put oj.dst u) w2 := fun u w2 hb hK => by
        refine ih (listed.setIfInBounds j true) _ w2 (inv.set hj hjn) hfree' (ready_mono hr (Ne.symm hji)) (keep u w2 hb) ?_
        rw [Array.setIfInBounds_comm _ _ hji, ← Act.put_comm a v u p2]
        exact hK
      refine ⟨oj, hoj, hcase.imp (fun ⟨hjk, u, hyj, hK⟩ => ⟨hjk, u, ?_, ?_⟩) (fun ⟨hjk, hm⟩ => ⟨hjk, fun w1 hx => ⟨?_, ?_⟩⟩)⟩
      · exact hyj.of_same (execOp_put oj hsj a oi.dst v p1).symm (wanted_put oj a oi.dst v p1).symm (fun w => (about_put oj w a oi.dst v p1).symm)
      · exact hgo u w (But.refl _ _) hK
      · rw [← about_put oj w1 a oi.dst v p1]; exact (hm w1 hx).1
      · have h2 := (hm w1 hx).2
        rw [execOp_put oj hsj a oi.dst v p1, wanted_put oj a oi.dst v p1] at h2
        exact h2.imp (fun ⟨h3, h4⟩ => ⟨h3, doneD_mono (fun u w2 h12 hK => hgo u w2 (hx.but.trans h12) hK) h4⟩) (fun ⟨h3, h4⟩ => ⟨h3, hgo undef w1 hx.but h4⟩)

/-- The walk of the quiet operations, and of the others, by their numbers. -/
def wpQD (D : List Nat) (F : Fence) (n : Nat) (P : Program) (ops : Array Oper) (w : World) (Q : Act → Prop) : List Nat → Act → Prop
  | [], a => Q a
  | i :: is, a => ∃ o, ops[i]? = some o ∧ ∃ v, YD D F n P ops o v a w ∧ wpQD D F n P ops w Q is (a.put o.dst v)
def wpMD (D : List Nat) (F : Fence) (n : Nat) (P : Program) (ops : Array Oper) (Q : Act → World → Prop) : List Nat → Act → World → Prop
  | [], a, w => Q a w
  | i :: is, a, w => ∃ o, ops[i]? = some o ∧ midD D F n P ops o (wpMD D F n P ops Q is) a w

theorem wpAnyD_mid {isQ : Nat → Bool} {nn : Nat} {T : Act → World → Prop} : ∀ (ms : List Nat) (listed : Array Bool) (a : Act) (w : World), (∀ i ∈ ms, isQ i = false ∧ i < nn) →
    seqM md ops nn ms listed = true → wpMD D F n P ops T ms a w →
    wpAnyD D F n P md ops isQ nn (fun listed' a' w' => Region.seqB md ops (ops.size - nn) nn listed' = true ∧ T a' w') ms.length listed a w
  | [], listed, a, w, _, hB, h => ⟨hB, h⟩
  | i :: is, listed, a, w, hm, hB, h => by
    simp only [seqM, Bool.and_eq_true, decide_eq_true_eq] at hB
    refine ⟨fun h1 => (by rw [hB.1] at h1; cases h1), fun j hj => ?_⟩
    rw [hB.1] at hj
    obtain rfl : j = i := by simpa using hj
    obtain ⟨o, h0, hmid⟩ := h
    obtain ⟨h1, h2⟩ := hm j (by simp)
    exact ⟨h2, o, h0, .inr ⟨h1, midD_mono (fun a2 w2 _ h2 => wpAnyD_mid is _ a2 w2 (fun k hk => hm k (by simp [hk])) hB.2 h2) hmid⟩⟩

theorem wpAnyD_lex {isQ : Nat → Bool} {nn : Nat} {T : Act → World → Prop} (ms : List Nat) (hms : ∀ i ∈ ms, isQ i = false ∧ i < nn) (hsel : Region.noSelect ops = true) (hs : Region.sinkB md ops nn = true) (hc : Region.chainB md ops nn = true) (hn : nn < ops.size) :
    ∀ (qs : List Nat) (listed : Array Bool) (a : Act) (w : World), (∀ i ∈ qs, isQ i = true ∧ i < nn) → HeadInv md ops nn listed →
    lexQ md ops nn ms qs listed = true → wpQD D F n P ops w (fun a' => wpMD D F n P ops T ms a' w) qs a →
    wpAnyD D F n P md ops isQ nn (fun listed' a' w' => Region.seqB md ops (ops.size - nn) nn listed' = true ∧ T a' w') (qs.length + ms.length) listed a w
  | [], listed, a, w, _, _, hB, h => by
    have := wpAnyD_mid (F := F) (n := n) (md := md) (isQ := isQ) (T := T) ms listed a w hms hB h
    simpa using this
  | i :: is, listed, a, w, hq, inv, hB, h => by
    simp only [lexQ, Bool.and_eq_true] at hB
    obtain ⟨⟨hr, hf⟩, hB'⟩ := hB
    obtain ⟨h1, h2⟩ := hq i (by simp)
    have hr' : i ∈ Region.ready md ops listed := by simpa using hr
    obtain ⟨o, h0, v, hy, hK⟩ := h
    have := wpAnyD_first (F := F) (n := n) (P := P) (isQ := isQ) (L := fun listed' a' w' => Region.seqB md ops (ops.size - nn) nn listed' = true ∧ T a' w') h0 (Region.noSelect_spec hsel) hs hc hn h2 h1 (fun listed' a' w' hL => seqB_ready hL.1) (is.length + ms.length) listed a w inv (Region.free_spec h0 hf) hr' hy
      (wpAnyD_lex ms hms hsel hs hc hn is _ _ w (fun k hk => hq k (by simp [hk])) (inv.set hr' h2) hB' hK)
    rw [List.length_cons, show is.length + 1 + ms.length = is.length + ms.length + 1 by omega]
    exact this

/-- The operations qs only read or call quietly; those of ms follow one after the other, and write no block of w but those of D; the others stand behind all of them, one after the other. -/
theorem wpIn_region_pull {id : Nat} {Q : Exit → Act → World → Prop} {a : Act} {w : World} {l : List Oper} (D : List Nat) (nn : Nat) (qs ms : List Nat) (hm : P.follows .mixedOrders = true) (hB : qmtB l.toArray nn qs ms = true)
    (h : wpQD D F n P l.toArray w (fun a' => wpMD D F n P l.toArray (fun a2 w2 => ∀ w3, Ext w2 w3 → wpListIn F n P l.toArray Q (l.drop nn) a2 w3) ms a' w) qs a) : (Code.region id l.toArray true).wpIn F n P Q a w := by
  simp only [qmtB, Bool.and_eq_true, decide_eq_true_eq] at hB
  obtain ⟨⟨⟨⟨⟨⟨⟨⟨hsel, hnd⟩, hn⟩, hs⟩, hc⟩, hlen⟩, hqs⟩, hms⟩, hlex⟩ := hB
  have hn' : nn < l.length := by simpa using hn
  have hdl : (l.drop nn).length = l.toArray.size - nn := by simp
  have inv0 : HeadInv .any l.toArray nn (Array.replicate l.toArray.size false) :=
    ⟨by simp, fun j oj _ hl => (by rw [getD_replicate_false] at hl; cases hl), fun t _ ht => getD_in (by simpa using ht) (getD_replicate_false _ _)⟩
  have H := wpAnyD_lex (F := F) (n := n) (P := P) (md := .any) (isQ := fun i => qs.contains i) (nn := nn) ms (fun i hi => by
    have := List.all_eq_true.1 hms i hi
    simp only [Bool.and_eq_true, decide_eq_true_eq, Bool.not_eq_true'] at this
    exact ⟨this.2, this.1⟩) hsel hs hc hn qs _ a w (fun i hi => ⟨by simpa using hi, by simpa using List.all_eq_true.1 hqs i hi⟩) inv0 hlex h
  refine wpIn_region_any hm ?_
  have := wpAnyIn_of_D (F := F) (n := n) (P := P) (Q' := Q) (g := l.toArray.size - nn) hnd (fun listed a' w' w1 hL hx => by
    have := wpAnyIn_of_seq (F := F) (n := n) (P := P) (md := .any) (Q' := Q) (l.drop nn) nn listed a' w1 (fun j => by simp [List.getElem?_drop]) (by rw [hdl]; exact hL.1) (hL.2 w1 hx)
    rwa [hdl] at this) _ _ _ _ { w with drawn := w.drawn + 1 } ((Ext.refl w).drew) H
  rw [hlen, show nn + (l.toArray.size - nn) = l.toArray.size by omega] at this
  exact this

/-- One quiet operation of the walk. -/
def pureUD (F : Fence) (n : Nat) (P : Program) (w : World) (v : Value) : Result Next → Prop
  | .ok (.value u) w' => w' = w ∧ u = v
  | .ok .skip w' => w' = w ∧ v = undef
  | .ok (.enter f args) w' => w' = w ∧ (F.depth.isSome = true → 1 ≤ n) ∧ CallsIn F (n - 1) P f args w (fun e w'' => e = .returned v ∧ Ext w w'')
  | _ => False
def pureD (D : List Nat) (F : Fence) (n : Nat) (P : Program) (o : Oper) (a : Act) (w : World) (K : Act → Prop) : Prop := ∃ v, (∀ δ : BBut D w, pureUD F n P δ.wd v ((execOp a.eval o).run P δ.wd)) ∧ K (a.put o.dst v)
theorem wpQD_step {w : World} {Q : Act → Prop} {i : Nat} {is : List Nat} {o : Oper} {a : Act} (h0 : ops[i]? = some o) (hab : ∀ w3 f, o.about P w3 a.eval = some f → F.fn f)
    (h : ∀ K : Act → Prop, (∀ a, wpQD D F n P ops w Q is a → K a) → if Region.wanted o (yielded ops a.tmps) then pureD D F n P o a w K else K (a.put o.dst undef)) : wpQD D F n P ops w Q (i :: is) a := by
  have h1 := h _ (fun _ h => h)
  by_cases hw : Region.wanted o (yielded ops a.tmps) = true
  · rw [if_pos hw] at h1
    obtain ⟨v, h2, h3⟩ := h1
    refine ⟨o, h0, v, ⟨fun w3 _ => hab w3, .inl ⟨hw, fun w3 x => ?_⟩⟩, h3⟩
    have h4 := h2 ⟨w3, x⟩
    unfold Oper.quietAtIn
    generalize (execOp a.eval o).run P w3 = r at *
    cases r with
    | ok x w' => cases x <;> simp only [pureUD] at h4 <;> simp only [Oper.quietUponIn] <;> first | exact h4 | exact h4.elim
    | halt x w' => simp only [pureUD] at h4
  · rw [if_neg hw] at h1
    exact ⟨o, h0, undef, ⟨fun w3 _ => hab w3, .inr ⟨by simpa using hw, rfl⟩⟩, h1⟩
theorem wpQD_nil {w : World} {Q : Act → Prop} {a : Act} (h : Q a) : wpQD D F n P ops w Q [] a := h
theorem wpMD_nil {w : World} {Q : Act → World → Prop} {a : Act} (h : Q a w) : wpMD D F n P ops Q [] a w := h

/-- One of the others. -/
def nextD (D : List Nat) (F : Fence) (n : Nat) (P : Program) (o : Oper) (a : Act) (w : World) (K : Act → World → Prop) : Prop := doneD D F n P w (fun v w2 => K (a.put o.dst v) w2) ((execOp a.eval o).run P w)
theorem wpMD_step {w : World} {Q : Act → World → Prop} {i : Nat} {is : List Nat} {o : Oper} {a : Act} (h0 : ops[i]? = some o) (hab : ∀ w1 f, o.about P w1 a.eval = some f → F.fn f)
    (h : ∀ (δ : BExt w) (K : Act → World → Prop), (∀ a w2, wpMD D F n P ops Q is a w2 → K a w2) → if Region.wanted o (yielded ops a.tmps) then nextD D F n P o a δ.wd K else K (a.put o.dst undef) δ.wd) : wpMD D F n P ops Q (i :: is) a w := by
  refine ⟨o, h0, fun w1 x => ⟨hab w1, ?_⟩⟩
  have h1 := h ⟨w1, x.bel⟩ _ (fun _ _ h => h)
  by_cases hw : Region.wanted o (yielded ops a.tmps) = true
  · rw [if_pos hw] at h1
    exact .inl ⟨hw, h1⟩
  · rw [if_neg hw] at h1
    exact .inr ⟨by simpa using hw, h1⟩
/-- One that is taken, by what its run leaves. -/
theorem wpMD_run {w : World} {Q : Act → World → Prop} {i : Nat} {is : List Nat} {o : Oper} {a : Act} (h0 : ops[i]? = some o) (hg : o.guard = none) (hab : ∀ w1, o.about P w1 a.eval = none)
    (h : ∀ w1, Ext w w1 → ∃ v w2, (execOp a.eval o).run P w1 = .ok (.value v) w2 ∧ But D w1 w2 ∧ wpMD D F n P ops Q is (a.put o.dst v) w2) : wpMD D F n P ops Q (i :: is) a w := by
  refine ⟨o, h0, fun w1 x => ⟨(fun f hf => by rw [hab w1] at hf; cases hf), .inl ⟨by simp [Region.wanted, hg], ?_⟩⟩⟩
  obtain ⟨v, w2, hr, hb, hK⟩ := h w1 x
  rw [hr]
  exact ⟨hb, hK⟩
end
attribute [go_sem] pureD pureUD nextD doneD

theorem But.cells {D : List Nat} {w : World} {b o : Nat} {v : Value} (hc : w.cell? ⟨b, o, none⟩ = some v) (hd : b ∉ D) (δ : BBut D w) : δ.wd.cell? ⟨b, o, none⟩ = some v := δ.but.cell hc hd
theorem notin_none {b : Nat} : b ∉ (none : Option Nat).toList := by simp
theorem notin_own {b : Nat} {r : Option Nat} (h : ∀ g, r = some g → b ≠ g) : b ∉ r.toList := by
  cases r with
  | none => simp
  | some g => simpa using h g rfl

section
variable {α : Type} {K : EK α} {F : Fence} {n : Nat}
/-- An append of one element among them. -/
theorem EK.app_mid {w : World} {ops : Array Oper} {Q : Act → World → Prop} {i : Nat} {is : List Nat} {o : Oper} {a : Act} (h0 : ops[i]? = some o) (hgd : o.guard = none) (s x : Operand)
    (ho : o.op = .call { callee := .builtin .append, args := #[s, x], argTypes := #[K.st, K.st] })
    {B : Nat} {v : Value} {xs : List α} (b c : Nat) (y : α) (hs : a.eval s = v) (hx : a.eval x = .slice (some ⟨b, 0, none⟩) 1 c)
    (hcell : ∀ i u, (K.enc y)[i]? = some u → w.cell? ⟨b, i, none⟩ = some u) (hown : K.Own B w v xs) (hB : B ≤ w.heap.size) (hlen : xs.length ≤ 1000000000)
    (h : ∀ v' w1 w2, K.Own B w2 v' (xs ++ [y]) → Ext w w1 → w1.grownBy w2 v.ownBlock → wpMD v.ownBlock.toList F n Try.prog ops Q is (a.put o.dst v') w2) : wpMD v.ownBlock.toList F n Try.prog ops Q (i :: is) a w := by
  refine wpMD_run h0 hgd (fun _ => by simp [Oper.about, ho, resolve, Target.leads, Sem.run_pure]) fun w1 X => ?_
  obtain ⟨i0, hi, hz0, hz1, hz2⟩ := info_parts K.info
  have hsm := K.small
  obtain ⟨v', w2, hrun, r1, r2, _⟩ := run_append_own (P := Try.prog) w1 B K.st o.type K.ty i0 K.z K.k K.bytes K.und hi hz0 hz1 hz2 K.hzs K.pos v _ _ (hown.ext X) ⟨b, 0, none⟩ 1 c (K.enc y) (by rw [K.len, Nat.one_mul]) (fun j u hj => by
    have := X.cell_some (hcell j u hj)
    simp only [Addr.add]
    split
    · rename_i h0; subst h0; exact this
    · simpa using this) (K.one y) (by simp only [maxLen]; omega) (Nat.le_trans (Nat.mul_le_mul (show xs.length + 1 ≤ 1000000001 by omega) hsm) (by decide)) (Nat.le_trans hB X.bel.size)
  refine ⟨v', w2, ?_, (But.refl _ w1).grown r2 (fun r e => .inl (by rw [e]; simp)), h v' w1 w2 (by simpa [EK.Own] using r1) X r2⟩
  simp [execOp, ho, resolve, invoke, builtin, hs, hx, hrun, Result.andThen]
end
end
open Go.RowKit

section
variable {F : Fence} {n : Nat} {P : Program} {ops : Array Oper} {md : Region.Mode} {D : List Nat}

/-- The walk in steps: true: quiet. -/
def wpSD (D : List Nat) (F : Fence) (n : Nat) (P : Program) (ops : Array Oper) (T : Act → World → Prop) : List (Nat × Bool) → Act → World → Prop
  | [], a, w => T a w
  | (i, true) :: is, a, w => ∃ o, ops[i]? = some o ∧ ∃ v, YD D F n P ops o v a w ∧ wpSD D F n P ops T is (a.put o.dst v) w
  | (i, false) :: is, a, w => ∃ o, ops[i]? = some o ∧ midD D F n P ops o (wpSD D F n P ops T is) a w
def lexS (md : Region.Mode) (ops : Array Oper) (nn : Nat) : List (Nat × Bool) → Array Bool → Bool
  | [], listed => Region.seqB md ops (ops.size - nn) nn listed
  | (i, true) :: is, listed => (Region.ready md ops listed).contains i && Region.free md ops listed i && lexS md ops nn is (listed.setIfInBounds i true)
  | (i, false) :: is, listed => decide (Region.ready md ops listed = [i]) && lexS md ops nn is (listed.setIfInBounds i true)

theorem wpAnyD_steps {isQ : Nat → Bool} {nn : Nat} {T : Act → World → Prop} (hsel : Region.noSelect ops = true) (hs : Region.sinkB md ops nn = true) (hc : Region.chainB md ops nn = true) (hn : nn < ops.size) :
    ∀ (ss : List (Nat × Bool)) (listed : Array Bool) (a : Act) (w : World), (∀ s ∈ ss, isQ s.1 = s.2 ∧ s.1 < nn) → HeadInv md ops nn listed →
    lexS md ops nn ss listed = true → wpSD D F n P ops T ss a w →
    wpAnyD D F n P md ops isQ nn (fun listed' a' w' => Region.seqB md ops (ops.size - nn) nn listed' = true ∧ T a' w') ss.length listed a w
  | [], listed, a, w, _, _, hB, h => ⟨hB, h⟩
  | (i, true) :: is, listed, a, w, hq, inv, hB, h => by
    simp only [lexS, Bool.and_eq_true] at hB
    obtain ⟨⟨hr, hf⟩, hB'⟩ := hB
    obtain ⟨h1, h2⟩ := hq (i, true) (by simp)
    have hr' : i ∈ Region.ready md ops listed := by simpa using hr
    obtain ⟨o, h0, v, hy, hK⟩ := h
    exact wpAnyD_first (F := F) (n := n) (P := P) (isQ := isQ) (L := fun listed' a' w' => Region.seqB md ops (ops.size - nn) nn listed' = true ∧ T a' w') h0 (Region.noSelect_spec hsel) hs hc hn h2 h1 (fun listed' a' w' hL => seqB_ready hL.1) is.length listed a w inv (Region.free_spec h0 hf) hr' hy
      (wpAnyD_steps hsel hs hc hn is _ _ w (fun k hk => hq k (by simp [hk])) (inv.set hr' h2) hB' hK)
  | (i, false) :: is, listed, a, w, hq, inv, hB, h => by
    simp only [lexS, Bool.and_eq_true, decide_eq_true_eq] at hB
    have hi : i ∈ Region.ready md ops listed := by rw [hB.1]; simp
    obtain ⟨h1, h2⟩ := hq (i, false) (by simp)
    refine ⟨fun h1 => (by rw [hB.1] at h1; cases h1), fun j hj => ?_⟩
    rw [hB.1] at hj
    obtain rfl : j = i := by simpa using hj
    obtain ⟨o, h0, hmid⟩ := h
    exact ⟨h2, o, h0, .inr ⟨h1, midD_mono (fun a2 w2 _ h3 => wpAnyD_steps hsel hs hc hn is _ a2 w2 (fun k hk => hq k (by simp [hk])) (inv.set hi h2) hB.2 h3) hmid⟩⟩

def stepsB (ops : Array Oper) (nn : Nat) (ss : List (Nat × Bool)) : Bool :=
  Region.noSelect ops && ops.all noDefer && decide (nn < ops.size) && Region.sinkB .any ops nn && Region.chainB .any ops nn && decide (ss.length = nn) && ss.all (fun s => decide (s.1 < nn) && (ss.contains (s.1, true) == s.2)) && lexS .any ops nn ss (Array.replicate ops.size false)

theorem wpIn_region_steps {id : Nat} {Q : Exit → Act → World → Prop} {a : Act} {w : World} {l : List Oper} (D : List Nat) (nn : Nat) (ss : List (Nat × Bool)) (hm : P.follows .mixedOrders = true) (hB : stepsB l.toArray nn ss = true)
    (h : wpSD D F n P l.toArray (fun a2 w2 => ∀ w3, Ext w2 w3 → wpListIn F n P l.toArray Q (l.drop nn) a2 w3) ss a w) : (Code.region id l.toArray true).wpIn F n P Q a w := by
  simp only [stepsB, Bool.and_eq_true, decide_eq_true_eq] at hB
  obtain ⟨⟨⟨⟨⟨⟨⟨hsel, hnd⟩, hn⟩, hs⟩, hc⟩, hlen⟩, hqs⟩, hlex⟩ := hB
  have hn' : nn < l.length := by simpa using hn
  have hdl : (l.drop nn).length = l.toArray.size - nn := by simp
  have inv0 : HeadInv .any l.toArray nn (Array.replicate l.toArray.size false) :=
    ⟨by simp, fun j oj _ hl => (by rw [getD_replicate_false] at hl; cases hl), fun t _ ht => getD_in (by simpa using ht) (getD_replicate_false _ _)⟩
  have H := wpAnyD_steps (F := F) (n := n) (P := P) (md := .any) (isQ := fun i => ss.contains (i, true)) (nn := nn) hsel hs hc hn ss _ a w (fun s hs' => by
    have := List.all_eq_true.1 hqs s hs'
    simp only [Bool.and_eq_true, decide_eq_true_eq, beq_iff_eq] at this
    exact ⟨this.2, this.1⟩) inv0 hlex h
  refine wpIn_region_any hm ?_
  have := wpAnyIn_of_D (F := F) (n := n) (P := P) (Q' := Q) (g := l.toArray.size - nn) hnd (fun listed a' w' w1 hL hx => by
    have := wpAnyIn_of_seq (F := F) (n := n) (P := P) (md := .any) (Q' := Q) (l.drop nn) nn listed a' w1 (fun j => by simp [List.getElem?_drop]) (by rw [hdl]; exact hL.1) (hL.2 w1 hx)
    rwa [hdl] at this) _ _ _ _ { w with drawn := w.drawn + 1 } ((Ext.refl w).drew) H
  rw [hlen, show nn + (l.toArray.size - nn) = l.toArray.size by omega] at this
  exact this

theorem wpSD_q {w : World} {T : Act → World → Prop} {i : Nat} {is : List (Nat × Bool)} {o : Oper} {a : Act} (h0 : ops[i]? = some o) (hab : ∀ w3 f, o.about P w3 a.eval = some f → F.fn f)
    (h : ∀ K : Act → Prop, (∀ a, wpSD D F n P ops T is a w → K a) → if Region.wanted o (yielded ops a.tmps) then pureD D F n P o a w K else K (a.put o.dst undef)) : wpSD D F n P ops T ((i, true) :: is) a w := by
  have h1 := h _ (fun _ h => h)
  by_cases hw : Region.wanted o (yielded ops a.tmps) = true
  · rw [if_pos hw] at h1
    obtain ⟨v, h2, h3⟩ := h1
    refine ⟨o, h0, v, ⟨fun w3 _ => hab w3, .inl ⟨hw, fun w3 x => ?_⟩⟩, h3⟩
    have h4 := h2 ⟨w3, x⟩
    unfold Oper.quietAtIn
    generalize (execOp a.eval o).run P w3 = r at *
    cases r with
    | ok x w' => cases x <;> simp only [pureUD] at h4 <;> simp only [Oper.quietUponIn] <;> first | exact h4 | exact h4.elim
    | halt x w' => simp only [pureUD] at h4
  · rw [if_neg hw] at h1
    exact ⟨o, h0, undef, ⟨fun w3 _ => hab w3, .inr ⟨by simpa using hw, rfl⟩⟩, h1⟩
theorem wpSD_nil {w : World} {T : Act → World → Prop} {a : Act} (h : T a w) : wpSD D F n P ops T [] a w := h
theorem wpSD_m {w : World} {T : Act → World → Prop} {i : Nat} {is : List (Nat × Bool)} {o : Oper} {a : Act} (h0 : ops[i]? = some o) (hab : ∀ w1 f, o.about P w1 a.eval = some f → F.fn f)
    (h : ∀ (δ : BExt w) (K : Act → World → Prop), (∀ a w2, wpSD D F n P ops T is a w2 → K a w2) → if Region.wanted o (yielded ops a.tmps) then nextD D F n P o a δ.wd K else K (a.put o.dst undef) δ.wd) : wpSD D F n P ops T ((i, false) :: is) a w := by
  refine ⟨o, h0, fun w1 x => ⟨hab w1, ?_⟩⟩
  have h1 := h ⟨w1, x.bel⟩ _ (fun _ _ h => h)
  by_cases hw : Region.wanted o (yielded ops a.tmps) = true
  · rw [if_pos hw] at h1
    exact .inl ⟨hw, h1⟩
  · rw [if_neg hw] at h1
    exact .inr ⟨by simpa using hw, h1⟩
end

section
variable {α : Type} {K : EK α} {F : Fence} {n : Nat}
/-- An append of one element among them. -/
theorem EK.app_s {w : World} {ops : Array Oper} {T : Act → World → Prop} {i : Nat} {is : List (Nat × Bool)} {o : Oper} {a : Act} (h0 : ops[i]? = some o) (hgd : o.guard = none) (s x : Operand)
    (ho : o.op = .call { callee := .builtin .append, args := #[s, x], argTypes := #[K.st, K.st] })
    {B : Nat} {v : Value} {xs : List α} (b c : Nat) (y : α) (hs : a.eval s = v) (hx : a.eval x = .slice (some ⟨b, 0, none⟩) 1 c)
    (hcell : ∀ i u, (K.enc y)[i]? = some u → w.cell? ⟨b, i, none⟩ = some u) (hown : K.Own B w v xs) (hB : B ≤ w.heap.size) (hlen : xs.length ≤ 1000000000)
    (h : ∀ v' w1 w2, K.Own B w2 v' (xs ++ [y]) → Ext w w1 → w1.grownBy w2 v.ownBlock → wpSD v.ownBlock.toList F n Try.prog ops T is (a.put o.dst v') w2) : wpSD v.ownBlock.toList F n Try.prog ops T ((i, false) :: is) a w := by
  have := EK.app_mid (F := F) (n := n) (Q := wpSD v.ownBlock.toList F n Try.prog ops T is) (is := []) h0 hgd s x ho b c y hs hx hcell hown hB hlen h
  exact this
end
end Go.Proofs.Ytkjgcmdabelohaa
