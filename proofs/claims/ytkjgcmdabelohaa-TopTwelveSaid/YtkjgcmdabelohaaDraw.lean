/- A region that draws its order: operations that read and call, and new variables that are filled: whatever order is drawn, the variables hold what they are given. No condition but the closed checks. -/
import Derived.Test.YtkjgcmdabelohaaLay
import Derived.Still
namespace Go.Proofs.Ytkjgcmdabelohaa
open Go.RowKit

section
variable {P : Program} {w : World}

def xUpon (P : Program) (W : World) (v : Value) : Result Next → Prop
  | .ok (.value u) W' => W' = W ∧ u = v
  | .ok .skip W' => W' = W ∧ v = undef
  | .ok (.enter f args) W' => W' = W ∧ Calls P f args W fun e W'' => e = .returned v ∧ Ext W W''
  | _ => False

def xAt (P : Program) (o : Oper) (a : Act) (W : World) (v : Value) : Prop := xUpon P W v ((execOp a.eval o).run P W)

/-- In frame a, in every world in which all that lay in w lies, operation o leaves v. -/
def Yx (P : Program) (w : World) (ops : Array Oper) (o : Oper) (v : Value) (a : Act) : Prop :=
  (Region.wanted o (yielded ops a.tmps) = true ∧ ∀ δ : BExt w, xAt P o a δ.wd v) ∨ (Region.wanted o (yielded ops a.tmps) = false ∧ v = undef)

theorem eval_same {a a' : Act} {x : Operand} (h : ∀ t, x = .tmp t → a'.tmps[t]? = a.tmps[t]?) : a'.eval x = a.eval x := by
  cases x with
  | tmp t => simp [Act.eval, h t rfl]
  | _ => rfl

theorem Yx.congr {ops : Array Oper} {o : Oper} {v : Value} {a a' : Act} (hs : ∀ cs b, o.op ≠ .select cs b) (h : ∀ t ∈ o.looksAt ops, a'.tmps[t]? = a.tmps[t]?) (hy : Yx P w ops o v a) : Yx P w ops o v a' := by
  have he : execOp a'.eval o = execOp a.eval o := execOp_congr o hs fun x hx => eval_same fun t ht => h t (by
    subst ht
    exact List.mem_append_left _ (List.mem_filterMap.2 ⟨.tmp t, by simpa using hx, rfl⟩))
  have hw : Region.wanted o (yielded ops a'.tmps) = Region.wanted o (yielded ops a.tmps) := by
    unfold Region.wanted
    cases hg : o.guard with
    | none => rfl
    | some p =>
      obtain ⟨g, b⟩ := p
      have : yielded ops a'.tmps g = yielded ops a.tmps g := by
        unfold yielded
        cases hd : (ops[g]?).bind (·.dst) with
        | none => rfl
        | some d =>
          have hm : d ∈ o.looksAt ops := List.mem_append_right _ (by simp [hg, hd])
          simp only [Option.bind_some, h d hm]
      simp only [this]
  unfold Yx xAt at *
  rw [he, hw]
  exact hy

/-- One new variable: its allocation's and its store's numbers, its slot, its type, its zero cells, what is stored. -/
structure Mk where
  ai : Nat
  si : Nat
  d : Tmp
  t : TypeId
  z : Array Value
  x : Tmp

def isEff (ms : List Mk) (i : Nat) : Bool := ms.any fun m => m.ai == i || m.si == i

/-- The frame behind the first i operations in the text's order, the new variables' passed by. -/
def Lf (ops : Array Oper) (ms : List Mk) (vs : Nat → Value) (a : Act) : Nat → Act
  | 0 => a
  | i + 1 => match ops[i]? with
    | some o => if isEff ms i then Lf ops ms vs a i else (Lf ops ms vs a i).put o.dst (vs i)
    | none => Lf ops ms vs a i

/-- The walk in the text's order. -/
def wpX (P : Program) (w : World) (ops : Array Oper) (ms : List Mk) (Q : Act → Prop) : Nat → List Oper → Act → Prop
  | _, [], a => Q a
  | k, o :: rest, a => if isEff ms k then wpX P w ops ms Q (k + 1) rest a
    else if Region.wanted o (yielded ops a.tmps) then ∃ v, (∀ δ : BExt w, xAt P o a δ.wd v) ∧ wpX P w ops ms Q (k + 1) rest (a.put o.dst v)
    else wpX P w ops ms Q (k + 1) rest (a.put o.dst undef)

theorem wpX_vals {ops : Array Oper} {ms : List Mk} {Q : Act → Prop} {a0 : Act} : ∀ (l : List Oper) (k : Nat) (vs : Nat → Value) (_ : ∀ j, l[j]? = ops[k + j]?) (_ : k + l.length = ops.size),
    wpX P w ops ms Q k l (Lf ops ms vs a0 k) → (∀ i o, i < k → ops[i]? = some o → isEff ms i = false → Yx P w ops o (vs i) (Lf ops ms vs a0 i)) →
    ∃ us : Nat → Value, (∀ i o, ops[i]? = some o → isEff ms i = false → Yx P w ops o (us i) (Lf ops ms us a0 i)) ∧ Q (Lf ops ms us a0 ops.size)
  | [], k, vs, _, hk, h, hv => ⟨vs, fun i o hi he => hv i o (by have := (Array.getElem?_eq_some_iff.1 hi).1; simp at hk; omega) hi he, by simp at hk; rw [← hk]; exact h⟩
  | o :: l, k, vs, hl, hk, h, hv => by
    have h0 : ops[k]? = some o := by simpa using (hl 0).symm
    have hl' : ∀ j, l[j]? = ops[k + 1 + j]? := fun j => by have := hl (j + 1); simpa [Nat.add_assoc, Nat.add_comm 1 j] using this
    have hk' : k + 1 + l.length = ops.size := by simp at hk; omega
    unfold wpX at h
    cases he : isEff ms k with
    | true =>
      rw [he, if_pos rfl] at h
      refine wpX_vals l (k + 1) vs hl' hk' (by simpa [Lf, h0, he] using h) (fun i o' hi ho hei => ?_)
      rcases (by omega : i < k ∨ i = k) with hlt | rfl
      · exact hv i o' hlt ho hei
      · rw [he] at hei; cases hei
    | false =>
      rw [he, if_neg (by decide)] at h
      have key : ∃ v, Yx P w ops o v (Lf ops ms vs a0 k) ∧ wpX P w ops ms Q (k + 1) l ((Lf ops ms vs a0 k).put o.dst v) := by
        by_cases hw : Region.wanted o (yielded ops (Lf ops ms vs a0 k).tmps) = true
        · rw [if_pos hw] at h
          obtain ⟨v, h1, h2⟩ := h
          exact ⟨v, .inl ⟨hw, h1⟩, h2⟩
        · rw [if_neg hw] at h
          exact ⟨undef, .inr ⟨by simpa using hw, rfl⟩, h⟩
      obtain ⟨v, hy, hn⟩ := key
      have same : ∀ i, i ≤ k → Lf ops ms (fun j => if j = k then v else vs j) a0 i = Lf ops ms vs a0 i := by
        intro i
        induction i with
        | zero => intro _; rfl
        | succ i ih =>
          intro hi
          have hne : i ≠ k := by omega
          simp only [Lf, ih (by omega), if_neg hne]
      refine wpX_vals l (k + 1) (fun j => if j = k then v else vs j) hl' hk' (by
        simp only [Lf, h0, he, same k (Nat.le_refl _)]
        simpa using hn) (fun i o' hi ho hei => ?_)
      rw [same i (by omega)]
      rcases (by omega : i < k ∨ i = k) with hlt | rfl
      · rw [if_neg (by omega)]
        exact hv i o' hlt ho hei
      · rw [if_pos rfl]
        rw [h0] at ho
        cases ho
        exact hy

theorem wpX_skip {ops : Array Oper} {ms : List Mk} {Q : Act → Prop} {k : Nat} {o : Oper} {rest : List Oper} {a : Act} (he : isEff ms k = true) (h : wpX P w ops ms Q (k + 1) rest a) : wpX P w ops ms Q k (o :: rest) a := by
  unfold wpX; rw [if_pos he]; exact h
theorem wpX_pass {ops : Array Oper} {ms : List Mk} {Q : Act → Prop} {k : Nat} {o : Oper} {rest : List Oper} {a : Act} (he : isEff ms k = false) (hw : Region.wanted o (yielded ops a.tmps) = false) (h : wpX P w ops ms Q (k + 1) rest (a.put o.dst undef)) : wpX P w ops ms Q k (o :: rest) a := by
  unfold wpX; rw [he, hw]; exact h
theorem wpX_step {ops : Array Oper} {ms : List Mk} {Q : Act → Prop} {k : Nat} {o : Oper} {rest : List Oper} {a : Act} (he : isEff ms k = false) (hw : Region.wanted o (yielded ops a.tmps) = true)
    (h : ∃ v, (∀ δ : BExt w, xAt P o a δ.wd v) ∧ wpX P w ops ms Q (k + 1) rest (a.put o.dst v)) : wpX P w ops ms Q k (o :: rest) a := by
  unfold wpX; rw [he, hw]; exact h

/-! ### The closed checks -/
def waits (o : Oper) (j : Nat) : Bool := o.after.any fun e => Region.binds .any e && e.on == j
def dstOf (ops : Array Oper) (i : Nat) : Option Tmp := (ops[i]?).bind (·.dst)
def quietOk (ops : Array Oper) (ms : List Mk) (i : Nat) : Bool := match ops[i]? with
  | some o => isEff ms i || (o.looksAt ops).all fun t => (List.range ops.size).all fun j => dstOf ops j != some t || (!isEff ms j && ((decide (j < i) && waits o j) || (decide (i < j) && ((ops[j]?).map (waits · i)).getD false)))
  | none => true
def mkOk (ops : Array Oper) (ms : List Mk) (m : Mk) : Bool :=
  (match ops[m.ai]? with
    | some o => (o.dst == some m.d) && o.guard.isNone && (match o.op with | .alloc t => t == m.t | _ => false)
    | none => false) &&
  (match ops[m.si]? with
    | some o => o.dst.isNone && o.guard.isNone && (match o.op with | .store t (.tmp d) (.tmp x) => t == m.t && d == m.d && x == m.x | _ => false) && waits o m.ai &&
        (List.range ops.size).all fun j => dstOf ops j != some m.x || (!isEff ms j && waits o j)
    | none => false)
def regionOk (ops : Array Oper) (ms : List Mk) (n : Nat) : Bool :=
  Region.noSelect ops && ((List.range ops.size).all fun i => quietOk ops ms i && ((ops[i]?).map fun o => o.after.all fun e => !Region.binds .any e || decide (e.on < i)).getD false) &&
  ((List.range ops.size).all fun i => (List.range ops.size).all fun j => decide (i = j) || dstOf ops i == none || dstOf ops i != dstOf ops j) &&
  (ms.all fun m => mkOk ops ms m) && decide (ms.Pairwise fun m m' => m.ai ≠ m'.ai ∧ m.si ≠ m'.si ∧ m.d ≠ m'.d) &&
  ((List.range ops.size).all fun i => match dstOf ops i with | some d => decide (d < n) | none => true)

theorem pw_inj {α : Type} {R : α → α → Prop} {f : α → Nat} (hR : ∀ a b, R a b → f a ≠ f b) : ∀ {l : List α}, l.Pairwise R → ∀ a ∈ l, ∀ b ∈ l, f a = f b → a = b
  | [], _, a, ha, _, _, _ => by cases ha
  | c :: l, h, a, ha, b, hb, e => by
    obtain ⟨h1, h2⟩ := List.pairwise_cons.1 h
    rcases List.mem_cons.1 ha with rfl | ha
    · rcases List.mem_cons.1 hb with rfl | hb
      · rfl
      · exact absurd e (hR _ _ (h1 b hb))
    · rcases List.mem_cons.1 hb with hbc | hb
      · exact absurd e.symm (by rw [hbc]; exact hR _ _ (h1 a ha))
      · exact pw_inj hR h2 a ha b hb e

/-- How many of the first n numbers are not listed yet. -/
def unl (listed : Array Bool) : Nat → Nat
  | 0 => 0
  | n + 1 => unl listed n + if listed.getD n true = false then 1 else 0
theorem unl_set {listed : Array Bool} {i : Nat} (hi : listed.getD i true = false) : ∀ n, unl (listed.setIfInBounds i true) n + (if i < n then 1 else 0) = unl listed n
  | 0 => by simp [unl]
  | n + 1 => by
    have ih := unl_set hi n
    have hlt : i < listed.size := by
      rcases Nat.lt_or_ge i listed.size with h | h
      · exact h
      · simp [Array.getElem?_eq_none h] at hi
    unfold unl
    by_cases hin : i = n
    · subst hin
      rw [if_pos hi, if_neg (by simp [hlt]), if_pos (by omega)]
      rw [if_neg (by omega)] at ih
      omega
    · rw [getD_set_ne true hin]
      by_cases h : i < n
      · rw [if_pos h] at ih; rw [if_pos (show i < n + 1 by omega)]; omega
      · rw [if_neg h] at ih; rw [if_neg (show ¬ i < n + 1 by omega)]; omega
theorem unl_zero {listed : Array Bool} : ∀ {n}, unl listed n = 0 → ∀ i, i < n → listed.getD i true = true
  | 0, _, i, hi => by omega
  | n + 1, h, i, hi => by
    unfold unl at h
    rcases (by omega : i < n ∨ i = n) with hlt | rfl
    · exact unl_zero (by omega) i hlt
    · cases hb : listed.getD i true with
      | true => rfl
      | false => rw [hb, if_pos rfl] at h; omega

theorem unl_le (listed : Array Bool) : ∀ n, unl listed n ≤ n
  | 0 => Nat.le_refl _
  | n + 1 => by
    have := unl_le listed n
    unfold unl
    split <;> omega
theorem repl_false (m j : Nat) : (Array.replicate m false).getD j false = false := by
  rcases Nat.lt_or_ge j m with h | h
  · simp [h]
  · simp [h]

def fin (ops : Array Oper) (ms : List Mk) (vs : Nat → Value) (a0 : Act) (m : Mk) : Value := (Lf ops ms vs a0 ops.size).tmps.getD m.x undef

structure Inv (ops : Array Oper) (ms : List Mk) (vs : Nat → Value) (a0 : Act) (w : World) (listed : Array Bool) (a : Act) (W : World) (β : Nat → Nat) : Prop where
  lsz : listed.size = ops.size
  closed : ∀ j oj, ops[j]? = some oj → listed.getD j false = true → ∀ e ∈ oj.after, Region.binds .any e = true → listed.getD e.on false = true
  size : a.tmps.size = a0.tmps.size
  dfr : a.defers = a0.defers
  bel : Below w.heap.size w W
  quiet : ∀ i o d, ops[i]? = some o → isEff ms i = false → o.dst = some d → listed.getD i false = true → a.tmps[d]? = some (vs i)
  rest : ∀ t, (∀ i o, ops[i]? = some o → listed.getD i false = true → o.dst ≠ some t) → a.tmps[t]? = a0.tmps[t]?
  slot : ∀ m ∈ ms, listed.getD m.ai false = true → a.tmps[m.d]? = some (.pointer (some ⟨β m.ai, 0, none⟩))
  blk : ∀ m ∈ ms, listed.getD m.ai false = true → w.heap.size ≤ β m.ai ∧ β m.ai < W.heap.size ∧
    W.heap[β m.ai]? = some (.cells (if listed.getD m.si false = true then (fin ops ms vs a0 m).cells else m.z) m.t (0, 0))
  inj : ∀ m ∈ ms, ∀ m' ∈ ms, listed.getD m.ai false = true → listed.getD m'.ai false = true → m.ai ≠ m'.ai → β m.ai ≠ β m'.ai

theorem Lf_size (ops : Array Oper) (ms : List Mk) (vs : Nat → Value) (a0 : Act) : ∀ n, (Lf ops ms vs a0 n).tmps.size = a0.tmps.size ∧ (Lf ops ms vs a0 n).defers = a0.defers
  | 0 => ⟨rfl, rfl⟩
  | n + 1 => by
    obtain ⟨h1, h2⟩ := Lf_size ops ms vs a0 n
    unfold Lf
    cases ho : ops[n]? with
    | none => exact ⟨h1, h2⟩
    | some o =>
      simp only
      cases he : isEff ms n with
      | true => exact ⟨h1, h2⟩
      | false =>
        cases hd : o.dst with
        | none => exact ⟨h1, h2⟩
        | some d => exact ⟨by simpa [Act.put] using h1, by simpa [Act.put] using h2⟩

theorem put_get {a : Act} {d t : Tmp} {v : Value} : (a.put (some d) v).tmps[t]? = if d = t then (if t < a.tmps.size then some v else none) else a.tmps[t]? := by
  simp only [Act.put]
  rw [Array.getElem?_setIfInBounds]
  by_cases h : d = t
  · subst h; simp
  · simp [h]

theorem Lf_get_none {ops : Array Oper} {ms : List Mk} {vs : Nat → Value} {a0 : Act} {t : Tmp} : ∀ n, (∀ i, i < n → isEff ms i = false → dstOf ops i ≠ some t) → (Lf ops ms vs a0 n).tmps[t]? = a0.tmps[t]?
  | 0, _ => rfl
  | n + 1, h => by
    have ih := Lf_get_none (ops := ops) (ms := ms) (vs := vs) (a0 := a0) (t := t) n fun i hi => h i (by omega)
    have hn := h n (by omega)
    unfold Lf
    cases ho : ops[n]? with
    | none => exact ih
    | some o =>
      simp only
      cases he : isEff ms n with
      | true => exact ih
      | false =>
        have hne := hn he
        simp only [dstOf, ho, Option.bind_some] at hne
        cases hd : o.dst with
        | none => exact ih
        | some d => rw [if_neg (by decide), put_get, if_neg (by intro e; exact hne (by rw [hd, e]))]; exact ih

theorem Lf_get_some {ops : Array Oper} {ms : List Mk} {vs : Nat → Value} {a0 : Act} {t : Tmp} {j : Nat} (hj : dstOf ops j = some t) (hje : isEff ms j = false) (hsz : t < a0.tmps.size)
    (hdis : ∀ i, i ≠ j → dstOf ops i ≠ some t) : ∀ n, j < n → (Lf ops ms vs a0 n).tmps[t]? = some (vs j)
  | 0, h => by omega
  | n + 1, h => by
    have hs := (Lf_size ops ms vs a0 n).1
    by_cases hjn : j = n
    · subst hjn
      unfold Lf
      cases ho : ops[j]? with
      | none => simp [dstOf, ho] at hj
      | some o =>
        have hd : o.dst = some t := by simpa [dstOf, ho] using hj
        simp only [hje, hd]
        rw [if_neg (by decide), put_get, if_pos rfl, if_pos (by rw [(Lf_size ops ms vs a0 j).1]; exact hsz)]
    · have ih := Lf_get_some (vs := vs) hj hje hsz hdis n (by omega)
      unfold Lf
      cases ho : ops[n]? with
      | none => exact ih
      | some o =>
        simp only
        cases he : isEff ms n with
        | true => exact ih
        | false =>
          cases hd : o.dst with
          | none => exact ih
          | some d =>
            rw [if_neg (by decide), put_get, if_neg (by
              intro e
              exact hdis n (Ne.symm hjn) (by simp [dstOf, ho, hd, e]))]
            exact ih

/-- The slots of the new variables. -/
def putAll (β : Nat → Nat) : List Mk → Act → Act
  | [], a => a
  | m :: ms, a => putAll β ms (a.put (some m.d) (.pointer (some ⟨β m.ai, 0, none⟩)))
theorem putAll_size (β : Nat → Nat) : ∀ (ms : List Mk) (a : Act), (putAll β ms a).tmps.size = a.tmps.size ∧ (putAll β ms a).defers = a.defers
  | [], a => ⟨rfl, rfl⟩
  | m :: ms, a => by
    obtain ⟨h1, h2⟩ := putAll_size β ms (a.put (some m.d) (.pointer (some ⟨β m.ai, 0, none⟩)))
    exact ⟨by rw [putAll, h1]; simp [Act.put], by rw [putAll, h2]; simp [Act.put]⟩
theorem putAll_none (β : Nat → Nat) {t : Tmp} : ∀ (ms : List Mk) (a : Act), (∀ m ∈ ms, m.d ≠ t) → (putAll β ms a).tmps[t]? = a.tmps[t]?
  | [], _, _ => rfl
  | m :: ms, a, h => by
    rw [putAll, putAll_none β ms _ fun m hm => h m (by simp [hm]), put_get, if_neg (h m (by simp))]
theorem putAll_some (β : Nat → Nat) : ∀ (ms : List Mk) (a : Act) (m : Mk), m ∈ ms → (ms.Pairwise fun m m' => m.d ≠ m'.d) → m.d < a.tmps.size → (putAll β ms a).tmps[m.d]? = some (.pointer (some ⟨β m.ai, 0, none⟩))
  | [], _, _, hm, _, _ => by cases hm
  | c :: ms, a, m, hm, hp, hsz => by
    obtain ⟨h1, h2⟩ := List.pairwise_cons.1 hp
    rw [putAll]
    rcases List.mem_cons.1 hm with rfl | hm
    · rw [putAll_none β ms _ fun m' hm' => (h1 m' hm').symm, put_get, if_pos rfl, if_pos hsz]
    · exact putAll_some β ms _ m hm h2 (by simpa [Act.put] using hsz)

theorem waits_iff {o : Oper} {j : Nat} : waits o j = true ↔ ∃ e ∈ o.after, Region.binds .any e = true ∧ e.on = j := by
  unfold waits
  rw [Array.any_eq_true']
  simp

theorem run_store_block {W : World} {g : Nat} {t : TypeId} {z : Array Value} {v : Value} (hg : W.heap[g]? = some (.cells z t (0, 0))) (hi : (P.info? t).map (·.size) = some v.cells.size) (hz : z.size = v.cells.size)
    (h1 : v.cells.all (·.oneCell') = true) {o : Oper} {a : Act} {x d : Operand} (ho : o.op = .store t d x) (hd : a.eval d = .pointer (some ⟨g, 0, none⟩)) (hx : a.eval x = v) :
    ∃ n, (execOp a.eval o).run P W = .ok n (W.setRow g v.cells) ∧ (n = .skip ∨ ∃ u, n = .value u) := by
  have hs := run_storeCells_from (P := P) g t v.cells.toList 0 z W hg (by simp; omega) (fun c hc => (Array.all_eq_true_iff_forall_mem.1 h1) c (by simpa using hc))
  have hsv : (storeVar t ⟨g, 0, none⟩ v).run P W = .ok () (W.setRow g v.cells) := by
    cases hq : P.info? t with
    | none => simp [hq] at hi
    | some i =>
      have hsz : v.cells.size = i.size := by simp [hq] at hi; omega
      simp [storeVar, sizeOf, typeInfo, hq, hsz, hs]
  unfold execOp
  simp only [ho, hd, hx, Instr.storeAt, Instr.sureAddr, Sem.run_bind, Sem.run_pure, Result.andThen_ok, hsv]
  exact ⟨_, rfl, by simp⟩

section
variable {ops : Array Oper} {ms : List Mk} {vs : Nat → Value} {a0 : Act}

structure ROk (ops : Array Oper) (ms : List Mk) (n : Nat) : Prop where
  sel : ∀ (j : Nat) (o : Oper) cs b, ops[j]? = some o → o.op ≠ .select cs b
  quiet : ∀ i o, ops[i]? = some o → isEff ms i = false → ∀ t ∈ o.looksAt ops, ∀ j, dstOf ops j = some t → isEff ms j = false ∧ ((j < i ∧ waits o j = true) ∨ (i < j ∧ ∃ oj, ops[j]? = some oj ∧ waits oj i = true))
  back : ∀ i o, ops[i]? = some o → ∀ e ∈ o.after, Region.binds .any e = true → e.on < i
  dis : ∀ i j t, dstOf ops i = some t → dstOf ops j = some t → i = j
  alc : ∀ m ∈ ms, ∃ o, ops[m.ai]? = some o ∧ o.dst = some m.d ∧ o.guard = none ∧ o.op = .alloc m.t
  sto : ∀ m ∈ ms, ∃ o, ops[m.si]? = some o ∧ o.dst = none ∧ o.guard = none ∧ o.op = .store m.t (.tmp m.d) (.tmp m.x) ∧ waits o m.ai = true ∧ ∀ j, dstOf ops j = some m.x → isEff ms j = false ∧ waits o j = true
  pw : ms.Pairwise fun m m' => m.ai ≠ m'.ai ∧ m.si ≠ m'.si ∧ m.d ≠ m'.d
  lt : ∀ i d, dstOf ops i = some d → d < n

theorem dst_lt {i : Nat} {t : Tmp} (h : dstOf ops i = some t) : i < ops.size := by
  unfold dstOf at h
  cases ho : ops[i]? with
  | none => simp [ho] at h
  | some o => exact (Array.getElem?_eq_some_iff.1 ho).1

theorem regionOk_spec {n : Nat} (h : regionOk ops ms n = true) : ROk ops ms n := by
  unfold regionOk at h
  simp only [Bool.and_eq_true, List.all_eq_true, List.mem_range, decide_eq_true_eq] at h
  obtain ⟨⟨⟨⟨⟨hsel, hq⟩, hdis⟩, hmk⟩, hpw⟩, hlt⟩ := h
  refine ⟨Region.noSelect_spec hsel, fun i o hi he t ht j hj => ?_, fun i o hi e hm hb => ?_, fun i j t hi hj => ?_, fun m hm => ?_, fun m hm => ?_, hpw, fun i d hi => ?_⟩
  · have h1 := (hq i (Array.getElem?_eq_some_iff.1 hi).1).1
    unfold quietOk at h1
    simp only [hi, he, Bool.false_or, List.all_eq_true, List.mem_range] at h1
    have h2 := h1 t ht j (dst_lt hj)
    simp only [hj, bne_self_eq_false, Bool.false_or, Bool.and_eq_true, Bool.not_eq_true', Bool.or_eq_true, decide_eq_true_eq] at h2
    refine ⟨h2.1, h2.2.imp id fun ⟨ha, hb⟩ => ⟨ha, ?_⟩⟩
    cases ho : ops[j]? with
    | none => simp [ho] at hb
    | some oj => exact ⟨oj, rfl, by simpa [ho] using hb⟩
  · have h1 := (hq i (Array.getElem?_eq_some_iff.1 hi).1).2
    simp only [hi, Option.map_some, Option.getD_some] at h1
    have h2 := (Array.all_eq_true_iff_forall_mem.1 h1) e hm
    simpa [hb] using h2
  · have h1 := hdis i (dst_lt hi) j (dst_lt hj)
    simp only [hi, hj, Bool.or_eq_true, decide_eq_true_eq, bne_self_eq_false] at h1
    rcases h1 with (h1 | h1) | h1
    · exact h1
    · simp at h1
    · cases h1
  · have h1 := hmk m hm
    unfold mkOk at h1
    simp only [Bool.and_eq_true] at h1
    obtain ⟨h1, _⟩ := h1
    cases ho : ops[m.ai]? with
    | none => simp [ho] at h1
    | some o =>
      simp only [ho, Bool.and_eq_true, beq_iff_eq, Option.isNone_iff_eq_none] at h1
      obtain ⟨⟨hd, hg⟩, hop⟩ := h1
      refine ⟨o, rfl, hd, hg, ?_⟩
      cases hop' : o.op <;> simp [hop'] at hop
      rw [hop]
  · have h1 := hmk m hm
    unfold mkOk at h1
    simp only [Bool.and_eq_true] at h1
    obtain ⟨_, h1⟩ := h1
    cases ho : ops[m.si]? with
    | none => simp [ho] at h1
    | some o =>
      simp only [ho, Bool.and_eq_true, Option.isNone_iff_eq_none, List.all_eq_true, List.mem_range] at h1
      obtain ⟨⟨⟨⟨hd, hg⟩, hop⟩, hw⟩, hx⟩ := h1
      refine ⟨o, rfl, hd, hg, ?_, hw, fun j hj => ?_⟩
      · split at hop
        · rename_i t d x heq
          simp only [Bool.and_eq_true, beq_iff_eq] at hop
          rw [heq, hop.1.1, hop.1.2, hop.2]
        · cases hop
      · have h2 := hx j (dst_lt hj)
        simpa [hj] using h2
  · have h1 := hlt i (dst_lt hi)
    simpa [hi] using h1

theorem isEff_ai {m : Mk} (hm : m ∈ ms) : isEff ms m.ai = true := List.any_eq_true.2 ⟨m, hm, by simp⟩
theorem isEff_si {m : Mk} (hm : m ∈ ms) : isEff ms m.si = true := List.any_eq_true.2 ⟨m, hm, by simp⟩
theorem isEff_iff {i : Nat} : isEff ms i = true ↔ ∃ m ∈ ms, m.ai = i ∨ m.si = i := by
  unfold isEff
  rw [List.any_eq_true]
  simp

theorem listed_set {listed : Array Bool} {i j : Nat} (h : (listed.setIfInBounds i true).getD j false = true) : j = i ∨ listed.getD j false = true := by
  by_cases hij : i = j
  · exact .inl hij.symm
  · exact .inr (by rw [getD_set_ne false hij] at h; exact h)
theorem listed_both {listed : Array Bool} {i : Nat} (h : listed.getD i true = false) : listed.getD i false = false := by
  rcases Nat.lt_or_ge i listed.size with h' | h'
  · simp [h'] at h ⊢; exact h
  · simp [Array.getElem?_eq_none h'] at h

/-- A quiet operation's step. -/
theorem Inv.quiet_step {n : Nat} {listed : Array Bool} {a : Act} {W W' : World} {β : Nat → Nat} {i : Nat} {o : Oper} (R : ROk ops ms n) (hn : n = a0.tmps.size) (h : Inv ops ms vs a0 w listed a W β) (ho : ops[i]? = some o) (he : isEff ms i = false)
    (hall : ∀ e ∈ o.after, Region.binds .any e = true → listed.getD e.on false = true) (hx : Ext W W') : Inv ops ms vs a0 w (listed.setIfInBounds i true) (a.put o.dst (vs i)) W' β := by
  have hdo : ∀ d, o.dst = some d → dstOf ops i = some d := fun d hd => by simp [dstOf, ho, hd]
  have hsz : ∀ d, o.dst = some d → d < a.tmps.size := fun d hd => by rw [h.size, ← hn]; exact R.lt i d (hdo d hd)
  have hai : ∀ m ∈ ms, m.ai ≠ i ∧ m.si ≠ i := fun m hm => ⟨fun e => (by have := isEff_ai hm; rw [e, he] at this; cases this), fun e => (by have := isEff_si hm; rw [e, he] at this; cases this)⟩
  have hput : ∀ t, o.dst ≠ some t → (a.put o.dst (vs i)).tmps[t]? = a.tmps[t]? := fun t ht => by
    cases hd : o.dst with
    | none => rfl
    | some d => rw [put_get, if_neg (by intro e; exact ht (by rw [hd, e]))]
  refine ⟨by simp [h.lsz], ?_, ?_, ?_, h.bel.trans (hx.bel.mono h.bel.size), ?_, ?_, ?_, ?_, ?_⟩
  · intro j oj hj hl e hm hb
    rcases listed_set hl with rfl | hl
    · rw [ho] at hj; cases hj
      exact getD_set_true (hall e hm hb)
    · exact getD_set_true (h.closed j oj hj hl e hm hb)
  · cases hd : o.dst <;> simp [Act.put, h.size]
  · cases hd : o.dst <;> simp [Act.put, h.dfr]
  · intro j oj d hj hje hd hl
    rcases listed_set hl with rfl | hl
    · rw [ho] at hj; cases hj
      rw [hd, put_get, if_pos rfl, if_pos (hsz d hd)]
    · by_cases hji : j = i
      · subst hji
        rw [ho] at hj; cases hj
        rw [hd, put_get, if_pos rfl, if_pos (hsz d hd)]
      · rw [hput d fun e => hji (R.dis j i d (by simp [dstOf, hj, hd]) (hdo d e))]
        exact h.quiet j oj d hj hje hd hl
  · intro t ht
    have hti : o.dst ≠ some t := ht i o ho (by
      rcases Nat.lt_or_ge i listed.size with h' | h'
      · simp [h']
      · have := (Array.getElem?_eq_some_iff.1 ho).1; rw [h.lsz] at h'; omega)
    rw [hput t hti]
    exact h.rest t fun j oj hj hl => ht j oj hj (getD_set_true hl)
  · intro m hm hl
    obtain ⟨om, hom, hdm, _, _⟩ := R.alc m hm
    have hl' : listed.getD m.ai false = true := (listed_set hl).resolve_left (hai m hm).1
    rw [hput m.d fun e => (hai m hm).1 (R.dis m.ai i m.d (by simp [dstOf, hom, hdm]) (hdo _ e))]
    exact h.slot m hm hl'
  · intro m hm hl
    have hl' : listed.getD m.ai false = true := (listed_set hl).resolve_left (hai m hm).1
    obtain ⟨b1, b2, b3⟩ := h.blk m hm hl'
    refine ⟨b1, Nat.lt_of_lt_of_le b2 hx.bel.size, ?_⟩
    rw [hx.bel.block _ b2, b3, getD_set_ne false (Ne.symm (hai m hm).2)]
  · intro m hm m' hm' hl hl' hne
    exact h.inj m hm m' hm' ((listed_set hl).resolve_left (hai m hm).1) ((listed_set hl').resolve_left (hai m' hm').1) hne

/-- An allocation's step. -/
theorem Inv.alloc_step {n : Nat} {listed : Array Bool} {a : Act} {W : World} {β : Nat → Nat} {m : Mk} (R : ROk ops ms n) (hn : n = a0.tmps.size) (h : Inv ops ms vs a0 w listed a W β) (hm : m ∈ ms)
    (hun : listed.getD m.ai false = false) (hall : ∀ o, ops[m.ai]? = some o → ∀ e ∈ o.after, Region.binds .any e = true → listed.getD e.on false = true) :
    Inv ops ms vs a0 w (listed.setIfInBounds m.ai true) (a.put (some m.d) (.pointer (some ⟨W.heap.size, 0, none⟩))) (W.alloc (.cells m.z m.t)) (fun k => if k = m.ai then W.heap.size else β k) := by
  obtain ⟨o, ho, hd, _, _⟩ := R.alc m hm
  have hdo : dstOf ops m.ai = some m.d := by simp [dstOf, ho, hd]
  have hsz : m.d < a.tmps.size := by rw [h.size, ← hn]; exact R.lt _ _ hdo
  have hlt : m.ai < listed.size := by rw [h.lsz]; exact (Array.getElem?_eq_some_iff.1 ho).1
  have inj : ∀ m' ∈ ms, m'.ai = m.ai → m' = m := fun m' hm' e => pw_inj (f := Mk.ai) (fun a b hR => hR.1) R.pw m' hm' m hm e
  have hsi : ∀ m' ∈ ms, m'.si ≠ m.ai := fun m' hm' e => by
    obtain ⟨o', ho', _, _, hop', _⟩ := R.sto m' hm'
    obtain ⟨o2, ho2, _, _, hop2⟩ := R.alc m hm
    rw [e, ho2] at ho'
    cases ho'
    rw [hop2] at hop'
    cases hop'
  have hput : ∀ t, m.d ≠ t → (a.put (some m.d) (.pointer (some ⟨W.heap.size, 0, none⟩))).tmps[t]? = a.tmps[t]? := fun t ht => by rw [put_get, if_neg ht]
  refine ⟨by simp [h.lsz], ?_, by simp [Act.put, h.size], by simp [Act.put, h.dfr], h.bel.alloc h.bel.size _, ?_, ?_, ?_, ?_, ?_⟩
  · intro j oj hj hl e he hb
    rcases listed_set hl with rfl | hl
    · exact getD_set_true (hall oj hj e he hb)
    · exact getD_set_true (h.closed j oj hj hl e he hb)
  · intro j oj d hj hje hd' hl
    have hji : j ≠ m.ai := fun e => by rw [e, isEff_ai hm] at hje; cases hje
    rw [hput d fun e => hji (R.dis j m.ai d (by simp [dstOf, hj, hd']) (by rw [hdo, e]))]
    exact h.quiet j oj d hj hje hd' ((listed_set hl).resolve_left hji)
  · intro t ht
    rw [hput t fun e => ht m.ai o ho (by simp [hlt]) (by rw [hd, e])]
    exact h.rest t fun j oj hj hl => ht j oj hj (getD_set_true hl)
  · intro m' hm' hl
    by_cases e : m'.ai = m.ai
    · rw [inj m' hm' e, put_get, if_pos rfl, if_pos hsz]
      simp
    · obtain ⟨o', ho', hd', _, _⟩ := R.alc m' hm'
      rw [hput m'.d fun e' => e (R.dis _ _ m.d (by simp [dstOf, ho', hd', e']) hdo)]
      simp only [if_neg e]
      exact h.slot m' hm' ((listed_set hl).resolve_left e)
  · intro m' hm' hl
    by_cases e : m'.ai = m.ai
    · have em := inj m' hm' e
      subst em
      have hs : listed.getD m'.si false = false := by
        cases hb : listed.getD m'.si false with
        | false => rfl
        | true =>
          obtain ⟨os, hos, _, _, _, hw, _⟩ := R.sto m' hm'
          obtain ⟨e', he', hb', hon⟩ := waits_iff.1 hw
          have := h.closed _ os hos hb e' he' hb'
          rw [hon, hun] at this
          cases this
      simp only [if_true]
      refine ⟨h.bel.size, by simp, ?_⟩
      rw [getD_set_ne false (Ne.symm (hsi m' hm')), hs]
      exact heap_alloc_new W _
    · obtain ⟨b1, b2, b3⟩ := h.blk m' hm' ((listed_set hl).resolve_left e)
      simp only [if_neg e]
      refine ⟨b1, by simp; omega, ?_⟩
      rw [Below.heap_alloc W _ _ b2, b3, getD_set_ne false (Ne.symm (hsi m' hm'))]
  · intro m1 h1 m2 h2 hl1 hl2 hne
    by_cases e1 : m1.ai = m.ai
    · have e2 : m2.ai ≠ m.ai := fun e => hne (by rw [e1, e])
      have := (h.blk m2 h2 ((listed_set hl2).resolve_left e2)).2.1
      simp only [if_pos e1, if_neg e2]
      omega
    · by_cases e2 : m2.ai = m.ai
      · have := (h.blk m1 h1 ((listed_set hl1).resolve_left e1)).2.1
        simp only [if_neg e1, if_pos e2]
        omega
      · simp only [if_neg e1, if_neg e2]
        exact h.inj m1 h1 m2 h2 ((listed_set hl1).resolve_left e1) ((listed_set hl2).resolve_left e2) hne

/-- A store's step. -/
theorem Inv.store_step {n : Nat} {listed : Array Bool} {a : Act} {W : World} {β : Nat → Nat} {m : Mk} (R : ROk ops ms n) (h : Inv ops ms vs a0 w listed a W β) (hm : m ∈ ms)
    (hai : listed.getD m.ai false = true) (hall : ∀ o, ops[m.si]? = some o → ∀ e ∈ o.after, Region.binds .any e = true → listed.getD e.on false = true) :
    Inv ops ms vs a0 w (listed.setIfInBounds m.si true) a (W.setRow (β m.ai) (fin ops ms vs a0 m).cells) β := by
  obtain ⟨o, ho, hd, _, hop, _⟩ := R.sto m hm
  have hlt : m.si < listed.size := by rw [h.lsz]; exact (Array.getElem?_eq_some_iff.1 ho).1
  obtain ⟨b1, b2, b3⟩ := h.blk m hm hai
  have hsi : ∀ m' ∈ ms, m'.ai ≠ m.si := fun m' hm' e => by
    obtain ⟨o2, ho2, _, _, hop2⟩ := R.alc m' hm'
    rw [e, ho] at ho2
    cases ho2
    rw [hop] at hop2
    cases hop2
  have hbel : Below w.heap.size W (W.setRow (β m.ai) (fin ops ms vs a0 m).cells) := ⟨rfl, rfl, rfl, by simp [World.setRow], fun k hk => setRow_other W _ k _ (by omega)⟩
  have hl_ : ∀ m' ∈ ms, (listed.setIfInBounds m.si true).getD m'.ai false = true → listed.getD m'.ai false = true := fun m' hm' hl => (listed_set hl).resolve_left (hsi m' hm')
  refine ⟨by simp [h.lsz], ?_, h.size, h.dfr, h.bel.trans hbel, ?_, ?_, fun m' hm' hl => h.slot m' hm' (hl_ m' hm' hl), ?_, fun m1 h1 m2 h2 hl1 hl2 hne => h.inj m1 h1 m2 h2 (hl_ m1 h1 hl1) (hl_ m2 h2 hl2) hne⟩
  · intro j oj hj hl e he hb
    rcases listed_set hl with rfl | hl
    · exact getD_set_true (hall oj hj e he hb)
    · exact getD_set_true (h.closed j oj hj hl e he hb)
  · intro j oj d hj hje hd' hl
    exact h.quiet j oj d hj hje hd' ((listed_set hl).resolve_left fun e => by rw [e, isEff_si hm] at hje; cases hje)
  · intro t ht
    exact h.rest t fun j oj hj hl => ht j oj hj (getD_set_true hl)
  · intro m' hm' hl
    obtain ⟨c1, c2, c3⟩ := h.blk m' hm' (hl_ m' hm' hl)
    refine ⟨c1, by simpa [World.setRow] using c2, ?_⟩
    by_cases e : m'.si = m.si
    · have em : m' = m := pw_inj (f := Mk.si) (fun a b hR => hR.2.1) R.pw m' hm' m hm e
      subst em
      rw [setRow_heap W _ _ _ _ _ b3, if_pos (by simp [hlt])]
    · have hne : m'.ai ≠ m.ai := fun e' => e (by rw [pw_inj (f := Mk.ai) (fun a b hR => hR.1) R.pw m' hm' m hm e'])
      rw [setRow_other W _ _ _ (h.inj m' hm' m hm (hl_ m' hm' hl) hai hne), c3, getD_set_ne false (Ne.symm e)]

/-- The end. -/
theorem Inv.done {n : Nat} {listed : Array Bool} {a : Act} {W : World} {β : Nat → Nat} (R : ROk ops ms n) (hn : n = a0.tmps.size) (h : Inv ops ms vs a0 w listed a W β) (hl : ∀ i, i < ops.size → listed.getD i false = true) :
    a = putAll β ms (Lf ops ms vs a0 ops.size) := by
  obtain ⟨s1, s2⟩ := Lf_size ops ms vs a0 ops.size
  obtain ⟨p1, p2⟩ := putAll_size β ms (Lf ops ms vs a0 ops.size)
  have hd : a.defers = (putAll β ms (Lf ops ms vs a0 ops.size)).defers := by rw [p2, s2, h.dfr]
  have ht : a.tmps = (putAll β ms (Lf ops ms vs a0 ops.size)).tmps := by
    apply Array.ext_getElem?
    intro t
    by_cases hmk : ∃ m ∈ ms, m.d = t
    · obtain ⟨m, hm, rfl⟩ := hmk
      obtain ⟨o, ho, hdm, _, _⟩ := R.alc m hm
      rw [h.slot m hm (hl _ (Array.getElem?_eq_some_iff.1 ho).1), putAll_some β ms _ m hm (R.pw.imp fun hR => hR.2.2) (by rw [s1, ← hn]; exact R.lt m.ai m.d (by simp [dstOf, ho, hdm]))]
    · have hno : ∀ m ∈ ms, m.d ≠ t := fun m hm e => hmk ⟨m, hm, e⟩
      rw [putAll_none β ms _ hno]
      by_cases hj : ∃ j, dstOf ops j = some t
      · obtain ⟨j, hj⟩ := hj
        have hje : isEff ms j = false := by
          cases hb : isEff ms j with
          | false => rfl
          | true =>
            obtain ⟨m, hm, e | e⟩ := isEff_iff.1 hb
            · obtain ⟨o, ho, hdm, _, _⟩ := R.alc m hm
              rw [← e] at hj
              simp [dstOf, ho, hdm] at hj
              exact absurd hj (hno m hm)
            · obtain ⟨o, ho, hdm, _⟩ := R.sto m hm
              rw [← e] at hj
              simp [dstOf, ho, hdm] at hj
        have hjl := dst_lt hj
        rw [Lf_get_some hj hje (by rw [← hn]; exact R.lt j t hj) (fun i hi e => hi (R.dis i j t e hj)) _ hjl]
        cases ho : ops[j]? with
        | none => simp [dstOf, ho] at hj
        | some o => exact h.quiet j o t ho hje (by simpa [dstOf, ho] using hj) (hl j hjl)
      · rw [Lf_get_none _ fun i _ _ e => hj ⟨i, e⟩]
        exact h.rest t fun i o hi _ e => hj ⟨i, by simp [dstOf, hi, e]⟩
  cases a
  simp only at hd ht
  rw [ht, hd]

theorem any_mk {n : Nat} {Q : Exit → Act → World → Prop} (R : ROk ops ms n) (hn : n = a0.tmps.size)
    (hal : ∀ m ∈ ms, ∀ o, ops[m.ai]? = some o → ∀ (ρ : Operand → Value) (W : World), (execOp ρ o).run P W = .ok (.value (.pointer (some ⟨W.heap.size, 0, none⟩))) (W.alloc (.cells m.z m.t)))
    (hv : ∀ i o, ops[i]? = some o → isEff ms i = false → Yx P w ops o (vs i) (Lf ops ms vs a0 i))
    (hf : ∀ m ∈ ms, (P.info? m.t).map (·.size) = some (fin ops ms vs a0 m).cells.size ∧ m.z.size = (fin ops ms vs a0 m).cells.size ∧ (fin ops ms vs a0 m).cells.all (·.oneCell') = true)
    (hQ : ∀ (β : Nat → Nat) (W : World), Below w.heap.size w W →
      (∀ m ∈ ms, w.heap.size ≤ β m.ai ∧ β m.ai < W.heap.size ∧ W.heap[β m.ai]? = some (.cells (fin ops ms vs a0 m).cells m.t (0, 0))) →
      (∀ m ∈ ms, ∀ m' ∈ ms, m.ai ≠ m'.ai → β m.ai ≠ β m'.ai) → Q .normal (putAll β ms (Lf ops ms vs a0 ops.size)) W) :
    ∀ (fuel : Nat) (listed : Array Bool) (a : Act) (W : World) (β : Nat → Nat), Inv ops ms vs a0 w listed a W β → unl listed ops.size ≤ fuel → wpAny P .any ops Q fuel listed a W := by
  have hend : ∀ (listed : Array Bool) (a : Act) (W : World) (β : Nat → Nat), Inv ops ms vs a0 w listed a W β → (∀ i, i < ops.size → listed.getD i true = true) → Q .normal a W := by
    intro listed a W β h hl
    have hl' : ∀ i, i < ops.size → listed.getD i false = true := fun i hi => by
      have := hl i hi
      have hlt : i < listed.size := by rw [h.lsz]; exact hi
      simpa [hlt] using this
    rw [h.done R hn hl']
    refine hQ β W h.bel (fun m hm => ?_) (fun m hm m' hm' hne => ?_)
    · obtain ⟨o, ho, _⟩ := R.alc m hm
      obtain ⟨o2, ho2, _⟩ := R.sto m hm
      obtain ⟨b1, b2, b3⟩ := h.blk m hm (hl' _ (Array.getElem?_eq_some_iff.1 ho).1)
      rw [if_pos (hl' _ (Array.getElem?_eq_some_iff.1 ho2).1)] at b3
      exact ⟨b1, b2, b3⟩
    · obtain ⟨o, ho, _⟩ := R.alc m hm
      obtain ⟨o2, ho2, _⟩ := R.alc m' hm'
      exact h.inj m hm m' hm' (hl' _ (Array.getElem?_eq_some_iff.1 ho).1) (hl' _ (Array.getElem?_eq_some_iff.1 ho2).1) hne
  intro fuel
  induction fuel with
  | zero =>
    intro listed a W β h hc
    have hl := unl_zero (show unl listed ops.size = 0 by omega)
    refine ⟨?_, hend listed a W β h hl⟩
    rw [List.eq_nil_iff_forall_not_mem]
    intro i hi
    obtain ⟨h0, o, ho, _⟩ := mem_ready.1 hi
    rw [hl i (Array.getElem?_eq_some_iff.1 ho).1] at h0
    cases h0
  | succ fuel ih =>
    intro listed a W β h hc
    refine ⟨fun hr => hend listed a W β h ?_, fun i hi => ?_⟩
    · -- nothing is ready: all are listed
      intro i
      induction i using Nat.strongRecOn with
      | _ i ih2 =>
        intro hi
        cases hb : listed.getD i true with
        | true => rfl
        | false =>
          have : i ∈ Region.ready .any ops listed := mem_ready.2 ⟨hb, ops[i], Array.getElem?_eq_getElem hi, fun e he hbd => by
            have hlt := R.back i ops[i] (Array.getElem?_eq_getElem hi) e he hbd
            have h1 := ih2 e.on hlt (by omega)
            have hlt2 : e.on < listed.size := by rw [h.lsz]; omega
            simpa [hlt2] using h1⟩
          rw [hr] at this
          cases this
    · obtain ⟨hun, o, ho, hall⟩ := mem_ready.1 hi
      have hlt := (Array.getElem?_eq_some_iff.1 ho).1
      have hc' : unl (listed.setIfInBounds i true) ops.size ≤ fuel := by
        have := unl_set hun ops.size
        rw [if_pos hlt] at this
        omega
      unfold wpOp
      simp only [ho]
      cases he : isEff ms i with
      | false =>
        have hy : Yx P w ops o (vs i) a := (hv i o ho he).congr (R.sel i o · · ho) fun t ht => by
          by_cases hj : ∃ j, dstOf ops j = some t
          · obtain ⟨j, hj⟩ := hj
            obtain ⟨hje, hcase⟩ := R.quiet i o ho he t ht j hj
            rcases hcase with ⟨hji, hw⟩ | ⟨hij, oj, hoj, hw⟩
            · obtain ⟨e, hem, heb, hon⟩ := waits_iff.1 hw
              have hjl := hall e hem heb
              rw [hon] at hjl
              rw [Lf_get_some hj hje (by rw [← hn]; exact R.lt j t hj) (fun k hk e => hk (R.dis k j t e hj)) _ hji]
              cases hoj : ops[j]? with
              | none => simp [dstOf, hoj] at hj
              | some oj => exact h.quiet j oj t hoj hje (by simpa [dstOf, hoj] using hj) hjl
            · rw [Lf_get_none _ fun k hk _ e => by have := R.dis k j t e hj; omega]
              refine h.rest t fun k ok hok hkl e => ?_
              have hkj : k = j := R.dis k j t (by simp [dstOf, hok, e]) hj
              subst hkj
              obtain ⟨e', hem, heb, hon⟩ := waits_iff.1 hw
              have := h.closed k oj hoj hkl e' hem heb
              rw [hon, listed_both hun] at this
              cases this
          · rw [Lf_get_none _ fun k _ _ e => hj ⟨k, e⟩]
            exact h.rest t fun k ok hok _ e => hj ⟨k, by simp [dstOf, hok, e]⟩
        rcases hy with ⟨hw, hx⟩ | ⟨hw, hu⟩
        · rw [if_pos hw]
          left
          have hx' := hx ⟨W, h.bel⟩
          unfold xAt at hx'
          unfold Oper.wp
          generalize (execOp a.eval o).run P W = r at hx'
          cases r with
          | ok nx W' =>
            cases nx <;> simp only [xUpon] at hx' <;> simp only [Oper.upon]
            case value u =>
              obtain ⟨e1, e2⟩ := hx'
              rw [e1, e2]
              exact ih _ _ _ β (h.quiet_step R hn ho he hall (Ext.refl _)) hc'
            case skip =>
              obtain ⟨e1, e2⟩ := hx'
              rw [e1, ← e2]
              exact ih _ _ _ β (h.quiet_step R hn ho he hall (Ext.refl _)) hc'
            case enter f args =>
              obtain ⟨e1, hcall⟩ := hx'
              rw [e1]
              exact hcall.mono fun e W'' ⟨he', hw''⟩ => by
                subst he'
                exact ih _ _ _ β (h.quiet_step R hn ho he hall hw'') hc'
          | halt x W' => simp only [xUpon] at hx'
        · rw [if_neg (by rw [hw]; decide), ← hu]
          exact ih _ _ _ β (h.quiet_step R hn ho he hall (Ext.refl _)) hc'
      | true =>
        obtain ⟨m, hm, hmi | hmi⟩ := isEff_iff.1 he
        · subst hmi
          obtain ⟨o', ho', hd', hg', _⟩ := R.alc m hm
          rw [ho] at ho'
          cases ho'
          rw [if_pos (by simp [Region.wanted, hg'])]
          left
          unfold Oper.wp
          rw [hal m hm o ho a.eval W]
          simp only [Oper.upon]
          rw [hd']
          exact ih _ _ _ _ (h.alloc_step R hn hm (listed_both hun) (fun o2 ho2 => by rw [ho] at ho2; cases ho2; exact hall)) hc'
        · subst hmi
          obtain ⟨o', ho', hd', hg', hop, hw, hxj⟩ := R.sto m hm
          rw [ho] at ho'
          cases ho'
          obtain ⟨e0, he0, hb0, hon0⟩ := waits_iff.1 hw
          have hail := hall e0 he0 hb0
          rw [hon0] at hail
          obtain ⟨b1, b2, b3⟩ := h.blk m hm hail
          rw [if_neg (by rw [listed_both hun]; decide)] at b3
          obtain ⟨f1, f2, f3⟩ := hf m hm
          have hed : a.eval (.tmp m.d) = .pointer (some ⟨β m.ai, 0, none⟩) := by
            have := h.slot m hm hail
            simp [Act.eval, this]
          have hex : a.eval (.tmp m.x) = fin ops ms vs a0 m := by
            unfold fin
            have hsame : a.tmps[m.x]? = (Lf ops ms vs a0 ops.size).tmps[m.x]? := by
              by_cases hj : ∃ j, dstOf ops j = some m.x
              · obtain ⟨j, hj⟩ := hj
                obtain ⟨hje, hwj⟩ := hxj j hj
                obtain ⟨e, hem, heb, hon⟩ := waits_iff.1 hwj
                have hjl := hall e hem heb
                rw [hon] at hjl
                rw [Lf_get_some hj hje (by rw [← hn]; exact R.lt j m.x hj) (fun k hk e => hk (R.dis k j m.x e hj)) _ (dst_lt hj)]
                cases hoj : ops[j]? with
                | none => simp [dstOf, hoj] at hj
                | some oj => exact h.quiet j oj m.x hoj hje (by simpa [dstOf, hoj] using hj) hjl
              · rw [Lf_get_none _ fun k _ _ e => hj ⟨k, e⟩]
                exact h.rest m.x fun k ok hok _ e => hj ⟨k, by simp [dstOf, hok, e]⟩
            simp [Act.eval, hsame]
          obtain ⟨nx, hrun, hnx⟩ := run_store_block (P := P) b3 f1 f2 f3 hop hed hex
          rw [if_pos (by simp [Region.wanted, hg'])]
          left
          unfold Oper.wp
          rw [hrun]
          have hstep := ih _ _ _ _ (h.store_step R hm hail (fun o2 ho2 => by rw [ho] at ho2; cases ho2; exact hall)) hc'
          rcases hnx with rfl | ⟨u, rfl⟩ <;> simp only [Oper.upon, hd', Act.put] <;> exact hstep

/-- THE REGION: the closed check; the walk in the text's order, the new variables' operations passed by; behind it, whatever blocks they lie in. -/
theorem wp_region_mk {id : Nat} {Q : Exit → Act → World → Prop} {l : List Oper} (ms : List Mk) (hm : P.follows .mixedOrders = true) (hok : regionOk l.toArray ms a0.tmps.size = true)
    (hal : ∀ m ∈ ms, ∀ o, l.toArray[m.ai]? = some o → ∀ (ρ : Operand → Value) (W : World), (execOp ρ o).run P W = .ok (.value (.pointer (some ⟨W.heap.size, 0, none⟩))) (W.alloc (.cells m.z m.t)))
    (h : wpX P w l.toArray ms (fun a' => (∀ m ∈ ms, (P.info? m.t).map (·.size) = some (a'.tmps.getD m.x undef).cells.size ∧ m.z.size = (a'.tmps.getD m.x undef).cells.size ∧ (a'.tmps.getD m.x undef).cells.all (·.oneCell') = true) ∧
      ∀ (β : Nat → Nat) (W : World), Below w.heap.size w W → (∀ m ∈ ms, w.heap.size ≤ β m.ai ∧ β m.ai < W.heap.size ∧ W.heap[β m.ai]? = some (.cells (a'.tmps.getD m.x undef).cells m.t (0, 0))) →
        (∀ m ∈ ms, ∀ m' ∈ ms, m.ai ≠ m'.ai → β m.ai ≠ β m'.ai) → Q .normal (putAll β ms a') W) 0 l a0) : (Code.region id l.toArray true).wp P Q a0 w := by
  obtain ⟨us, hv, hfq, hQ⟩ := wpX_vals (ops := l.toArray) l 0 (fun _ => undef) (fun j => by simp) (by simp) h (fun i o hi => absurd hi (by omega))
  refine wp_region_any hm ?_
  refine any_mk (regionOk_spec hok) rfl hal hv hfq hQ _ _ _ _ (fun _ => 0) ⟨by simp, fun j oj _ hl => ?_, rfl, rfl, ⟨rfl, rfl, rfl, Nat.le_refl _, fun _ _ => rfl⟩, fun i o d _ _ _ hl => ?_, fun t _ => rfl, fun m _ hl => ?_, fun m _ hl => ?_, fun m _ _ _ hl => ?_⟩ ?_
  · rw [repl_false] at hl; cases hl
  · rw [repl_false] at hl; cases hl
  · rw [repl_false] at hl; cases hl
  · rw [repl_false] at hl; cases hl
  · rw [repl_false] at hl; cases hl
  · exact unl_le _ _
end
attribute [go_sem] xAt xUpon
theorem wpX_nil {P : Program} {w : World} {ops : Array Oper} {ms : List Mk} {Q : Act → Prop} {k : Nat} {a : Act} (h : Q a) : wpX P w ops ms Q k [] a := h
/-- What is known of one new variable. -/
structure Made (W : World) (b : Nat) (t : TypeId) (cs : Array Value) : Prop where
  blk : W.heap[b]? = some (.cells cs t (0, 0))
theorem Made.cell {W : World} {b : Nat} {t : TypeId} {cs : Array Value} (h : Made W b t cs) (i : Nat) : W.cell? ⟨b, i, none⟩ = cs[i]? := cell_of_row W b i cs t (0, 0) h.blk
theorem Made.frozen {W : World} {b : Nat} {t : TypeId} {cs : Array Value} (h : Made W b t cs) (i : Nat) : W.frozen? ⟨b, i, none⟩ = false := frozen_of_row W b i cs t h.blk
theorem Made.lt {W : World} {b : Nat} {t : TypeId} {cs : Array Value} (h : Made W b t cs) : b < W.heap.size := (Array.getElem?_eq_some_iff.1 h.blk).1
theorem mk_one {w : World} {m : Mk} {a' : Act} {P : Act → World → Prop}
    (h : ∀ (b : Nat) (δ : BExt w), w.heap.size ≤ b → Made δ.wd b m.t (a'.tmps.getD m.x undef).cells → P (a'.put (some m.d) (.pointer (some ⟨b, 0, none⟩))) δ.wd) :
    ∀ (β : Nat → Nat) (W : World), Below w.heap.size w W → (∀ m' ∈ [m], w.heap.size ≤ β m'.ai ∧ β m'.ai < W.heap.size ∧ W.heap[β m'.ai]? = some (.cells (a'.tmps.getD m'.x undef).cells m'.t (0, 0))) →
        (∀ m' ∈ [m], ∀ m'' ∈ [m], m'.ai ≠ m''.ai → β m'.ai ≠ β m''.ai) → P (putAll β [m] a') W := by
  intro β W hW hb _
  obtain ⟨h1, _, h3⟩ := hb m (by simp)
  exact h (β m.ai) ⟨W, hW⟩ h1 ⟨h3⟩
theorem mk_two {w : World} {m n : Mk} {a' : Act} {P : Act → World → Prop} (hmn : m.ai ≠ n.ai)
    (h : ∀ (b c : Nat) (δ : BExt w), w.heap.size ≤ b → w.heap.size ≤ c → b ≠ c → Made δ.wd b m.t (a'.tmps.getD m.x undef).cells → Made δ.wd c n.t (a'.tmps.getD n.x undef).cells → P ((a'.put (some m.d) (.pointer (some ⟨b, 0, none⟩))).put (some n.d) (.pointer (some ⟨c, 0, none⟩))) δ.wd) :
    ∀ (β : Nat → Nat) (W : World), Below w.heap.size w W → (∀ m' ∈ [m, n], w.heap.size ≤ β m'.ai ∧ β m'.ai < W.heap.size ∧ W.heap[β m'.ai]? = some (.cells (a'.tmps.getD m'.x undef).cells m'.t (0, 0))) →
        (∀ m' ∈ [m, n], ∀ m'' ∈ [m, n], m'.ai ≠ m''.ai → β m'.ai ≠ β m''.ai) → P (putAll β [m, n] a') W := by
  intro β W hW hb hi
  obtain ⟨h1, _, h3⟩ := hb m (by simp)
  obtain ⟨k1, _, k3⟩ := hb n (by simp)
  exact h (β m.ai) (β n.ai) ⟨W, hW⟩ h1 k1 (hi m (by simp) n (by simp) hmn) ⟨h3⟩ ⟨k3⟩
theorem wpX_stepK {P : Program} {w : World} {ops : Array Oper} {ms : List Mk} {Q : Act → Prop} {k : Nat} {o : Oper} {rest : List Oper} {a : Act} (he : isEff ms k = false) (hw : Region.wanted o (yielded ops a.tmps) = true)
    (h : ∀ K : Act → Prop, (∀ a, wpX P w ops ms Q (k + 1) rest a → K a) → ∃ v, (∀ δ : BExt w, xAt P o a δ.wd v) ∧ K (a.put o.dst v)) : wpX P w ops ms Q k (o :: rest) a :=
  wpX_step he hw (h _ fun _ h => h)
end
end Go.Proofs.Ytkjgcmdabelohaa
