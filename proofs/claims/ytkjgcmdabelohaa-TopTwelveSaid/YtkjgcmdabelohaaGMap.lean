/- Maps that the call makes: keys with a decidable equality, elements of one cell. Condition: the map's kind (MK). -/
import Derived.Test.YtkjgcmdabelohaaAcc
import Derived.ChangeMaps4
import Derived.Laws.StructEq
namespace Go.Proofs.Ytkjgcmdabelohaa
open Go.RowKit Go.ChangeMaps

section
variable {κ ε : Type} [DecidableEq κ]

/-- An entry: its key, its element, and when it was laid. -/
def entM (key : κ → Value) (val : ε → Value) (e : κ × ε × Nat) : MapEntry := { key := key e.1, val := val e.2.1, born := e.2.2 }
def findM (val : ε → Value) (a : κ) : List (κ × ε × Nat) → Nat → Option (Nat × Value)
  | [], _ => none
  | e :: es, i => if a = e.1 then some (i, val e.2.1) else findM val a es (i + 1)
def lookM (z : ε) (a : κ) : List (κ × ε × Nat) → ε
  | [] => z
  | e :: es => if a = e.1 then e.2.1 else lookM z a es
def setM (a : κ) (v : ε) (clock : Nat) : List (κ × ε × Nat) → List (κ × ε × Nat)
  | [] => [(a, v, clock)]
  | e :: es => if a = e.1 then (e.1, v, e.2.2) :: es else e :: setM a v clock es
def hasM (a : κ) (es : List (κ × ε × Nat)) : Bool := es.any fun e => decide (a = e.1)
def updM' (m : κ → ε) (a : κ) (v : ε) (b : κ) : ε := if b = a then v else m b
theorem lookM_set (z : ε) (a b : κ) (v : ε) (clock : Nat) : ∀ es, lookM z b (setM a v clock es) = if b = a then v else lookM z b es
  | [] => by
    unfold setM lookM
    split <;> simp_all [lookM]
  | e :: es => by
    unfold setM
    by_cases h : a = e.1
    · rw [if_pos h]
      subst h
      unfold lookM
      by_cases hb : b = e.1
      · rw [if_pos hb, if_pos hb]
      · rw [if_neg hb, if_neg hb, if_neg hb]
    · rw [if_neg h]
      unfold lookM
      by_cases hb : b = e.1
      · rw [if_pos hb, if_neg (fun hh : b = a => h (hh.symm.trans hb)), if_pos hb]
      · rw [if_neg hb, if_neg hb, lookM_set z a b v clock es]
theorem findM_look (val : ε → Value) (z : ε) (a : κ) : ∀ (es : List (κ × ε × Nat)) (i : Nat), (findM val a es i = none ∧ lookM z a es = z) ∨ ∃ j, findM val a es i = some (j, val (lookM z a es))
  | [], i => .inl ⟨rfl, rfl⟩
  | e :: es, i => by
    unfold findM lookM
    by_cases h : a = e.1
    · rw [if_pos h, if_pos h]
      exact .inr ⟨i, rfl⟩
    · rw [if_neg h, if_neg h]
      exact findM_look val z a es (i + 1)
theorem findM_some (val : ε → Value) (a : κ) (v : ε) (clock : Nat) : ∀ (es : List (κ × ε × Nat)) (i : Nat) {j : Nat} {x : Value}, findM val a es i = some (j, x) →
    ∃ k e, j = i + k ∧ es[k]? = some e ∧ a = e.1 ∧ setM a v clock es = es.set k (e.1, v, e.2.2)
  | [], i, j, x, h => by simp [findM] at h
  | e :: es, i, j, x, h => by
    unfold findM at h
    by_cases hk : a = e.1
    · rw [if_pos hk] at h
      simp only [Option.some.injEq, Prod.mk.injEq] at h
      exact ⟨0, e, by omega, rfl, hk, by rw [setM, if_pos hk]; rfl⟩
    · rw [if_neg hk] at h
      obtain ⟨k, e', h1, h2, h3, h4⟩ := findM_some val a v clock es (i + 1) h
      exact ⟨k + 1, e', by omega, by simpa using h2, h3, by rw [setM, if_neg hk, h4]; rfl⟩
theorem findM_none (val : ε → Value) (a : κ) (v : ε) (clock : Nat) : ∀ (es : List (κ × ε × Nat)) (i : Nat), findM val a es i = none → hasM a es = false ∧ setM a v clock es = es ++ [(a, v, clock)]
  | [], i, _ => ⟨rfl, rfl⟩
  | e :: es, i, h => by
    unfold findM at h
    by_cases hk : a = e.1
    · rw [if_pos hk] at h; cases h
    · rw [if_neg hk] at h
      obtain ⟨h1, h2⟩ := findM_none val a v clock es (i + 1) h
      refine ⟨?_, by rw [setM, if_neg hk, h2]; rfl⟩
      unfold hasM at h1 ⊢
      rw [List.any_cons, h1, decide_eq_false hk]
      rfl

/-- A kind of maps. -/
structure MK (κ ε : Type) [DecidableEq κ] where
  T : TypeId
  K : TypeId
  E : TypeId
  key : κ → Value
  val : ε → Value
  z : ε
  und : Try.prog.underlying T = some (.map K E)
  find : ∀ (w : World) (a : κ) (es : List (κ × ε × Nat)), (Instr.findKey K (key a) (es.map (entM key val))).run Try.prog w = .ok (findM val a es 0) w
  check : ∀ (w : World) (e : Bool) (a : κ), (Instr.checkKey e 10000 K (key a)).run Try.prog w = .ok () w
  bits : ∀ a, Instr.sameBits 10000 (key a) (key a) = true
  zero : ∀ w, (zeroValue E).run Try.prog w = .ok (val z) w

variable (G : MK κ ε)
def MK.ents (es : List (κ × ε × Nat)) : Array MapEntry := (es.map (entM G.key G.val)).toArray
/-- In block b lies a map that leads from each key to an element. -/
def MK.At (b : Nat) (m : κ → ε) (W : World) : Prop := ∃ es clock, W.heap[b]? = some (.map (G.ents es) clock) ∧ ∀ a, lookM G.z a es = m a
variable {G}
theorem MK.At.lt {b : Nat} {m : κ → ε} {W : World} (h : G.At b m W) : b < W.heap.size := by
  obtain ⟨es, clock, h1, _⟩ := h
  exact (Array.getElem?_eq_some_iff.1 h1).1
theorem MK.At.ext {b : Nat} {m : κ → ε} {W W' : World} (h : G.At b m W) (x : Ext W W') : G.At b m W' := by
  obtain ⟨es, clock, h1, h2⟩ := h
  exact ⟨es, clock, (x.bel.block b (Array.getElem?_eq_some_iff.1 h1).1).trans h1, h2⟩
theorem MK.At.but {b : Nat} {m : κ → ε} {D : List Nat} {W W' : World} (h : G.At b m W) (x : But D W W') (hb : b ∉ D) : G.At b m W' := by
  obtain ⟨es, clock, h1, h2⟩ := h
  exact ⟨es, clock, (x.block b (Array.getElem?_eq_some_iff.1 h1).1 hb).trans h1, h2⟩
theorem MK.At.new (W : World) : G.At W.heap.size (fun _ => G.z) (W.alloc (.map #[] 0)) := ⟨[], 0, heap_alloc_new W _, fun _ => rfl⟩
theorem MK.At.congr {b : Nat} {m m' : κ → ε} {W : World} (h : G.At b m W) (e : ∀ a, m a = m' a) : G.At b m' W := by
  obtain ⟨es, clock, h1, h2⟩ := h
  exact ⟨es, clock, h1, fun a => (h2 a).trans (e a)⟩
/-- m[a]. -/
theorem MK.At.look {b : Nat} {m : κ → ε} {W : World} (h : G.At b m W) (a : κ) : (Instr.lookup G.T (.map (some b)) (G.key a) false).run Try.prog W = .ok (G.val (m a)) W := by
  obtain ⟨es, clock, h1, h2⟩ := h
  have hf := G.find W a es
  have hg : (getObj b).run Try.prog W = .ok (.map (G.ents es) clock) W := by simp [getObj, Sem.run, h1]
  simp only [Instr.lookup, Sem.run_bind, run_underlying G.und, Result.andThen_ok, hg, Sem.run_pure, G.check]
  rw [show (G.ents es).toList = es.map (entM G.key G.val) by simp [MK.ents], hf, ← h2 a]
  rcases findM_look G.val G.z a es 0 with ⟨e1, e2⟩ | ⟨j, e1⟩
  · rw [e1, e2]
    simp only [Result.andThen_ok, Sem.run_bind, G.zero, Sem.run_pure]
    rfl
  · rw [e1]
    simp only [Result.andThen_ok]
    rfl
theorem modify_setM (es : List (κ × ε × Nat)) (k : Nat) (e : κ × ε × Nat) (h : es[k]? = some e) (f : MapEntry → MapEntry) (e' : κ × ε × Nat) (hf : f (entM G.key G.val e) = entM G.key G.val e') :
    (G.ents es).modify k f = G.ents (es.set k e') := by
  obtain ⟨hk, rfl⟩ := List.getElem?_eq_some_iff.1 h
  apply Array.ext
  · simp [MK.ents]
  · intro i h1 h2
    simp only [MK.ents, List.getElem_toArray, List.getElem_map, List.getElem_set, Array.getElem_modify]
    split
    · rename_i hki; subst hki; exact hf
    · rfl
theorem setBlock_selfM (w : World) (b : Nat) (o : Obj) (h : b < w.heap.size) : (setBlock w b o).heap[b]? = some o := by
  unfold setBlock
  exact Array.getElem?_setIfInBounds_self_of_lt h
theorem setBlock_but (w : World) (b : Nat) (o : Obj) : But [b] w (setBlock w b o) := by
  refine ⟨rfl, rfl, rfl, ?_, fun i hi hne => ?_⟩
  · show w.heap.size ≤ (w.heap.setIfInBounds b o).size
    rw [Array.size_setIfInBounds]
    exact Nat.le_refl _
  · show (w.heap.setIfInBounds b o)[i]? = _
    rw [Array.getElem?_setIfInBounds_ne (fun e => hne (by simp [e]))]
/-- m[a] = v. -/
theorem MK.At.put {b : Nat} {m : κ → ε} {W : World} (h : G.At b m W) (a : κ) (v : ε) : ∃ o, (Instr.mapUpdate G.T (.map (some b)) (G.key a) (G.val v)).run Try.prog W = .ok () (setBlock W b o) ∧ G.At b (updM' m a v) (setBlock W b o) := by
  have hlt := h.lt
  obtain ⟨es, clock, h1, h2⟩ := h
  have hf := G.find W a es
  have hg : (getObj b).run Try.prog W = .ok (.map (G.ents es) clock) W := by simp [getObj, Sem.run, h1]
  have hset : ∀ o', (setObj b o').run Try.prog W = .ok () (setBlock W b o') := fun o' => by simp [setObj, Sem.run, h1, setBlock]
  have hl : (G.ents es).toList = es.map (entM G.key G.val) := by simp [MK.ents]
  refine ⟨.map (G.ents (setM a v clock es)) (clock + if hasM a es then 0 else 1), ?_, _, _, setBlock_selfM _ _ _ hlt, fun c => by rw [lookM_set, h2]; rfl⟩
  simp only [Instr.mapUpdate, Sem.run_bind, run_underlying G.und, Result.andThen_ok, hg, G.check]
  rw [hl, hf]
  cases hr : findM G.val a es 0 with
  | none =>
    obtain ⟨e1, e2⟩ := findM_none G.val a v clock es 0 hr
    simp only [Result.andThen_ok, hset, e1, e2, Bool.false_eq_true, if_false]
    simp [MK.ents, entM]
  | some p =>
    obtain ⟨j, x⟩ := p
    obtain ⟨k, e, hj, hk, ha, hs⟩ := findM_some G.val a v clock es 0 hr
    obtain rfl : j = k := by omega
    have hh : hasM a es = true := by
      simp only [hasM, List.any_eq_true]
      exact ⟨e, List.mem_of_getElem? hk, by simp [ha]⟩
    have hkey : (((G.ents es)[j]?).map (·.key)).getD (G.key a) = G.key a := by
      simp only [MK.ents, List.getElem?_toArray, List.getElem?_map, hk, Option.map_some, Option.getD_some]
      rw [ha]
      rfl
    have hstay : (Instr.keyThatStays (G.key a) (G.key a)).run Try.prog W = .ok (G.key a) W := by
      simp [Instr.keyThatStays, G.bits]
    simp only [Result.andThen_ok, Sem.run_bind, hkey, hstay, hset, hh, if_true, Nat.add_zero]
    rw [hs, modify_setM es j e hk _ (e.1, v, e.2.2) (by simp [entM, ha])]
end

/-- Keys that are numbers. -/
theorem find_intM {ε : Type} (K : TypeId) (hK : Try.prog.underlying K = some (.int .i64)) (val : ε → Value) (w : World) (a : Int) (es : List (Int × ε × Nat)) : (Instr.findKey K (.int .i64 a) (es.map (entM (Value.int .i64) val))).run Try.prog w = .ok (findM val a es 0) w := by
  have h : ∀ (es : List (Int × ε × Nat)) (i : Nat), Instr.findNow (.int .i64) (.int .i64 a) (es.map (entM (Value.int .i64) val)) i = some (findM val a es i) := by
    intro es
    induction es with
    | nil => intro i; rfl
    | cons e es ih =>
      intro i
      rw [List.map_cons]
      unfold Instr.findNow findM
      show (match (if IntKind.i64 = IntKind.i64 then some (a == e.1) else none) with | some true => _ | some false => _ | none => _) = _
      rw [if_pos rfl]
      by_cases hk : a = e.1
      · rw [if_pos hk, show (a == e.1) = true by simpa using hk]
        rfl
      · rw [if_neg hk, show (a == e.1) = false by simpa using hk]
        exact ih (i + 1)
  simp only [Instr.findKey, Sem.run_bind, run_underlying hK, Result.andThen_ok, h]
  rfl
theorem check_intM (K : TypeId) (hK : Try.prog.underlying K = some (.int .i64)) (w : World) (e : Bool) (a : Int) : (Instr.checkKey e 10000 K (.int .i64 a)).run Try.prog w = .ok () w := by
  show (Instr.checkKey e (9999 + 1) K (.int .i64 a)).run Try.prog w = _
  unfold Instr.checkKey
  simp [run_underlying hK]
end Go.Proofs.Ytkjgcmdabelohaa
