/- Maps that the call makes, whose keys are known: look up with 'ok', range. Condition: the map's kind (MK); what is laid is never the zero. -/
import Derived.Test.YtkjgcmdabelohaaGMap
import Derived.Maps.RangeWalk
namespace Go.Proofs.Ytkjgcmdabelohaa
open Go.RowKit Go.ChangeMaps
set_option linter.unusedSectionVars false

section
variable {κ ε : Type} [DecidableEq κ] [DecidableEq ε]
/-- The map leads from each key to an element; only keys with an element other than zero are in it. -/
structure PtE (G : MK κ ε) (m : κ → ε) (es : List (κ × ε × Nat)) (clock : Nat) : Prop where
  look : ∀ a, lookM G.z a es = m a
  full : ∀ e ∈ es, m e.1 ≠ G.z
  born : (es.map fun e => e.2.2).Nodup
  old : ∀ e ∈ es, e.2.2 < clock
  vals : ∀ e ∈ es, m e.1 = e.2.1
  keys : (es.map fun e => e.1).Nodup
def MK.Pt (G : MK κ ε) (b : Nat) (m : κ → ε) (W : World) : Prop := ∃ es clock, W.heap[b]? = some (.map (G.ents es) clock) ∧ PtE G m es clock
variable {G : MK κ ε}
theorem nodup_inj {α β : Type} {f : α → β} : ∀ {l : List α}, (l.map f).Nodup → ∀ {x y : α}, x ∈ l → y ∈ l → f x = f y → x = y
  | [], _, _, _, hx, _, _ => by simp at hx
  | a :: l, hn, x, y, hx, hy, h => by
    rw [List.map_cons, List.nodup_cons] at hn
    rcases List.mem_cons.1 hx with e | hx <;> rcases List.mem_cons.1 hy with e2 | hy
    · rw [e, e2]
    · exact absurd (List.mem_map.2 ⟨y, hy, by rw [← h, e]⟩) hn.1
    · exact absurd (List.mem_map.2 ⟨x, hx, by rw [h, e2]⟩) hn.1
    · exact nodup_inj hn.2 hx hy h
theorem MK.Pt.at {b : Nat} {m : κ → ε} {W : World} (h : G.Pt b m W) : G.At b m W := by
  obtain ⟨es, ck, h1, h2⟩ := h
  exact ⟨es, ck, h1, h2.look⟩
theorem MK.Pt.lt {b : Nat} {m : κ → ε} {W : World} (h : G.Pt b m W) : b < W.heap.size := h.at.lt
theorem MK.Pt.ext {b : Nat} {m : κ → ε} {W W' : World} (h : G.Pt b m W) (x : Ext W W') : G.Pt b m W' := by
  obtain ⟨es, ck, h1, h2⟩ := h
  exact ⟨es, ck, (x.bel.block b (Array.getElem?_eq_some_iff.1 h1).1).trans h1, h2⟩
theorem MK.Pt.but {b : Nat} {m : κ → ε} {D : List Nat} {W W' : World} (h : G.Pt b m W) (x : But D W W') (hb : b ∉ D) : G.Pt b m W' := by
  obtain ⟨es, ck, h1, h2⟩ := h
  exact ⟨es, ck, (x.block b (Array.getElem?_eq_some_iff.1 h1).1 hb).trans h1, h2⟩
theorem MK.Pt.new (W : World) : G.Pt W.heap.size (fun _ => G.z) (W.alloc (.map #[] 0)) := ⟨[], 0, heap_alloc_new W _, fun _ => rfl, by simp, by simp, by simp, by simp, by simp⟩
theorem MK.Pt.congr {b : Nat} {m m' : κ → ε} {W : World} (h : G.Pt b m W) (e : ∀ a, m a = m' a) : G.Pt b m' W := by
  obtain rfl : m = m' := funext e
  exact h
theorem lookM_none {z : ε} {a : κ} : ∀ {es : List (κ × ε × Nat)}, hasM a es = false → lookM z a es = z
  | [], _ => rfl
  | e :: es, h => by
    unfold hasM at h
    rw [List.any_cons, Bool.or_eq_false_iff] at h
    unfold lookM
    rw [if_neg (of_decide_eq_false h.1)]
    exact lookM_none (es := es) h.2
theorem hasM_iff {a : κ} {es : List (κ × ε × Nat)} : hasM a es = true ↔ ∃ e ∈ es, a = e.1 := by
  unfold hasM
  rw [List.any_eq_true]
  constructor
  · rintro ⟨e, he, h⟩; exact ⟨e, he, of_decide_eq_true h⟩
  · rintro ⟨e, he, h⟩; exact ⟨e, he, decide_eq_true h⟩
theorem PtE.has {m : κ → ε} {es : List (κ × ε × Nat)} {ck : Nat} (h : PtE G m es ck) (a : κ) : hasM a es = true ↔ m a ≠ G.z := by
  constructor
  · intro hh
    obtain ⟨e, he, rfl⟩ := hasM_iff.1 hh
    exact h.full e he
  · intro hm
    rcases hh : hasM a es with _ | _
    · exact absurd ((h.look a).symm.trans (lookM_none hh)) hm
    · rfl
theorem findM_hasM (val : ε → Value) (a : κ) : ∀ (es : List (κ × ε × Nat)) (i : Nat), findM val a es i = none ↔ hasM a es = false
  | [], i => by simp [findM, hasM]
  | e :: es, i => by
    unfold findM hasM
    rw [List.any_cons]
    by_cases h : a = e.1
    · rw [if_pos h, decide_eq_true h]
      simp
    · rw [if_neg h, decide_eq_false h, Bool.false_or]
      exact findM_hasM val a es (i + 1)
/-- v, ok := m[a]. -/
theorem MK.Pt.lookOk {b : Nat} {m : κ → ε} {W : World} (h : G.Pt b m W) (a : κ) : (Instr.lookup G.T (.map (some b)) (G.key a) true).run Try.prog W = .ok (.tuple #[G.val (m a), .bool (decide (m a ≠ G.z))]) W := by
  obtain ⟨es, clock, h1, h2⟩ := h
  have hf := G.find W a es
  have hg : (getObj b).run Try.prog W = .ok (.map (G.ents es) clock) W := by simp [getObj, Sem.run, h1]
  simp only [Instr.lookup, Sem.run_bind, run_underlying G.und, Result.andThen_ok, hg, Sem.run_pure, G.check]
  rw [show (G.ents es).toList = es.map (entM G.key G.val) by simp [MK.ents], hf, ← h2.look a]
  have hh := h2.has a
  have hn := findM_hasM G.val a es 0
  rcases findM_look G.val G.z a es 0 with ⟨e1, e2⟩ | ⟨j, e1⟩
  · rw [e1, e2]
    simp only [Result.andThen_ok, Sem.run_bind, G.zero, Sem.run_pure]
    simp
  · rw [e1]
    have h3 : lookM G.z a es ≠ G.z := by
      rw [h2.look a]
      refine hh.1 ?_
      rcases hq : hasM a es with _ | _
      · rw [hn.2 hq] at e1; cases e1
      · rfl
    simp only [Result.andThen_ok]
    simp [h3]
theorem setM_new (a : κ) (v : ε) (ck : Nat) : ∀ {es : List (κ × ε × Nat)}, hasM a es = false → setM a v ck es = es ++ [(a, v, ck)]
  | [], _ => rfl
  | e :: es, h => by
    unfold hasM at h
    rw [List.any_cons, Bool.or_eq_false_iff] at h
    unfold setM
    rw [if_neg (of_decide_eq_false h.1), setM_new a v ck (es := es) h.2]
    rfl
theorem setM_old (a : κ) (v : ε) (ck : Nat) : ∀ {es : List (κ × ε × Nat)}, (es.map fun e => e.1).Nodup → hasM a es = true → setM a v ck es = es.map fun e => if e.1 = a then (a, v, e.2.2) else e
  | [], _, h => by simp [hasM] at h
  | e :: es, hn, h => by
    rw [List.map_cons, List.nodup_cons] at hn
    unfold setM
    by_cases hk : a = e.1
    · rw [if_pos hk, List.map_cons, if_pos hk.symm, ← hk]
      have : (es.map fun x => if x.1 = a then (a, v, x.2.2) else x) = es := by
        rw [List.map_congr_left (g := id) fun x hx => ?_, List.map_id]
        rw [if_neg]
        · rfl
        · intro hxa
          exact hn.1 (List.mem_map.2 ⟨x, hx, hxa.trans hk⟩)
      rw [this]
    · rw [if_neg hk, List.map_cons, if_neg (fun h' => hk h'.symm)]
      unfold hasM at h
      rw [List.any_cons, decide_eq_false hk, Bool.false_or] at h
      rw [setM_old a v ck (es := es) hn.2 h]
theorem PtE.put {m : κ → ε} {es : List (κ × ε × Nat)} {ck : Nat} (h : PtE G m es ck) (a : κ) {v : ε} (hv : v ≠ G.z) : PtE G (updM' m a v) (setM a v ck es) (ck + if hasM a es then 0 else 1) := by
  have hl : ∀ b, lookM G.z b (setM a v ck es) = updM' m a v b := fun b => by rw [lookM_set, h.look]; rfl
  rcases hh : hasM a es with _ | _
  · rw [setM_new a v ck hh] at hl ⊢
    have hne : ∀ e ∈ es, e.1 ≠ a := fun e he e' => by
      have := hasM_iff.2 ⟨e, he, e'.symm⟩
      rw [hh] at this; cases this
    refine ⟨hl, fun e he => ?_, ?_, fun e he => ?_, fun e he => ?_, ?_⟩
    · rcases List.mem_append.1 he with he | he
      · unfold updM'; rw [if_neg (hne e he)]; exact h.full e he
      · obtain rfl := List.mem_singleton.1 he
        unfold updM'; rw [if_pos rfl]; exact hv
    · rw [List.map_append, List.nodup_append]
      refine ⟨h.born, by simp, fun x hx y hy => ?_⟩
      obtain ⟨e, he, rfl⟩ := List.mem_map.1 hx
      obtain rfl : y = ck := by simpa using hy
      exact Nat.ne_of_lt (h.old e he)
    · rcases List.mem_append.1 he with he | he
      · have := h.old e he; simp; omega
      · obtain rfl := List.mem_singleton.1 he
        simp
    · rcases List.mem_append.1 he with he | he
      · unfold updM'; rw [if_neg (hne e he)]; exact h.vals e he
      · obtain rfl := List.mem_singleton.1 he
        unfold updM'; rw [if_pos rfl]
    · rw [List.map_append, List.nodup_append]
      refine ⟨h.keys, by simp, fun x hx y hy => ?_⟩
      obtain ⟨e, he, rfl⟩ := List.mem_map.1 hx
      obtain rfl : y = a := by simpa using hy
      exact hne e he
  · rw [setM_old a v ck h.keys hh] at hl ⊢
    have hb : ((es.map fun e => if e.1 = a then (a, v, e.2.2) else e).map fun e => e.2.2) = es.map fun e => e.2.2 := by
      rw [List.map_map]
      refine List.map_congr_left fun x _ => ?_
      show (if x.1 = a then (a, v, x.2.2) else x).2.2 = x.2.2
      split <;> rfl
    have hk : ((es.map fun e => if e.1 = a then (a, v, e.2.2) else e).map fun e => e.1) = es.map fun e => e.1 := by
      rw [List.map_map]
      refine List.map_congr_left fun x _ => ?_
      show (if x.1 = a then (a, v, x.2.2) else x).1 = x.1
      split
      · rename_i hx; exact hx.symm
      · rfl
    refine ⟨hl, fun e he => ?_, hb ▸ h.born, fun e he => ?_, fun e he => ?_, hk ▸ h.keys⟩
    all_goals
      obtain ⟨x, hx, rfl⟩ := List.mem_map.1 he
      by_cases hxa : x.1 = a
    · rw [if_pos hxa]; unfold updM'; rw [if_pos rfl]; exact hv
    · rw [if_neg hxa]; unfold updM'; rw [if_neg hxa]; exact h.full x hx
    · rw [if_pos hxa]; exact h.old x hx
    · rw [if_neg hxa]; exact h.old x hx
    · rw [if_pos hxa]; unfold updM'; rw [if_pos rfl]
    · rw [if_neg hxa]; unfold updM'; rw [if_neg hxa]; exact h.vals x hx
theorem put_runM {b : Nat} {W : World} {es : List (κ × ε × Nat)} {clock : Nat} (h1 : W.heap[b]? = some (.map (G.ents es) clock)) (a : κ) (v : ε) :
    (Instr.mapUpdate G.T (.map (some b)) (G.key a) (G.val v)).run Try.prog W = .ok () (setBlock W b (.map (G.ents (setM a v clock es)) (clock + if hasM a es then 0 else 1))) := by
  have hf := G.find W a es
  have hg : (getObj b).run Try.prog W = .ok (.map (G.ents es) clock) W := by simp [getObj, Sem.run, h1]
  have hset : ∀ o', (setObj b o').run Try.prog W = .ok () (setBlock W b o') := fun o' => by simp [setObj, Sem.run, h1, setBlock]
  have hl : (G.ents es).toList = es.map (entM G.key G.val) := by simp [MK.ents]
  simp only [Instr.mapUpdate, Sem.run_bind, run_underlying G.und, Result.andThen_ok, hg, G.check]
  rw [hl, hf]
  cases hr : findM G.val a es 0 with
  | none =>
    obtain ⟨e1, e2⟩ := findM_none G.val a v clock es 0 hr
    simp only [Result.andThen_ok, hset, e1, e2, Bool.false_eq_true, if_false]
    simp [MK.ents, entM]
  | some p =>
    obtain ⟨j, x⟩ := p
    obtain ⟨k, e, hj, hk, ha, hs⟩ := findM_some G.val a v clock es 0 hr
    obtain rfl : j = k := by omega
    have hh : hasM a es = true := by
      simp only [hasM, List.any_eq_true]
      exact ⟨e, List.mem_of_getElem? hk, by simp [ha]⟩
    have hkey : (((G.ents es)[j]?).map (·.key)).getD (G.key a) = G.key a := by
      simp only [MK.ents, List.getElem?_toArray, List.getElem?_map, hk, Option.map_some, Option.getD_some]
      rw [ha]
      rfl
    have hstay : (Instr.keyThatStays (G.key a) (G.key a)).run Try.prog W = .ok (G.key a) W := by
      simp [Instr.keyThatStays, G.bits]
    simp only [Result.andThen_ok, Sem.run_bind, hkey, hstay, hset, hh, if_true, Nat.add_zero]
    rw [hs, modify_setM es j e hk _ (e.1, v, e.2.2) (by simp [entM, ha])]
/-- m[a] = v. -/
theorem MK.Pt.put {b : Nat} {m : κ → ε} {W : World} (h : G.Pt b m W) (a : κ) {v : ε} (hv : v ≠ G.z) : ∃ o, (Instr.mapUpdate G.T (.map (some b)) (G.key a) (G.val v)).run Try.prog W = .ok () (setBlock W b o) ∧ G.Pt b (updM' m a v) (setBlock W b o) := by
  have hlt := h.lt
  obtain ⟨es, clock, h1, h2⟩ := h
  exact ⟨_, put_runM h1 a v, _, _, setBlock_selfM _ _ _ hlt, h2.put a hv⟩

/-- A range over the map under way: 'seen': the keys that have come out. -/
def MK.Rg (G : MK κ ε) (b r : Nat) (m : κ → ε) (S : κ → Bool) (W : World) : Prop := ∃ es ck seen, W.heap[r]? = some (.mapIter (some b) ck seen ck) ∧ W.heap[b]? = some (.map (G.ents es) ck) ∧ PtE G m es ck ∧ ∀ e ∈ es, S e.1 = seen.contains e.2.2
theorem MK.Rg.pt {b r : Nat} {m : κ → ε} {S : κ → Bool} {W : World} (h : G.Rg b r m S W) : G.Pt b m W := by
  obtain ⟨es, ck, seen, _, h1, h2, _⟩ := h
  exact ⟨es, ck, h1, h2⟩
theorem MK.Rg.ext {b r : Nat} {m : κ → ε} {S : κ → Bool} {W W' : World} (h : G.Rg b r m S W) (x : Ext W W') : G.Rg b r m S W' := by
  obtain ⟨es, ck, seen, h0, h1, h2⟩ := h
  exact ⟨es, ck, seen, (x.bel.block r (Array.getElem?_eq_some_iff.1 h0).1).trans h0, (x.bel.block b (Array.getElem?_eq_some_iff.1 h1).1).trans h1, h2⟩
theorem ents_mem {es : List (κ × ε × Nat)} {x : MapEntry} (h : x ∈ (G.ents es).toList) : ∃ e ∈ es, x = entM G.key G.val e := by
  simp only [MK.ents, List.mem_map] at h
  obtain ⟨e, he, rfl⟩ := h
  exact ⟨e, he, rfl⟩
theorem ents_born (es : List (κ × ε × Nat)) : (G.ents es).toList.map (·.born) = es.map fun e => e.2.2 := by simp [MK.ents, entM, Function.comp_def]
section
variable {w : World} {ops : Array Oper} {rest : List Oper} {o : Oper} {a : Act} {Q : Exit → Act → World → Prop}
theorem wpList_rangeM (hg : o.guard = none) (mm : Operand) (hop : o.op = Op.range G.T mm) {M : Nat} {m : κ → ε} (hm : a.eval mm = .map (some M)) (hb : G.Pt M m w)
    (hK : ∀ w', Ext w w' → G.Rg M w.heap.size m (fun _ => false) w' → w'.heap.size = w.heap.size + 1 → wpList Try.prog ops Q rest (a.put o.dst (.pointer (some ⟨w.heap.size, 0, none⟩))) w') :
    wpList Try.prog ops Q (o :: rest) a w := by
  obtain ⟨es, ck, h1, h2⟩ := hb
  refine wpList_plain hg fun K' hK' => ?_
  have hrun := run_range_map (P := Try.prog) w G.T _ _ M (G.ents es) ck G.und h1
  unfold Oper.wp
  simp [execOp, hop, hm, hrun, Result.andThen]
  refine hK' _ _ (hK _ ((Ext.refl w).alloc _) ⟨es, ck, #[], heap_alloc_new w _, ?_, h2, fun e _ => by simp⟩ (by simp))
  rw [heap_alloc_old w _ (Array.getElem?_eq_some_iff.1 h1).1]
  exact h1
theorem wpList_nextM (hg : o.guard = none) (it : Operand) (hop : o.op = Op.next it false) {M r : Nat} {m : κ → ε} {S : κ → Bool} (hit : a.eval it = .pointer (some ⟨r, 0, none⟩)) (h : G.Rg M r m S w)
    (hDone : (∀ x, m x ≠ G.z → S x = true) → wpList Try.prog ops Q rest (a.put o.dst (.tuple #[.bool false])) w)
    (hMore : ∀ x, m x ≠ G.z → S x = false → ∀ w', w.grownBy w' (some r) → w'.heap.size = w.heap.size → G.Rg M r m (fun y => decide (y = x) || S y) w' → w'.rangeLeft M r < w.rangeLeft M r →
      (Instr.entry (.pointer (some ⟨r, 0, none⟩))).run Try.prog w' = .ok (.tuple #[G.key x, G.val (m x)]) w' → wpList Try.prog ops Q rest (a.put o.dst (.tuple #[.bool true, G.key x, G.val (m x)])) w') :
    wpList Try.prog ops Q (o :: rest) a w := by
  obtain ⟨es, ck, seen, hr, hb, hp, hS⟩ := h
  refine wpList_plain hg fun K' hK' => ?_
  unfold Oper.wp
  have hold : ∀ x ∈ (G.ents es).toList, x.born < ck := fun x hx => by
    obtain ⟨e, he, rfl⟩ := ents_mem hx
    exact hp.old e he
  rcases run_next_at (P := Try.prog) w o.type r M ck ck seen (G.ents es) ck hr hb hold (Nat.le_refl _) with ⟨h0, hrun⟩ | ⟨x, hx, w1, hw1, hrun⟩
  · simp [execOp, hop, hit, hrun, Result.andThen]
    refine hK' _ _ (hDone fun y hy => ?_)
    obtain ⟨e, he, rfl⟩ := hasM_iff.1 ((hp.has y).2 hy)
    rw [hS e he]
    exact all_seen (G.ents es) seen h0 (entM G.key G.val e) (by simp only [MK.ents, List.mem_map]; exact ⟨e, he, rfl⟩)
  · obtain ⟨hx1, hx2⟩ := mem_left hx
    obtain ⟨e, he, rfl⟩ := ents_mem hx1
    simp [execOp, hop, hit, hrun, Result.andThen]
    have hr1 : w1.heap[r]? = some (.mapIter (some M) ck seen ck) := by rcases hw1 with rfl | rfl <;> exact hr
    have hb1 : w1.heap[M]? = some (.map (G.ents es) ck) := by rcases hw1 with rfl | rfl <;> exact hb
    have hlt := (Array.getElem?_eq_some_iff.1 hr1).1
    have hne : r ≠ M := fun e => by rw [e, hb1] at hr1; cases hr1
    have hr' : (setBlock w1 r (.mapIter (some M) ck (seen.push e.2.2) ck)).heap[r]? = some (.mapIter (some M) ck (seen.push e.2.2) ck) := Array.getElem?_setIfInBounds_self_of_lt hlt
    have hb' : (setBlock w1 r (.mapIter (some M) ck (seen.push e.2.2) ck)).heap[M]? = some (.map (G.ents es) ck) := by
      show (w1.heap.setIfInBounds r _)[M]? = _
      rw [Array.getElem?_setIfInBounds_ne hne]; exact hb1
    have hsz : (setBlock w1 r (.mapIter (some M) ck (seen.push e.2.2) ck)).heap.size = w.heap.size := by
      show (w1.heap.setIfInBounds r _).size = _
      rw [Array.size_setIfInBounds]
      rcases hw1 with rfl | rfl <;> rfl
    have hv := hp.vals e he
    have hK2 := hMore e.1 (hp.full e he) ((hS e he).trans hx2) (setBlock w1 r (.mapIter (some M) ck (seen.push e.2.2) ck))
    rw [hv] at hK2
    refine hK' _ _ (hK2 ⟨?_, ?_, ?_, Nat.le_of_eq hsz.symm, fun i hi hi' => ?_⟩ hsz ⟨es, ck, _, hr', hb', hp, fun e2 he2 => ?_⟩ ?_ ?_)
    · rcases hw1 with rfl | rfl <;> rfl
    · rcases hw1 with rfl | rfl <;> rfl
    · rcases hw1 with rfl | rfl <;> rfl
    · show (w1.heap.setIfInBounds r _)[i]? = _
      rw [Array.getElem?_setIfInBounds_ne (fun e => hi' (by rw [e]))]
      rcases hw1 with rfl | rfl <;> rfl
    · show (decide (e2.1 = e.1) || S e2.1) = _
      rw [contains_push, hS e2 he2]
      have hiff : (e2.1 = e.1) ↔ (e2.2.2 = e.2.2) := by
        constructor
        · intro hq
          exact congrArg (fun x : κ × ε × Nat => x.2.2) (nodup_inj hp.keys he2 he hq)
        · intro hq
          exact congrArg (fun x : κ × ε × Nat => x.1) (nodup_inj hp.born he2 he hq)
      rw [Bool.or_comm]
      congr 1
      by_cases hq : e2.1 = e.1
      · rw [decide_eq_true hq]; simpa using hiff.1 hq
      · rw [decide_eq_false hq]; simpa using fun h' => hq (hiff.2 h')
    · unfold World.rangeLeft
      rw [hr', hb', hr, hb]
      exact left_shrinks (G.ents es) seen (entM G.key G.val e) hx
    · exact run_entry_at _ r M ck seen (G.ents es) ck (entM G.key G.val e) hr' hb' hx1 (by rw [ents_born]; exact hp.born)
end
end
end Go.Proofs.Ytkjgcmdabelohaa
