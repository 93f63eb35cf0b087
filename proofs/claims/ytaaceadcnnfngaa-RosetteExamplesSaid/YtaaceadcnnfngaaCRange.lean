/- Ranging over a map of windows; what is counted. Condition: the map lies in memory as a list says. -/
import Derived.Test.YtaaceadcnnfngaaCAdd
import Derived.Maps.RangeWalk
namespace Go.Proofs.Ytaaceadcnnfngaa
open Go.RowKit Go.ChangeMaps

/-- A range over a map, under way: which entries have come out. -/
structure RangeAt (w : World) (M r : Nat) (es : List ME) (ck : Nat) (seen : Array Nat) : Prop where
  hr : w.heap[r]? = some (.mapIter (some M) ck seen ck)
  hb : w.heap[M]? = some (.map (entriesOf es) ck)

theorem entriesOf_mem {es : List ME} {x : MapEntry} (h : x ∈ (entriesOf es).toList) : ∃ e ∈ es, x = e.entry := by
  simp only [entriesOf, List.mem_map] at h
  obtain ⟨e, he, rfl⟩ := h
  exact ⟨e, he, rfl⟩
theorem entriesOf_born (es : List ME) : (entriesOf es).toList.map (·.born) = es.map ME.born := by simp [entriesOf, ME.entry, Function.comp_def]

section
variable {w : World} {ops : Array Oper} {rest : List Oper} {o : Oper} {a : Act} {Q : Exit → Act → World → Prop}
theorem wpList_range_W (hg : o.guard = none) (m : Operand) (hop : o.op = Op.range 70 m) {M ck : Nat} {es : List ME} (hm : a.eval m = .map (some M)) (hb : w.heap[M]? = some (.map (entriesOf es) ck))
    (hK : ∀ w', Ext w w' → RangeAt w' M w.heap.size es ck #[] → w'.heap.size = w.heap.size + 1 → wpList Try.prog ops Q rest (a.put o.dst (.pointer (some ⟨w.heap.size, 0, none⟩))) w') :
    wpList Try.prog ops Q (o :: rest) a w := by
  refine wpList_plain hg fun K' hK' => ?_
  have hrun := run_range_map (P := Try.prog) w 70 _ _ M (entriesOf es) ck underlyingM hb
  unfold Oper.wp
  simp [execOp, hop, hm, hrun, Result.andThen]
  refine hK' _ _ (hK _ ((Ext.refl w).alloc _) ⟨heap_alloc_new w _, ?_⟩ (by simp))
  rw [heap_alloc_old w _ (Array.getElem?_eq_some_iff.1 hb).1]
  exact hb

theorem wpList_next_W (hg : o.guard = none) (it : Operand) (hop : o.op = Op.next it false) {M r ck K : Nat} {es : List ME} {seen : Array Nat} (hit : a.eval it = .pointer (some ⟨r, 0, none⟩)) (h : RangeAt w M r es ck seen) (hok : MapOk K es ck)
    (hDone : (∀ e ∈ es, seen.contains e.born = true) → wpList Try.prog ops Q rest (a.put o.dst (.tuple #[.bool false])) w)
    (hMore : ∀ e ∈ es, seen.contains e.born = false → ∀ w', w.grownBy w' (some r) → w'.heap.size = w.heap.size → RangeAt w' M r es ck (seen.push e.born) → w'.rangeLeft M r < w.rangeLeft M r →
      (Instr.entry (.pointer (some ⟨r, 0, none⟩))).run Try.prog w' = .ok (.tuple #[keyV e.a e.b, .int .i64 e.v]) w' → wpList Try.prog ops Q rest (a.put o.dst (.tuple #[.bool true, keyV e.a e.b, .int .i64 e.v])) w') :
    wpList Try.prog ops Q (o :: rest) a w := by
  refine wpList_plain hg fun K' hK' => ?_
  unfold Oper.wp
  have hold : ∀ x ∈ (entriesOf es).toList, x.born < ck := fun x hx => by
    obtain ⟨e, he, rfl⟩ := entriesOf_mem hx
    exact hok.old e he
  rcases run_next_at (P := Try.prog) w o.type r M ck ck seen (entriesOf es) ck h.hr h.hb hold (Nat.le_refl _) with ⟨h0, hrun⟩ | ⟨x, hx, w1, hw1, hrun⟩
  · simp [execOp, hop, hit, hrun, Result.andThen]
    refine hK' _ _ (hDone fun e he => ?_)
    exact all_seen (entriesOf es) seen h0 e.entry (by simp only [entriesOf, List.mem_map]; exact ⟨e, he, rfl⟩)
  · obtain ⟨hx1, hx2⟩ := mem_left hx
    obtain ⟨e, he, rfl⟩ := entriesOf_mem hx1
    simp [execOp, hop, hit, hrun, Result.andThen]
    have hr1 : w1.heap[r]? = some (.mapIter (some M) ck seen ck) := by rcases hw1 with rfl | rfl <;> exact h.hr
    have hb1 : w1.heap[M]? = some (.map (entriesOf es) ck) := by rcases hw1 with rfl | rfl <;> exact h.hb
    have hlt := (Array.getElem?_eq_some_iff.1 hr1).1
    have hne : r ≠ M := fun e => by rw [e, hb1] at hr1; cases hr1
    have R' : RangeAt (setBlock w1 r (.mapIter (some M) ck (seen.push e.born) ck)) M r es ck (seen.push e.born) :=
      ⟨Array.getElem?_setIfInBounds_self_of_lt hlt, by show (w1.heap.setIfInBounds r _)[M]? = _; rw [Array.getElem?_setIfInBounds_ne hne]; exact hb1⟩
    have hsz : (setBlock w1 r (.mapIter (some M) ck (seen.push e.born) ck)).heap.size = w.heap.size := by
      show (w1.heap.setIfInBounds r _).size = _
      rw [Array.size_setIfInBounds]
      rcases hw1 with rfl | rfl <;> rfl
    refine hK' _ _ (hMore e he hx2 _ ⟨?_, ?_, ?_, Nat.le_of_eq hsz.symm, fun i hi hi' => ?_⟩ hsz R' ?_ ?_)
    · rcases hw1 with rfl | rfl <;> rfl
    · rcases hw1 with rfl | rfl <;> rfl
    · rcases hw1 with rfl | rfl <;> rfl
    · show (w1.heap.setIfInBounds r _)[i]? = _
      rw [Array.getElem?_setIfInBounds_ne (fun e => hi' (by rw [e]))]
      rcases hw1 with rfl | rfl <;> rfl
    · show World.rangeLeft (setBlock w1 r (.mapIter (some M) ck (seen.push e.born) ck)) M r < _
      unfold World.rangeLeft
      rw [R'.hr, R'.hb, h.hr, h.hb]
      exact left_shrinks (entriesOf es) seen e.entry hx
    · exact run_entry_at _ r M ck seen (entriesOf es) ck e.entry R'.hr R'.hb hx1 (by rw [entriesOf_born]; exact hok.born)
end

/-- The sum over those that have come out. -/
def visE (f : ME → Int) (seen : Array Nat) (es : List ME) : Int := (es.map fun e => if seen.contains e.born then f e else 0).sum
theorem visE_none (f : ME → Int) (es : List ME) : visE f #[] es = 0 := by
  unfold visE
  induction es with
  | nil => rfl
  | cons e es ih => simpa using ih
theorem visE_all (f : ME → Int) (seen : Array Nat) : ∀ es : List ME, (∀ e ∈ es, seen.contains e.born = true) → visE f seen es = (es.map f).sum
  | [], _ => rfl
  | e :: es, h => by
    have := visE_all f seen es fun x hx => h x (by simp [hx])
    unfold visE at *
    rw [List.map_cons, List.sum_cons, this, List.map_cons, List.sum_cons, if_pos (h e (by simp))]
theorem visE_other (f : ME → Int) (seen : Array Nat) (b : Nat) : ∀ es : List ME, b ∉ es.map ME.born → visE f (seen.push b) es = visE f seen es
  | [], _ => rfl
  | e :: es, h => by
    simp only [List.map_cons, List.mem_cons, not_or] at h
    have := visE_other f seen b es h.2
    unfold visE at *
    rw [List.map_cons, List.sum_cons, this, List.map_cons, List.sum_cons, contains_push]
    have : (e.born == b) = false := by simpa using fun e' => h.1 e'.symm
    rw [this, Bool.or_false]
theorem visE_push (f : ME → Int) (seen : Array Nat) (x : ME) (hs : seen.contains x.born = false) : ∀ es : List ME, (es.map ME.born).Nodup → x ∈ es → visE f (seen.push x.born) es = visE f seen es + f x
  | [], _, h => absurd h (by simp)
  | e :: es, hd, h => by
    rw [List.map_cons, List.nodup_cons] at hd
    rcases List.mem_cons.1 h with rfl | hx
    · have := visE_other f seen x.born es hd.1
      unfold visE at *
      rw [List.map_cons, List.sum_cons, this, List.map_cons, List.sum_cons, contains_push, hs]
      simp
      omega
    · have := visE_push f seen x hs es hd.2 hx
      unfold visE at *
      rw [List.map_cons, List.sum_cons, this, List.map_cons, List.sum_cons, contains_push]
      have hne : (e.born == x.born) = false := by
        simp only [beq_eq_false_iff_ne]
        intro e'
        exact hd.1 (e' ▸ List.mem_map_of_mem hx)
      rw [hne, Bool.or_false]
      omega
theorem visE_bd {f : ME → Int} {seen : Array Nat} {B : Int} (hB : 0 ≤ B) : ∀ es : List ME, (∀ e ∈ es, 0 ≤ f e ∧ f e ≤ B) → 0 ≤ visE f seen es ∧ visE f seen es ≤ es.length * B
  | [], _ => by simp [visE]
  | e :: es, h => by
    have h1 := visE_bd (seen := seen) hB es fun x hx => h x (by simp [hx])
    have h2 := h e (by simp)
    unfold visE at *
    rw [List.map_cons, List.sum_cons, List.length_cons]
    have h3 : ((es.length + 1 : Nat) : Int) * B = (es.length : Int) * B + B := by rw [Int.natCast_add, Int.add_mul]; simp
    rw [h3]
    split <;> omega

def cntA (gs ls ys : List Int) (q h fa lb : Nat) (nxt : Nat → Nat → Int) : Int := if okX gs ls ys q h lb then nxt (stepA (ys.length - 1) q h fa) (stepB (ys.length - 1) h lb) else 0
/-- How many rosettes there are, from a window on. -/
def cntV (gs ls ys : List Int) : Nat → Nat → Nat → Nat → Int
  | 0, _, _, _ => 1
  | f + 1, q, fa, lb => if ls.length ≤ q then cntA gs ls ys q (fa / 2 ^ (q - ls.length) % 2) fa lb (cntV gs ls ys f (q + 1))
    else cntA gs ls ys q 1 fa lb (cntV gs ls ys f (q + 1)) + gs[q]?.getD 0 * cntA gs ls ys q 0 fa lb (cntV gs ls ys f (q + 1))

theorem addE_sum (gs ls ys : List Int) (q h fa lb : Nat) (c : Int) (ck : Nat) (es : List ME) (G : Nat → Nat → Int) : sumE G (addE gs ls ys q h fa lb c ck es) % 1000000007 = (sumE G es + c * cntA gs ls ys q h fa lb G) % 1000000007 := by
  unfold addE cntA
  split
  · exact setE_add _ _ _ _ _ _
  · simp
theorem mod_add_mod {a b c : Int} (h : a % 1000000007 = b % 1000000007) : (a + c) % 1000000007 = (b + c) % 1000000007 := by rw [Int.add_emod, h, ← Int.add_emod]
theorem mod_mul_add {s x k : Int} : (s + x % 1000000007 * k) % 1000000007 = (s + x * k) % 1000000007 := by
  rw [Int.emod_def x]
  have : s + (x - 1000000007 * (x / 1000000007)) * k = (s + x * k) + 1000000007 * (-(x / 1000000007 * k)) := by
    rw [Int.sub_mul, Int.mul_assoc, Int.mul_neg]
    omega
  rw [this, Int.add_mul_emod_self_left]
end Go.Proofs.Ytaaceadcnnfngaa
