/- Maps whose keys are pairs: what the model's operations do. Condition: the map lies in memory as a list says. -/
import Derived.Test.YtaaceadcnnfngaaRTouch
import Derived.Maps.RangeRun
import Derived.Laws.StructEq
namespace Go.Proofs.Ytaaceadcnnfngaa
open Go.RowKit Go.ChangeMaps

/-- An entry: a key of two numbers, a count, and when it was laid. -/
structure ME where
  a : Nat
  b : Nat
  v : Int
  born : Nat
def keyV (a b : Nat) : Value := .agg #[.int .u64 (a : Int), .int .u64 (b : Int)]
def ME.entry (e : ME) : MapEntry := { key := keyV e.a e.b, val := .int .i64 e.v, born := e.born }
def entriesOf (es : List ME) : Array MapEntry := (es.map ME.entry).toArray
def findE (a b : Nat) : List ME → Nat → Option (Nat × Value)
  | [], _ => none
  | e :: es, i => if a = e.a ∧ b = e.b then some (i, .int .i64 e.v) else findE a b es (i + 1)
def lookE (a b : Nat) (es : List ME) : Int := ((es.find? fun e => a == e.a && b == e.b).map ME.v).getD 0
def setE (a b : Nat) (v : Int) (clock : Nat) : List ME → List ME
  | [] => [⟨a, b, v, clock⟩]
  | e :: es => if a = e.a ∧ b = e.b then { e with v := v } :: es else e :: setE a b v clock es
def hasE (a b : Nat) (es : List ME) : Bool := es.any fun e => a == e.a && b == e.b

theorem fieldsW : Try.prog.fieldsOf 69 = #[{ name := "first", type := 67, offset := 0, embedded := false, tag := "", pkgPath := "barleycorn/rosette", byteOffset := 0 }, { name := "last", type := 67, offset := 1, embedded := false, tag := "", pkgPath := "barleycorn/rosette", byteOffset := 8 }] := by kernel_rfl
theorem underlyingW : Try.prog.underlying 69 = some (.struct (Try.prog.fieldsOf 69)) := by kernel_rfl
theorem stoodW : Try.prog.stoodInHeld 69 = false := by kernel_rfl
theorem sizeW : Try.prog.cellsOf 67 = 1 := by kernel_rfl

theorem run_equal_key (w : World) (a b c d : Nat) : (Op.equal 69 (keyV a b) (keyV c d)).run Try.prog w = .ok (a == c && b == d) w := by
  unfold Op.equal
  show (Op.equalIn (9999 + 1) _ (.agg _) (.agg _)).run Try.prog w = _
  rw [run_equalIn_agg w 9999 _ _ _ underlyingW stoodW, fieldsW]
  by_cases h1 : a = c <;> by_cases h2 : b = d
  all_goals
    have i1 : (((a : Int) = c) ↔ a = c) := by omega
    have i2 : (((b : Int) = d) ↔ b = d) := by omega
    simp [Op.eqFields, part, go_sem, i1, i2, h1, h2]

theorem run_checkKey_at (w : World) (e : Bool) (n a b : Nat) : (Instr.checkKey e (n + 1 + 1) 69 (keyV a b)).run Try.prog w = .ok () w := by
  unfold keyV
  simp [Instr.checkKey, run_underlying underlyingW, part, go_sem]
theorem run_checkKey (w : World) (e : Bool) (a b : Nat) : (Instr.checkKey e 10000 69 (keyV a b)).run Try.prog w = .ok () w := run_checkKey_at w e 9998 a b
theorem run_findAsking (w : World) (a b : Nat) : ∀ (es : List ME) (i : Nat), (Instr.findAsking 69 (keyV a b) (es.map ME.entry) i).run Try.prog w = .ok (findE a b es i) w
  | [], i => by simp [Instr.findAsking, findE]
  | e :: es, i => by
    simp only [List.map_cons, Instr.findAsking, Sem.run_bind]
    rw [show e.entry.key = keyV e.a e.b from rfl, run_equal_key]
    simp only [Result.andThen_ok, findE]
    by_cases h : a = e.a ∧ b = e.b
    · rw [if_pos h, if_pos (by simp [h])]
      rfl
    · rw [if_neg h, if_neg (by simpa using h)]
      exact run_findAsking w a b es (i + 1)
theorem run_findKey (w : World) (a b : Nat) (es : List ME) : (Instr.findKey 69 (keyV a b) (es.map ME.entry)).run Try.prog w = .ok (findE a b es 0) w := by
  simp only [Instr.findKey, Sem.run_bind, run_underlying underlyingW, Result.andThen_ok]
  cases es with
  | nil => simp [Instr.findNow, findE]
  | cons e es =>
    simp only [List.map_cons, Instr.findNow, Instr.sameNow]
    exact run_findAsking w a b (e :: es) 0

theorem findE_look (a b : Nat) : ∀ (es : List ME) (i : Nat), lookE a b es = match findE a b es i with
    | some (_, .int _ v) => v
    | _ => 0
  | [], i => rfl
  | e :: es, i => by
    unfold findE lookE
    by_cases h : a = e.a ∧ b = e.b
    · rw [if_pos h, List.find?_cons_of_pos (by simp [h])]
      rfl
    · rw [if_neg h, List.find?_cons_of_neg (by simpa using h)]
      exact findE_look a b es (i + 1)
theorem findE_some (a b : Nat) (v : Int) (clock : Nat) : ∀ (es : List ME) (i : Nat) {j : Nat} {x : Value}, findE a b es i = some (j, x) →
    ∃ k e, j = i + k ∧ es[k]? = some e ∧ a = e.a ∧ b = e.b ∧ x = .int .i64 e.v ∧ setE a b v clock es = es.set k { e with v := v }
  | [], i, j, x, h => by simp [findE] at h
  | e :: es, i, j, x, h => by
    unfold findE at h
    by_cases hk : a = e.a ∧ b = e.b
    · rw [if_pos hk] at h
      simp only [Option.some.injEq, Prod.mk.injEq] at h
      exact ⟨0, e, by omega, rfl, hk.1, hk.2, h.2.symm, by rw [setE, if_pos hk]; rfl⟩
    · rw [if_neg hk] at h
      obtain ⟨k, e', h1, h2, h3, h4, h5, h6⟩ := findE_some a b v clock es (i + 1) h
      exact ⟨k + 1, e', by omega, by simpa using h2, h3, h4, h5, by rw [setE, if_neg hk, h6]; rfl⟩
theorem findE_none (a b : Nat) (v : Int) (clock : Nat) : ∀ (es : List ME) (i : Nat), findE a b es i = none → (∀ e ∈ es, ¬ (a = e.a ∧ b = e.b)) ∧ setE a b v clock es = es ++ [⟨a, b, v, clock⟩]
  | [], i, _ => ⟨by simp, rfl⟩
  | e :: es, i, h => by
    unfold findE at h
    by_cases hk : a = e.a ∧ b = e.b
    · rw [if_pos hk] at h; cases h
    · rw [if_neg hk] at h
      obtain ⟨h1, h2⟩ := findE_none a b v clock es (i + 1) h
      exact ⟨fun e' he => by rcases List.mem_cons.1 he with rfl | he
                             · exact hk
                             · exact h1 e' he, by rw [setE, if_neg hk, h2]; rfl⟩

theorem underlyingM : Try.prog.underlying 70 = some (.map 69 3) := by kernel_rfl
theorem run_lookupW {w : World} {M : Nat} {es : List ME} {clock : Nat} (hM : w.heap[M]? = some (.map (entriesOf es) clock)) (a b : Nat) :
    (Instr.lookup 70 (.map (some M)) (keyV a b) false).run Try.prog w = .ok (.int .i64 (lookE a b es)) w := by
  have hz : (zeroValue 3).run Try.prog w = .ok (.int .i64 0) w := by kernel_rfl
  have hf := run_findKey w a b es
  have hl := findE_look a b es 0
  have hg : (getObj M).run Try.prog w = .ok (.map (entriesOf es) clock) w := by simp [getObj, Sem.run, hM]
  have hs := findE_some a b 0 0 es 0 (j := (findE a b es 0).elim 0 (·.1)) (x := (findE a b es 0).elim undef (·.2))
  simp only [Instr.lookup, Sem.run_bind, run_underlying underlyingM, Result.andThen_ok, hg, Sem.run_pure, run_checkKey]
  rw [show (entriesOf es).toList = es.map ME.entry by simp [entriesOf], hf]
  generalize findE a b es 0 = r at hf hl hs
  cases r with
  | none => simp only [Result.andThen_ok, Sem.run_bind, hz, Sem.run_pure]; rw [hl]; rfl
  | some p =>
    obtain ⟨j, x⟩ := p
    obtain ⟨_, e, _, _, _, _, rfl, _⟩ := hs rfl
    simp only [Result.andThen_ok]
    rw [hl]
    rfl

theorem sameBits_key (a b : Nat) : Instr.sameBits 10000 (keyV a b) (keyV a b) = true := by
  unfold keyV
  show Instr.sameBits (9998 + 1 + 1) _ _ = true
  simp [Instr.sameBits]
theorem modify_set (es : List ME) (k : Nat) (e : ME) (h : es[k]? = some e) (f : MapEntry → MapEntry) (e' : ME) (hf : f e.entry = e'.entry) :
    (entriesOf es).modify k f = entriesOf (es.set k e') := by
  obtain ⟨hk, rfl⟩ := List.getElem?_eq_some_iff.1 h
  apply Array.ext
  · simp [entriesOf]
  · intro i h1 h2
    simp only [entriesOf, List.getElem_toArray, List.getElem_map, List.getElem_set, Array.getElem_modify]
    split
    · rename_i hki; subst hki; exact hf
    · rfl

theorem run_mapUpdateW {w : World} {M : Nat} {es : List ME} {clock : Nat} (hM : w.heap[M]? = some (.map (entriesOf es) clock)) (a b : Nat) (v : Int) :
    ∃ clock', (Instr.mapUpdate 70 (.map (some M)) (keyV a b) (.int .i64 v)).run Try.prog w = .ok () (setBlock w M (.map (entriesOf (setE a b v clock es)) clock')) ∧ clock' = clock + (if hasE a b es then 0 else 1) := by
  have hf := run_findKey w a b es
  have hg : (getObj M).run Try.prog w = .ok (.map (entriesOf es) clock) w := by simp [getObj, Sem.run, hM]
  have hset : ∀ o', (setObj M o').run Try.prog w = .ok () (setBlock w M o') := fun o' => by simp [setObj, Sem.run, hM, setBlock]
  have hl : (entriesOf es).toList = es.map ME.entry := by simp [entriesOf]
  refine ⟨_, ?_, rfl⟩
  simp only [Instr.mapUpdate, Sem.run_bind, run_underlying underlyingM, Result.andThen_ok, hg, run_checkKey]
  rw [hl, hf]
  cases hr : findE a b es 0 with
  | none =>
    obtain ⟨h1, h2⟩ := findE_none a b v clock es 0 hr
    have hh : hasE a b es = false := by
      simp only [hasE, List.any_eq_false]
      intro e he hc
      exact h1 e he (by simpa using hc)
    simp only [Result.andThen_ok, hset, h2, hh, Bool.false_eq_true, if_false]
    simp [entriesOf, ME.entry]
  | some p =>
    obtain ⟨j, x⟩ := p
    obtain ⟨k, e, hj, hk, ha, hb, rfl, hs⟩ := findE_some a b v clock es 0 hr
    obtain rfl : j = k := by omega
    have hh : hasE a b es = true := by
      simp only [hasE, List.any_eq_true]
      exact ⟨e, List.mem_of_getElem? hk, by simp [ha, hb]⟩
    have hkey : (((entriesOf es)[j]?).map (·.key)).getD (keyV a b) = keyV a b := by
      simp only [entriesOf, List.getElem?_toArray, List.getElem?_map, hk, Option.map_some, Option.getD_some]
      rw [ha, hb]
      rfl
    have hstay : (Instr.keyThatStays (keyV a b) (keyV a b)).run Try.prog w = .ok (keyV a b) w := by
      simp [Instr.keyThatStays, sameBits_key]
    simp only [Result.andThen_ok, Sem.run_bind, hkey, hstay, hset, hh, if_true, Nat.add_zero]
    rw [hs, modify_set es j e hk _ { e with v := v } (by simp [ME.entry, ha, hb])]
end Go.Proofs.Ytaaceadcnnfngaa
