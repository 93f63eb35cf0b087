/- Maps keyed by pairs, and sets of numbers. No condition. -/
import Derived.Test.YtgeapenglcohfaaGMap
namespace Go.Proofs.Ytgeapenglcohfaa
open Go.RowKit Go.ChangeMaps

def pairV (p : Int × Int) : Value := .agg #[.int .i64 p.1, .int .i64 p.2]
theorem fieldsPr : Try.prog.fieldsOf 91 = #[{ name := "A", type := 3, offset := 0, embedded := false, tag := "", pkgPath := "", byteOffset := 0 }, { name := "B", type := 3, offset := 1, embedded := false, tag := "", pkgPath := "", byteOffset := 8 }] := by kernel_rfl
theorem underlyingPr : Try.prog.underlying 91 = some (.struct (Try.prog.fieldsOf 91)) := by kernel_rfl
theorem stoodPr : Try.prog.stoodInHeld 91 = false := by kernel_rfl
theorem run_equal_pair (w : World) (p q : Int × Int) : (Op.equal 91 (pairV p) (pairV q)).run Try.prog w = .ok (p.1 == q.1 && p.2 == q.2) w := by
  unfold Op.equal pairV
  show (Op.equalIn (9999 + 1) _ (.agg _) (.agg _)).run Try.prog w = _
  rw [run_equalIn_agg w 9999 _ _ _ underlyingPr stoodPr, fieldsPr]
  by_cases h1 : p.1 = q.1 <;> by_cases h2 : p.2 = q.2 <;> simp [Op.eqFields, part, go_sem, h1, h2]
theorem check_pair_at (w : World) (e : Bool) (n : Nat) (p : Int × Int) : (Instr.checkKey e (n + 1 + 1) 91 (pairV p)).run Try.prog w = .ok () w := by
  unfold pairV
  simp [Instr.checkKey, run_underlying underlyingPr, part, go_sem]
theorem check_pair (w : World) (e : Bool) (p : Int × Int) : (Instr.checkKey e 10000 91 (pairV p)).run Try.prog w = .ok () w := check_pair_at w e 9998 p
theorem find_pairM {ε : Type} (val : ε → Value) (w : World) (a : Int × Int) (es : List ((Int × Int) × ε × Nat)) : (Instr.findKey 91 (pairV a) (es.map (entM pairV val))).run Try.prog w = .ok (findM val a es 0) w := by
  have h : ∀ (es : List ((Int × Int) × ε × Nat)) (i : Nat), (Instr.findAsking 91 (pairV a) (es.map (entM pairV val)) i).run Try.prog w = .ok (findM val a es i) w := by
    intro es
    induction es with
    | nil => intro i; simp [Instr.findAsking, findM]
    | cons e es ih =>
      intro i
      simp only [List.map_cons, Instr.findAsking, Sem.run_bind]
      rw [show (entM pairV val e).key = pairV e.1 from rfl, run_equal_pair]
      simp only [Result.andThen_ok, findM]
      by_cases hk : a = e.1
      · rw [if_pos hk, if_pos (by simp [hk])]
        rfl
      · rw [if_neg hk, if_neg (by
          intro hh
          rw [Bool.and_eq_true, beq_iff_eq, beq_iff_eq] at hh
          exact hk (Prod.ext hh.1 hh.2))]
        exact ih (i + 1)
  simp only [Instr.findKey, Sem.run_bind, run_underlying underlyingPr, Result.andThen_ok]
  cases es with
  | nil => simp [Instr.findNow, findM]
  | cons e es =>
    simp only [List.map_cons, Instr.findNow, Instr.sameNow]
    exact h (e :: es) 0
def mapPB : MK (Int × Int) Bool := ⟨92, 91, 4, pairV, Value.bool, false, by kernel_rfl, fun w a es => find_pairM _ w a es, fun w e a => check_pair w e a, fun a => by unfold pairV; show Instr.sameBits (9998 + 1 + 1) _ _ = true; simp [Instr.sameBits], fun w => by kernel_rfl⟩
def mapIB : MK Int Bool := ⟨93, 3, 4, Value.int .i64, Value.bool, false, by kernel_rfl, fun w a es => find_intM _ (by kernel_rfl) _ w a es, fun w e a => check_intM _ (by kernel_rfl) w e a, fun a => by simp [Instr.sameBits], fun w => by kernel_rfl⟩
/-- Is it one of them? -/
def memB {α : Type} [DecidableEq α] (l : List α) (p : α) : Bool := l.any fun q => decide (q = p)
theorem memB_iff {α : Type} [DecidableEq α] {l : List α} {p : α} : memB l p = true ↔ p ∈ l := by
  unfold memB
  rw [List.any_eq_true]
  constructor
  · rintro ⟨q, hq, he⟩
    rw [← of_decide_eq_true he]
    exact hq
  · intro h
    exact ⟨p, h, decide_eq_true rfl⟩
theorem take_set {α : Type} [DecidableEq α] (l : List α) {i : Nat} (h : i < l.length) (a : α) : updM' (fun p => memB (l.take i) p) l[i] true a = memB (l.take (i + 1)) a := by
  unfold updM'
  rw [List.take_succ_eq_append_getElem h, Bool.eq_iff_iff]
  simp only [memB_iff, List.mem_append, List.mem_singleton]
  split
  · rename_i e
    exact ⟨fun _ => .inr e, fun _ => rfl⟩
  · rename_i e
    rw [memB_iff]
    exact ⟨.inl, fun h => h.resolve_right e⟩
end Go.Proofs.Ytgeapenglcohfaa
