/- How arguments are opened: structs of ints, slices of them. No condition. -/
import Derived.ProofKit
import Derived.OpenShut
import Derived.ChangeOld
import Derived.Deep.Slices
import Derived.Deep.Fields
import Derived.ChangeSame
import Derived.Test.YtgeapenglcohfaaBase
namespace Go.Proofs.Ytgeapenglcohfaa
open Go.ChangeShapes Go.WideShapes Go.RowKit Go.Deep

section
variable {H : Type} {enc : TypeId × Value → H} {P : Program} {w : World} {base : Nat} {spare : Nat → Bool} {held : Bool} {fuel : Nat} {t : TypeId} {cs : List Value} {x : DataW H × List MemPlace}

def intFields (P : Program) (fs : Array Field) : Bool := (List.range fs.size).all fun i => match fs[i]? with
  | some f => f.offset == i && P.cellsOf f.type == 1 && (match P.underlying f.type with | some (.int .i64) => true | _ => false)
  | none => false
theorem intFields_of {fs : Array Field} (h : intFields P fs = true) (i : Nat) (f : Field) (hi : fs[i]? = some f) : f.offset = i ∧ P.cellsOf f.type = 1 ∧ P.underlying f.type = some (.int .i64) := by
  have hlt : i < fs.size := (Array.getElem?_eq_some_iff.1 hi).1
  have := List.all_eq_true.1 h i (List.mem_range.2 hlt)
  simp only [hi, Bool.and_eq_true, beq_iff_eq] at this
  obtain ⟨⟨h1, h2⟩, h3⟩ := this
  refine ⟨h1, h2, ?_⟩
  split at h3
  · assumption
  · cases h3

theorem list_ints : ∀ (l : List Value), (∀ c ∈ l, ∃ n : Int, c = .int .i64 n ∧ (Lit.int .i64 n).wf = true) → ∃ xs : List Int, l = xs.map (Value.int .i64) ∧ ∀ n ∈ xs, (Lit.int .i64 n).wf = true
  | [], _ => ⟨[], rfl, by simp⟩
  | c :: l, h => by
    obtain ⟨n, hn, hw⟩ := h c (by simp)
    obtain ⟨xs, hx, hws⟩ := list_ints l (fun c hc => h c (by simp [hc]))
    exact ⟨n :: xs, by simp [hn, hx], by simpa using ⟨hw, hws⟩⟩

/-- A struct of ints: its cells are ints. -/
theorem trod_ints {fs : Array Field} (ht : P.underlying t = some (.struct fs)) (hf : intFields P fs = true) (hC : P.cellsOf t = fs.size) (h : DataW.trod enc P w base spare held fuel t cs = some x) :
    ∃ xs : List Int, xs.length = fs.size ∧ cs = xs.map (Value.int .i64) ∧ ∀ n ∈ xs, (Lit.int .i64 n).wf = true := by
  obtain ⟨ys, n, _, _, hl, hyl, hg⟩ := DataW.trod_struct ht h
  have hall : ∀ c ∈ cs, ∃ n : Int, c = .int .i64 n ∧ (Lit.int .i64 n).wf = true := by
    intro c hc
    obtain ⟨i, hi, rfl⟩ := List.getElem_of_mem hc
    have hlt : i < fs.size := by omega
    obtain ⟨ho, hk, hu⟩ := intFields_of hf i fs[i] (Array.getElem?_eq_getElem hlt)
    have h1 := hg i fs[i] (Array.getElem?_eq_getElem hlt)
    rw [ho, hk, List.drop_eq_getElem_cons hi, List.getElem?_eq_getElem (by omega)] at h1
    obtain ⟨m, hm, _, hw⟩ := DataW.trod_int hu h1
    exact ⟨m, by injection hm, hw⟩
  obtain ⟨xs, hx, hw⟩ := list_ints cs hall
  exact ⟨xs, by rw [← hC, ← hl, hx]; simp, hx, hw⟩
end

theorem len2 {xs : List Int} (h : xs.length = 2) : ∃ a b, xs = [a, b] := by
  match xs, h with
  | [a, b], _ => exact ⟨a, b, rfl⟩
theorem len3 {xs : List Int} (h : xs.length = 3) : ∃ a b c, xs = [a, b, c] := by
  match xs, h with
  | [a, b, c], _ => exact ⟨a, b, c, rfl⟩
theorem len5 {xs : List Int} (h : xs.length = 5) : ∃ a b c d e, xs = [a, b, c, d, e] := by
  match xs, h with
  | [a, b, c, d, e], _ => exact ⟨a, b, c, d, e, rfl⟩
end Go.Proofs.Ytgeapenglcohfaa
