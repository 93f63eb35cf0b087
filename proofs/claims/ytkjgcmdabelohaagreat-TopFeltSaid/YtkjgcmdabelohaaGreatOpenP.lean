/- A program (api.Program) that came in, opened. No condition. -/
import Derived.Test.YtkjgcmdabelohaaGreatOpenE
import Derived.Test.YtkjgcmdabelohaaGreatPPat
namespace Go.Proofs.YtkjgcmdabelohaaGreat
open Go.ChangeShapes Go.WideShapes Go.RowKit Go.Deep

def intAt (P : Program) (fs : Array Field) (i : Nat) : Bool := match fs[i]? with
  | some f => f.offset == i && P.cellsOf f.type == 1 && (match P.underlying f.type with | some (.int .i64) => true | _ => false)
  | none => false
def intsAt (P : Program) (fs : Array Field) (i : Nat) : Bool := match fs[i]? with
  | some f => f.offset == i && P.cellsOf f.type == 1 && (match P.underlying f.type with | some (.slice e) => P.cellsOf e == 1 && (match P.underlying e with | some (.int .i64) => true | _ => false) | _ => false)
  | none => false

section
variable {H : Type} {enc : TypeId × Value → H} {P : Program} {w : World} {base : Nat} {spare : Nat → Bool} {held : Bool} {fuel : Nat} {t : TypeId} {cs : List Value} {x : DataW H × List MemPlace}

theorem trod_intAt {fs : Array Field} (ht : P.underlying t = some (.struct fs)) (h : DataW.trod enc P w base spare held fuel t cs = some x) {i : Nat} (hi : intAt P fs i = true) (hl : i < cs.length) : ∃ n : Int, cs[i] = .int .i64 n := by
  obtain ⟨ys, n, _, _, _, hyl, hg⟩ := DataW.trod_struct ht h
  unfold intAt at hi
  split at hi
  · rename_i f hf
    simp only [Bool.and_eq_true, beq_iff_eq] at hi
    obtain ⟨⟨ho, hk⟩, hu⟩ := hi
    have hif : i < fs.size := (Array.getElem?_eq_some_iff.1 hf).1
    have h1 := hg i f hf
    rw [ho, hk, List.drop_eq_getElem_cons hl, List.getElem?_eq_getElem (by omega)] at h1
    split at hu
    · rename_i hu'
      obtain ⟨m, hm, _, _⟩ := DataW.trod_int hu' h1
      exact ⟨m, by injection hm⟩
    · cases hu
  · cases hi
theorem trod_intsAt {fs : Array Field} (ht : P.underlying t = some (.struct fs)) (h : DataW.trod enc P w base spare held fuel t cs = some x) {i : Nat} (hi : intsAt P fs i = true) (hl : i < cs.length) : ∃ A n c zs, cs[i] = .slice A n c ∧ IsI w (.slice A n c) zs := by
  obtain ⟨ys, k, _, _, _, hyl, hg⟩ := DataW.trod_struct ht h
  unfold intsAt at hi
  split at hi
  · rename_i f hf
    simp only [Bool.and_eq_true, beq_iff_eq] at hi
    obtain ⟨⟨ho, hk⟩, hu⟩ := hi
    have hif : i < fs.size := (Array.getElem?_eq_some_iff.1 hf).1
    have h1 := hg i f hf
    rw [ho, hk, List.drop_eq_getElem_cons hl, List.getElem?_eq_getElem (by omega)] at h1
    split at hu
    · rename_i e he
      simp only [Bool.and_eq_true, beq_iff_eq] at hu
      obtain ⟨hce, hu⟩ := hu
      split at hu
      · rename_i hi'
        simp only [List.take_succ_cons, List.take_zero] at h1
        have hsh : ∃ A n c, cs[i] = .slice A n c := by
          rcases open_ints he hi' hce h1 with ⟨hcs, _⟩ | ⟨a, len, cap, zs, hcs, _⟩
          · exact ⟨_, _, _, by simpa using hcs⟩
          · exact ⟨_, _, _, by simpa using hcs⟩
        obtain ⟨A, n, c, hc⟩ := hsh
        rw [hc] at h1
        obtain ⟨zs, hz⟩ := isI_of_trod he hi' hce h1
        exact ⟨A, n, c, zs, hc, hz⟩
      · cases hu
    · cases hu
  · cases hi
end

set_option maxRecDepth 100000 in
theorem prog_of_trod {H : Type} {enc : TypeId × Value → H} {w : World} {base : Nat} {spare : Nat → Bool} {held : Bool} {l : List Value} {x : DataW H × List MemPlace} (h : ∃ fuel, DataW.trod enc Tryz.prog w base spare held fuel 24 l = some x) :
    ∃ (p : PrT) (v : PrV), l = (p.cells v).toList ∧ PrIs w v p := by
  obtain ⟨fuel, h⟩ := h
  obtain ⟨_, _, _, _, hl, _⟩ := DataW.trod_struct Tryz.underlying24 h
  have hl6 : l.length = 6 := by rw [hl]; kernel_rfl
  match l, hl6 with
  | [v0, v1, v2, v3, v4, v5], _ =>
    obtain ⟨A0, n0, k0, z0, e0, hz0⟩ := trod_intsAt Tryz.underlying24 h (i := 0) (by kernel_rfl) (by simp)
    obtain ⟨A1, n1, k1, z1, e1, hz1⟩ := trod_intsAt Tryz.underlying24 h (i := 1) (by kernel_rfl) (by simp)
    obtain ⟨a, ha⟩ := trod_intAt Tryz.underlying24 h (i := 2) (by kernel_rfl) (by simp)
    obtain ⟨b, hb⟩ := trod_intAt Tryz.underlying24 h (i := 3) (by kernel_rfl) (by simp)
    obtain ⟨c, hc⟩ := trod_intAt Tryz.underlying24 h (i := 4) (by kernel_rfl) (by simp)
    obtain ⟨A5, n5, k5, z5, e5, hz5⟩ := trod_intsAt Tryz.underlying24 h (i := 5) (by kernel_rfl) (by simp)
    simp only [List.getElem_cons_zero, List.getElem_cons_succ] at ha hb hc e0 e1 e5
    exact ⟨⟨z0, z1, a, b, c, z5⟩, ⟨_, _, _⟩, by rw [ha, hb, hc, e0, e1, e5], hz0, hz1, hz5⟩
end Go.Proofs.YtkjgcmdabelohaaGreat
