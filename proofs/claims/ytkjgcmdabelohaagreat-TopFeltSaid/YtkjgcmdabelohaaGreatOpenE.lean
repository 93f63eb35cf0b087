/- Slices that came in, opened: of structs of ints, and of other elements. No condition. -/
import Derived.ProofKit
import Derived.OpenShut
import Derived.ChangeOld
import Derived.Deep.Slices
import Derived.Deep.Fields
import Derived.ChangeSame
import Derived.Test.YtkjgcmdabelohaaGreatMBase
import Derived.ChangeSlices
namespace Go.Proofs.YtkjgcmdabelohaaGreat
section
/- Open: How arguments are opened: structs of ints, slices of them. No condition. -/
open Go.ChangeShapes Go.WideShapes Go.RowKit Go.Deep

section
variable {H : Type} {enc : TypeId × Value → H} {P : Program} {w : World} {base : Nat} {spare : Nat → Bool} {held : Bool} {fuel : Nat} {t : TypeId} {cs : List Value} {x : DataW H × List MemPlace}

def intFields (P : Program) (fs : Array Field) : Bool := (List.range fs.size).all fun i => match fs[i]? with
  | some f => f.offset == i && P.cellsOf f.type == 1 && (match P.underlying f.type with | some (.int .i64) => true | _ => false)
  | none => false
theorem intFields_of {fs : Array Field} (h : intFields P fs = true) (i : Nat) (f : Field) (hi : fs[i]? = some f) : f.offset = i ∧ P.cellsOf f.type = 1 ∧ P.underlying f.type = some (.int .i64) := by
  have hlt : i < fs.size := (Array.getElem?_eq_some_iff.1 hi).1
  have := List.all_eq_true.1 h i (List.mem_range.2 hlt)
  simp only [hi, Bool.and_eq_true, beq_iff_eq] at this
  obtain ⟨⟨h1, h2⟩, h3⟩ := this
  refine ⟨h1, h2, ?_⟩
  split at h3
  · assumption
  · cases h3

theorem list_ints : ∀ (l : List Value), (∀ c ∈ l, ∃ n : Int, c = .int .i64 n ∧ (Lit.int .i64 n).wf = true) → ∃ xs : List Int, l = xs.map (Value.int .i64) ∧ ∀ n ∈ xs, (Lit.int .i64 n).wf = true
  | [], _ => ⟨[], rfl, by simp⟩
  | c :: l, h => by
    obtain ⟨n, hn, hw⟩ := h c (by simp)
    obtain ⟨xs, hx, hws⟩ := list_ints l (fun c hc => h c (by simp [hc]))
    exact ⟨n :: xs, by simp [hn, hx], by simpa using ⟨hw, hws⟩⟩

/-- A struct of ints: its cells are ints. -/
theorem trod_ints {fs : Array Field} (ht : P.underlying t = some (.struct fs)) (hf : intFields P fs = true) (hC : P.cellsOf t = fs.size) (h : DataW.trod enc P w base spare held fuel t cs = some x) :
    ∃ xs : List Int, xs.length = fs.size ∧ cs = xs.map (Value.int .i64) ∧ ∀ n ∈ xs, (Lit.int .i64 n).wf = true := by
  obtain ⟨ys, n, _, _, hl, hyl, hg⟩ := DataW.trod_struct ht h
  have hall : ∀ c ∈ cs, ∃ n : Int, c = .int .i64 n ∧ (Lit.int .i64 n).wf = true := by
    intro c hc
    obtain ⟨i, hi, rfl⟩ := List.getElem_of_mem hc
    have hlt : i < fs.size := by omega
    obtain ⟨ho, hk, hu⟩ := intFields_of hf i fs[i] (Array.getElem?_eq_getElem hlt)
    have h1 := hg i fs[i] (Array.getElem?_eq_getElem hlt)
    rw [ho, hk, List.drop_eq_getElem_cons hi, List.getElem?_eq_getElem (by omega)] at h1
    obtain ⟨m, hm, _, hw⟩ := DataW.trod_int hu h1
    exact ⟨m, by injection hm, hw⟩
  obtain ⟨xs, hx, hw⟩ := list_ints cs hall
  exact ⟨xs, by rw [← hC, ← hl, hx]; simp, hx, hw⟩
end

theorem len2 {xs : List Int} (h : xs.length = 2) : ∃ a b, xs = [a, b] := by
  match xs, h with
  | [a, b], _ => exact ⟨a, b, rfl⟩
theorem len3 {xs : List Int} (h : xs.length = 3) : ∃ a b c, xs = [a, b, c] := by
  match xs, h with
  | [a, b, c], _ => exact ⟨a, b, c, rfl⟩
theorem len5 {xs : List Int} (h : xs.length = 5) : ∃ a b c d e, xs = [a, b, c, d, e] := by
  match xs, h with
  | [a, b, c, d, e], _ => exact ⟨a, b, c, d, e, rfl⟩
end
section
/- OpenI: A slice of ints that came in, opened. No condition. -/
open Go.ChangeShapes Go.WideShapes Go.RowKit Go.Deep

theorem isI_of_trod {H : Type} {enc : TypeId × Value → H} {P : Program} {w : World} {base : Nat} {spare : Nat → Bool} {held : Bool} {fuel : Nat} {t e : TypeId} {A : Option Addr} {n c : Nat} {x : DataW H × List MemPlace}
    (ht : P.underlying t = some (.slice e)) (he : P.underlying e = some (.int .i64)) (hc : P.cellsOf e = 1) (h : DataW.trod enc P w base spare held fuel t [.slice A n c] = some x) : ∃ zs, IsI w (.slice A n c) zs := by
  rcases open_ints ht he hc h with ⟨hcs, _⟩ | ⟨a, len, cap, zs, hcs, _, hl, hm, hz, _, hcell, _⟩
  · simp only [List.cons.injEq, Value.slice.injEq, and_true] at hcs
    obtain ⟨rfl, rfl, rfl⟩ := hcs
    exact ⟨[], none, 0, rfl, fun _ => rfl, ⟨Nat.le_refl _, by decide⟩, ⟨rfl, by decide, fun k hk => absurd hk (by simp)⟩⟩
  · simp only [List.cons.injEq, Value.slice.injEq, and_true] at hcs
    obtain ⟨rfl, rfl, rfl⟩ := hcs
    have hzl : n ≤ zs.length := by rw [hz]; split <;> omega
    refine ⟨zs.take n, IsI.of_row (by simp) hl hm ⟨by simp; omega, by omega, fun k hk => ?_⟩⟩
    obtain ⟨b, o, spot⟩ := a
    have h0 := hcell 0 (by omega)
    have hspot : spot = none := by simpa [Addr.add] using World.cell?_spot h0
    subst hspot
    have hk' := hcell k (by omega)
    refine ⟨b, o, rfl, cell_lt (o := o) (v := .int .i64 (zs.getD 0 0)) (by simpa [Addr.add] using h0), ?_⟩
    rw [List.getElem?_take, if_pos hk, ← List.getD_eq_getElem?_getD]
    simp only [Addr.add] at hk'
    split at hk'
    · rename_i h; subst h; exact hk'
    · exact hk'
end
open Go.ChangeShapes Go.WideShapes Go.RowKit Go.Deep

theorem addr_add (b o i : Nat) : (⟨b, o, none⟩ : Addr).add i = ⟨b, o + i, none⟩ := by
  simp only [Addr.add]
  split
  · rename_i h; rw [h]; rfl
  · rfl

theorem ekIs_of_trod {α : Type} {K : EK α} {H : Type} {enc : TypeId × Value → H} {w : World} {base : Nat} {spare : Nat → Bool} {held : Bool} {t : TypeId} {A : Option Addr} {n c : Nat} {x : DataW H × List MemPlace} {fs : Array Field}
    (ht : Tryz.prog.underlying t = some (.slice K.ty)) (hs : Tryz.prog.underlying K.ty = some (.struct fs)) (hf : intFields Tryz.prog fs = true) (hk : Tryz.prog.cellsOf K.ty = K.k) (hz : fs.size = K.k)
    (dec : List Int → α) (henc : ∀ zs : List Int, zs.length = K.k → K.enc (dec zs) = zs.map (Value.int .i64)) (h : ∃ fuel, DataW.trod enc Tryz.prog w base spare held fuel t [.slice A n c] = some x) : ∃ xs, K.Is w (.slice A n c) xs := by
  obtain ⟨fuel, h⟩ := h
  rcases DataW.trod_slice ht h with ⟨h0, _⟩ | ⟨a, len, cap, elems, rest, fu, _, hcs, rfl, hb, hl, hm, hlen, hel, _, _⟩
  · simp only [List.cons.injEq, Value.slice.injEq, and_true] at h0
    obtain ⟨rfl, rfl, rfl⟩ := h0
    exact ⟨[], EK.Is.nil w⟩
  · simp only [List.cons.injEq, Value.slice.injEq, and_true] at hcs
    obtain ⟨rfl, rfl, rfl⟩ := hcs
    have each : ∀ i, i < n → ∃ zs : List Int, zs.length = K.k ∧ ∀ j u, (zs.map (Value.int .i64))[j]? = some u → w.cell? ((a.add (i * K.k)).add j) = some u := fun i hi => by
      have h1 := hel i hi
      rw [List.getElem?_eq_getElem (by omega), Option.bind_eq_some_iff] at h1
      obtain ⟨cs, h2, h3⟩ := h1
      obtain ⟨zs, h4, h5, _⟩ := trod_ints hs hf (by rw [hk, hz]) h3
      refine ⟨zs, by rw [h4, hz], fun j u hu => ?_⟩
      rw [hk] at h2
      obtain ⟨_, h6, h7⟩ := World.cells?_some h2
      rw [← h5] at hu
      rw [h7 j (by rw [← h6]; exact (List.getElem?_eq_some_iff.1 hu).1), hu]
    obtain ⟨f, hfx⟩ : ∃ f : Nat → List Int, ∀ i, i < n → (f i).length = K.k ∧ ∀ j u, ((f i).map (Value.int .i64))[j]? = some u → w.cell? ((a.add (i * K.k)).add j) = some u :=
      ⟨fun i => if hi : i < n then Classical.choose (each i hi) else [], fun i hi => by simpa only [dif_pos hi] using Classical.choose_spec (each i hi)⟩
    refine ⟨(List.range n).map fun i => dec (f i), some a, c, by simp, by simp, ⟨by simpa using hl, hm⟩, fun j hj => ?_⟩
    have hjn : j < n := by simpa using hj
    obtain ⟨h1, h2⟩ := hfx j hjn
    obtain ⟨b, o, spot⟩ := a
    have hp := K.pos
    have h0 := h2 0 _ (List.getElem?_eq_getElem (by simp; omega))
    obtain ⟨g1, g2⟩ := hfx 0 (by omega)
    have hspot : spot = none := by simpa [Addr.add] using World.cell?_spot (g2 0 _ (List.getElem?_eq_getElem (by simp; omega)))
    clear g1 g2
    subst hspot
    refine ⟨b, o, rfl, ?_, fun i u hu => ?_⟩
    · rw [addr_add, addr_add] at h0
      exact cell_lt h0
    · simp only [List.getElem_map, List.getElem_range] at hu
      rw [henc _ h1] at hu
      have := h2 i u hu
      rwa [addr_add, addr_add] at this

/-- A slice whose elements are opened by hel. -/
theorem ekR_of_trod {α : Type} {K : EK α} {R : α → Prop} {H : Type} {enc : TypeId × Value → H} {w : World} {base : Nat} {spare : Nat → Bool} {held : Bool} {t : TypeId} {A : Option Addr} {n c : Nat} {x : DataW H × List MemPlace}
    (ht : Tryz.prog.underlying t = some (.slice K.ty)) (hk : Tryz.prog.cellsOf K.ty = K.k) (hel : ∀ fu cs y, DataW.trod enc Tryz.prog w base spare held fu K.ty cs = some y → ∃ a, K.enc a = cs ∧ R a)
    (h : ∃ fuel, DataW.trod enc Tryz.prog w base spare held fuel t [.slice A n c] = some x) : ∃ xs, K.Is w (.slice A n c) xs ∧ ∀ q (h : q < xs.length), R xs[q] := by
  obtain ⟨fuel, h⟩ := h
  rcases DataW.trod_slice ht h with ⟨h0, _⟩ | ⟨a, len, cap, elems, rest, fu, _, hcs, rfl, hb, hl, hm, hlen, hes, _, _⟩
  · simp only [List.cons.injEq, Value.slice.injEq, and_true] at h0
    obtain ⟨rfl, rfl, rfl⟩ := h0
    exact ⟨[], EK.Is.nil w, fun q h => by simp at h⟩
  · simp only [List.cons.injEq, Value.slice.injEq, and_true] at hcs
    obtain ⟨rfl, rfl, rfl⟩ := hcs
    have each : ∀ i, i < n → ∃ y : α, R y ∧ ∀ j u, (K.enc y)[j]? = some u → w.cell? ((a.add (i * K.k)).add j) = some u := fun i hi => by
      have h1 := hes i hi
      rw [List.getElem?_eq_getElem (by omega), Option.bind_eq_some_iff] at h1
      obtain ⟨cs, h2, h3⟩ := h1
      obtain ⟨y, h4, h5⟩ := hel _ _ _ h3
      refine ⟨y, h5, fun j u hu => ?_⟩
      rw [hk] at h2
      obtain ⟨_, h6, h7⟩ := World.cells?_some h2
      rw [h4] at hu
      rw [h7 j (by rw [← h6]; exact (List.getElem?_eq_some_iff.1 hu).1), hu]
    refine ⟨List.ofFn fun i : Fin n => Classical.choose (each i.val i.isLt), ⟨some a, c, by simp, by simp, ⟨by simpa using hl, hm⟩, fun j hj => ?_⟩, fun q hq => ?_⟩
    · have hjn : j < n := by simpa using hj
      obtain ⟨_, h2⟩ := Classical.choose_spec (each j hjn)
      obtain ⟨b, o, spot⟩ := a
      have hp := K.pos
      have h0 := h2 0 _ (List.getElem?_eq_getElem (by rw [K.len]; exact hp))
      obtain ⟨_, g2⟩ := Classical.choose_spec (each 0 (by omega))
      have hspot : spot = none := by simpa [Addr.add] using World.cell?_spot (g2 0 _ (List.getElem?_eq_getElem (by rw [K.len]; exact hp)))
      clear g2
      subst hspot
      refine ⟨b, o, rfl, ?_, fun i u hu => ?_⟩
      · simp only [addr_add] at h0
        exact cell_lt h0
      · simp only [List.getElem_ofFn] at hu
        have := h2 i u hu
        rwa [addr_add, addr_add] at this
    · simp only [List.getElem_ofFn]
      exact (Classical.choose_spec (each q (by simpa using hq))).1
theorem slice_shape {H : Type} {enc : TypeId × Value → H} {P : Program} {w : World} {base : Nat} {spare : Nat → Bool} {held : Bool} {fuel : Nat} {t e : TypeId} {v : Value} {x : DataW H × List MemPlace} (ht : P.underlying t = some (.slice e)) (h : DataW.trod enc P w base spare held fuel t [v] = some x) : ∃ A n c, v = .slice A n c := by
  rcases DataW.trod_slice ht h with ⟨h0, _⟩ | ⟨a, len, cap, _, _, _, _, hcs, _⟩
  · exact ⟨_, _, _, by simpa using h0⟩
  · exact ⟨_, _, _, by simpa using hcs⟩
end Go.Proofs.YtkjgcmdabelohaaGreat
