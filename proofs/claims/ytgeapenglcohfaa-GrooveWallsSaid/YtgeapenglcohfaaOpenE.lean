/- Slices that came in, opened: of structs of ints, and of other elements. No condition. -/
import Derived.Test.YtgeapenglcohfaaOpenI
import Derived.Test.YtgeapenglcohfaaElem
namespace Go.Proofs.Ytgeapenglcohfaa
open Go.ChangeShapes Go.WideShapes Go.RowKit Go.Deep

theorem addr_add (b o i : Nat) : (⟨b, o, none⟩ : Addr).add i = ⟨b, o + i, none⟩ := by
  simp only [Addr.add]
  split
  · rename_i h; rw [h]; rfl
  · rfl

theorem ekIs_of_trod {α : Type} {K : EK α} {H : Type} {enc : TypeId × Value → H} {w : World} {base : Nat} {spare : Nat → Bool} {held : Bool} {t : TypeId} {A : Option Addr} {n c : Nat} {x : DataW H × List MemPlace} {fs : Array Field}
    (ht : Try.prog.underlying t = some (.slice K.ty)) (hs : Try.prog.underlying K.ty = some (.struct fs)) (hf : intFields Try.prog fs = true) (hk : Try.prog.cellsOf K.ty = K.k) (hz : fs.size = K.k)
    (dec : List Int → α) (henc : ∀ zs : List Int, zs.length = K.k → K.enc (dec zs) = zs.map (Value.int .i64)) (h : ∃ fuel, DataW.trod enc Try.prog w base spare held fuel t [.slice A n c] = some x) : ∃ xs, K.Is w (.slice A n c) xs := by
  obtain ⟨fuel, h⟩ := h
  rcases DataW.trod_slice ht h with ⟨h0, _⟩ | ⟨a, len, cap, elems, rest, fu, _, hcs, rfl, hb, hl, hm, hlen, hel, _, _⟩
  · simp only [List.cons.injEq, Value.slice.injEq, and_true] at h0
    obtain ⟨rfl, rfl, rfl⟩ := h0
    exact ⟨[], EK.Is.nil w⟩
  · simp only [List.cons.injEq, Value.slice.injEq, and_true] at hcs
    obtain ⟨rfl, rfl, rfl⟩ := hcs
    have each : ∀ i, i < n → ∃ zs : List Int, zs.length = K.k ∧ ∀ j u, (zs.map (Value.int .i64))[j]? = some u → w.cell? ((a.add (i * K.k)).add j) = some u := fun i hi => by
      have h1 := hel i hi
      rw [List.getElem?_eq_getElem (by omega), Option.bind_eq_some_iff] at h1
      obtain ⟨cs, h2, h3⟩ := h1
      obtain ⟨zs, h4, h5, _⟩ := trod_ints hs hf (by rw [hk, hz]) h3
      refine ⟨zs, by rw [h4, hz], fun j u hu => ?_⟩
      rw [hk] at h2
      obtain ⟨_, h6, h7⟩ := World.cells?_some h2
      rw [← h5] at hu
      rw [h7 j (by rw [← h6]; exact (List.getElem?_eq_some_iff.1 hu).1), hu]
    obtain ⟨f, hfx⟩ : ∃ f : Nat → List Int, ∀ i, i < n → (f i).length = K.k ∧ ∀ j u, ((f i).map (Value.int .i64))[j]? = some u → w.cell? ((a.add (i * K.k)).add j) = some u :=
      ⟨fun i => if hi : i < n then Classical.choose (each i hi) else [], fun i hi => by simpa only [dif_pos hi] using Classical.choose_spec (each i hi)⟩
    refine ⟨(List.range n).map fun i => dec (f i), some a, c, by simp, by simp, ⟨by simpa using hl, hm⟩, fun j hj => ?_⟩
    have hjn : j < n := by simpa using hj
    obtain ⟨h1, h2⟩ := hfx j hjn
    obtain ⟨b, o, spot⟩ := a
    have hp := K.pos
    have h0 := h2 0 _ (List.getElem?_eq_getElem (by simp; omega))
    obtain ⟨g1, g2⟩ := hfx 0 (by omega)
    have hspot : spot = none := by simpa [Addr.add] using World.cell?_spot (g2 0 _ (List.getElem?_eq_getElem (by simp; omega)))
    clear g1 g2
    subst hspot
    refine ⟨b, o, rfl, ?_, fun i u hu => ?_⟩
    · rw [addr_add, addr_add] at h0
      exact cell_lt h0
    · simp only [List.getElem_map, List.getElem_range] at hu
      rw [henc _ h1] at hu
      have := h2 i u hu
      rwa [addr_add, addr_add] at this

/-- A slice whose elements are opened by hel. -/
theorem ekR_of_trod {α : Type} {K : EK α} {R : α → Prop} {H : Type} {enc : TypeId × Value → H} {w : World} {base : Nat} {spare : Nat → Bool} {held : Bool} {t : TypeId} {A : Option Addr} {n c : Nat} {x : DataW H × List MemPlace}
    (ht : Try.prog.underlying t = some (.slice K.ty)) (hk : Try.prog.cellsOf K.ty = K.k) (hel : ∀ fu cs y, DataW.trod enc Try.prog w base spare held fu K.ty cs = some y → ∃ a, K.enc a = cs ∧ R a)
    (h : ∃ fuel, DataW.trod enc Try.prog w base spare held fuel t [.slice A n c] = some x) : ∃ xs, K.Is w (.slice A n c) xs ∧ ∀ q (h : q < xs.length), R xs[q] := by
  obtain ⟨fuel, h⟩ := h
  rcases DataW.trod_slice ht h with ⟨h0, _⟩ | ⟨a, len, cap, elems, rest, fu, _, hcs, rfl, hb, hl, hm, hlen, hes, _, _⟩
  · simp only [List.cons.injEq, Value.slice.injEq, and_true] at h0
    obtain ⟨rfl, rfl, rfl⟩ := h0
    exact ⟨[], EK.Is.nil w, fun q h => by simp at h⟩
  · simp only [List.cons.injEq, Value.slice.injEq, and_true] at hcs
    obtain ⟨rfl, rfl, rfl⟩ := hcs
    have each : ∀ i, i < n → ∃ y : α, R y ∧ ∀ j u, (K.enc y)[j]? = some u → w.cell? ((a.add (i * K.k)).add j) = some u := fun i hi => by
      have h1 := hes i hi
      rw [List.getElem?_eq_getElem (by omega), Option.bind_eq_some_iff] at h1
      obtain ⟨cs, h2, h3⟩ := h1
      obtain ⟨y, h4, h5⟩ := hel _ _ _ h3
      refine ⟨y, h5, fun j u hu => ?_⟩
      rw [hk] at h2
      obtain ⟨_, h6, h7⟩ := World.cells?_some h2
      rw [h4] at hu
      rw [h7 j (by rw [← h6]; exact (List.getElem?_eq_some_iff.1 hu).1), hu]
    refine ⟨List.ofFn fun i : Fin n => Classical.choose (each i.val i.isLt), ⟨some a, c, by simp, by simp, ⟨by simpa using hl, hm⟩, fun j hj => ?_⟩, fun q hq => ?_⟩
    · have hjn : j < n := by simpa using hj
      obtain ⟨_, h2⟩ := Classical.choose_spec (each j hjn)
      obtain ⟨b, o, spot⟩ := a
      have hp := K.pos
      have h0 := h2 0 _ (List.getElem?_eq_getElem (by rw [K.len]; exact hp))
      obtain ⟨_, g2⟩ := Classical.choose_spec (each 0 (by omega))
      have hspot : spot = none := by simpa [Addr.add] using World.cell?_spot (g2 0 _ (List.getElem?_eq_getElem (by rw [K.len]; exact hp)))
      clear g2
      subst hspot
      refine ⟨b, o, rfl, ?_, fun i u hu => ?_⟩
      · simp only [addr_add] at h0
        exact cell_lt h0
      · simp only [List.getElem_ofFn] at hu
        have := h2 i u hu
        rwa [addr_add, addr_add] at this
    · simp only [List.getElem_ofFn]
      exact (Classical.choose_spec (each q (by simpa using hq))).1
theorem slice_shape {H : Type} {enc : TypeId × Value → H} {P : Program} {w : World} {base : Nat} {spare : Nat → Bool} {held : Bool} {fuel : Nat} {t e : TypeId} {v : Value} {x : DataW H × List MemPlace} (ht : P.underlying t = some (.slice e)) (h : DataW.trod enc P w base spare held fuel t [v] = some x) : ∃ A n c, v = .slice A n c := by
  rcases DataW.trod_slice ht h with ⟨h0, _⟩ | ⟨a, len, cap, _, _, _, _, hcs, _⟩
  · exact ⟨_, _, _, by simpa using h0⟩
  · exact ⟨_, _, _, by simpa using hcs⟩
end Go.Proofs.Ytgeapenglcohfaa
