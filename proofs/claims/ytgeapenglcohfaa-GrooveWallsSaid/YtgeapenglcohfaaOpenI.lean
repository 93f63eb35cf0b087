/- A slice of ints that came in, opened. No condition. -/
import Derived.Test.YtgeapenglcohfaaOpen
import Derived.Test.YtgeapenglcohfaaInts
import Derived.ChangeSlices
namespace Go.Proofs.Ytgeapenglcohfaa
open Go.ChangeShapes Go.WideShapes Go.RowKit Go.Deep

theorem isI_of_trod {H : Type} {enc : TypeId × Value → H} {P : Program} {w : World} {base : Nat} {spare : Nat → Bool} {held : Bool} {fuel : Nat} {t e : TypeId} {A : Option Addr} {n c : Nat} {x : DataW H × List MemPlace}
    (ht : P.underlying t = some (.slice e)) (he : P.underlying e = some (.int .i64)) (hc : P.cellsOf e = 1) (h : DataW.trod enc P w base spare held fuel t [.slice A n c] = some x) : ∃ zs, IsI w (.slice A n c) zs := by
  rcases open_ints ht he hc h with ⟨hcs, _⟩ | ⟨a, len, cap, zs, hcs, _, hl, hm, hz, _, hcell, _⟩
  · simp only [List.cons.injEq, Value.slice.injEq, and_true] at hcs
    obtain ⟨rfl, rfl, rfl⟩ := hcs
    exact ⟨[], none, 0, rfl, fun _ => rfl, ⟨Nat.le_refl _, by decide⟩, ⟨rfl, by decide, fun k hk => absurd hk (by simp)⟩⟩
  · simp only [List.cons.injEq, Value.slice.injEq, and_true] at hcs
    obtain ⟨rfl, rfl, rfl⟩ := hcs
    have hzl : n ≤ zs.length := by rw [hz]; split <;> omega
    refine ⟨zs.take n, IsI.of_row (by simp) hl hm ⟨by simp; omega, by omega, fun k hk => ?_⟩⟩
    obtain ⟨b, o, spot⟩ := a
    have h0 := hcell 0 (by omega)
    have hspot : spot = none := by simpa [Addr.add] using World.cell?_spot h0
    subst hspot
    have hk' := hcell k (by omega)
    refine ⟨b, o, rfl, cell_lt (o := o) (v := .int .i64 (zs.getD 0 0)) (by simpa [Addr.add] using h0), ?_⟩
    rw [List.getElem?_take, if_pos hk, ← List.getD_eq_getElem?_getD]
    simp only [Addr.add] at hk'
    split at hk'
    · rename_i h; subst h; exact hk'
    · exact hk'
end Go.Proofs.Ytgeapenglcohfaa
