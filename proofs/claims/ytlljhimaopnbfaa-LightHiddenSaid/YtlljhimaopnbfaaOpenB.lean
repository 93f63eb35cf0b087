/- Slices of truth values that came in, opened. No condition. -/
import Derived.Test.YtlljhimaopnbfaaOpenE
import Derived.Test.YtlljhimaopnbfaaLX
namespace Go.Proofs.Ytlljhimaopnbfaa
open Go.ChangeShapes Go.WideShapes Go.RowKit Go.Deep

theorem boolKIs {H : Type} {enc : TypeId × Value → H} {w : World} {base : Nat} {spare : Nat → Bool} {held : Bool} {A : Option Addr} {n c : Nat} {x : DataW H × List MemPlace} (h : ∃ fuel, DataW.trod enc Try.prog w base spare held fuel 52 [.slice A n c] = some x) : ∃ xs, boolK.Is w (.slice A n c) xs := by
  obtain ⟨xs, h1, -⟩ := ekR_of_trod (K := boolK) (R := fun _ => True) Try.underlying52 (by kernel_rfl) (fun fu cs y hy => by
    obtain ⟨b, hb, _⟩ := DataW.trod_bool Try.underlying4 hy
    exact ⟨b, hb.symm, trivial⟩) h
  exact ⟨xs, h1⟩
end Go.Proofs.Ytlljhimaopnbfaa
