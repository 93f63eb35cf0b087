/- Slices of structs of ints that came in, opened. No condition. -/
import Derived.Test.YtlljhimaopnbfaaOpenE
import Derived.Test.YtlljhimaopnbfaaLX
namespace Go.Proofs.Ytlljhimaopnbfaa
open Go.ChangeShapes Go.WideShapes Go.RowKit Go.Deep

theorem lightKIs {H : Type} {enc : TypeId × Value → H} {w : World} {base : Nat} {spare : Nat → Bool} {held : Bool} {A : Option Addr} {n c : Nat} {x : DataW H × List MemPlace} (h : ∃ fuel, DataW.trod enc Try.prog w base spare held fuel 70 [.slice A n c] = some x) : ∃ xs, lightK.Is w (.slice A n c) xs :=
  ekIs_of_trod (K := lightK) Try.underlying70 Try.underlying25 (by kernel_rfl) (by kernel_rfl) (by kernel_rfl) (fun zs => (zs[0]?.getD 0, zs[1]?.getD 0, zs[2]?.getD 0)) (fun zs hz => by
    match zs, hz with
    | [a, b, c], _ => rfl) h
theorem shadeKIs {H : Type} {enc : TypeId × Value → H} {w : World} {base : Nat} {spare : Nat → Bool} {held : Bool} {A : Option Addr} {n c : Nat} {x : DataW H × List MemPlace} (h : ∃ fuel, DataW.trod enc Try.prog w base spare held fuel 57 [.slice A n c] = some x) : ∃ xs, shadeK.Is w (.slice A n c) xs :=
  ekIs_of_trod (K := shadeK) Try.underlying57 Try.underlying27 (by kernel_rfl) (by kernel_rfl) (by kernel_rfl) (fun zs => (zs[0]?.getD 0, zs[1]?.getD 0)) (fun zs hz => by
    match zs, hz with
    | [a, b], _ => rfl) h
end Go.Proofs.Ytlljhimaopnbfaa
