/- What the walks of the rosette laws share: lists of slices that read as lists, lists of slices of the call's own. No condition. -/
import Derived.Test.YtaaceadcnnfngaaRLawT
namespace Go.Proofs.Ytaaceadcnnfngaa
open Go.RowKit

/-- Slices that read as lists. -/
def Has (w : World) (L : List (Value × List Int)) : Prop := ∀ p ∈ L, IsI w p.1 p.2
theorem Has.nil (w : World) : Has w [] := fun _ h => absurd h (by simp)
theorem Has.ext {w w' : World} {L : List (Value × List Int)} (h : Has w L) (x : Ext w w') : Has w' L := fun p hp => (h p hp).ext x
theorem Has.snoc {w : World} {L : List (Value × List Int)} (h : Has w L) {v : Value} {zs : List Int} (o : IsI w v zs) : Has w (L ++ [(v, zs)]) := fun p hp => by
  rcases List.mem_append.1 hp with hp | hp
  · exact h p hp
  · obtain rfl : p = (v, zs) := by simpa using hp
    exact o
theorem Has.get {w : World} {L : List (Value × List Int)} (h : Has w L) (i : Nat) {v : Value} {zs : List Int} (hi : L[i]? = some (v, zs)) : IsI w v zs := h _ (List.mem_of_getElem? hi)

/-- Slices of the call's own, no two of one block. -/
structure Mine (B : Nat) (w : World) (L : List (Value × List Int)) : Prop where
  own : ∀ p ∈ L, OwnI B w p.1 p.2
  apart : L.Pairwise fun p q => ∀ k, p.1.ownBlock = some k → q.1.ownBlock ≠ some k
theorem Mine.nil (B : Nat) (w : World) : Mine B w [] := ⟨fun _ h => absurd h (by simp), List.Pairwise.nil⟩
theorem Mine.ext {B : Nat} {w w' : World} {L : List (Value × List Int)} (h : Mine B w L) (x : Ext w w') : Mine B w' L := ⟨fun p hp => (h.own p hp).ext x, h.apart⟩
theorem Mine.snoc {B : Nat} {w w' : World} {L : List (Value × List Int)} (h : Mine B w L) (hB : B ≤ w.heap.size) (x : Ext w w') {v : Value} {zs : List Int} (o : OwnI w.heap.size w' v zs) : Mine B w' (L ++ [(v, zs)]) := by
  refine ⟨fun p hp => ?_, List.pairwise_append.2 ⟨h.apart, List.pairwise_singleton _ _, fun p hp q hq k hk e => ?_⟩⟩
  · rcases List.mem_append.1 hp with hp | hp
    · exact (h.own p hp).ext x
    · obtain rfl : p = (v, zs) := by simpa using hp
      exact o.mono hB
  · obtain rfl : q = (v, zs) := by simpa using hq
    have h1 := (World.ownsRow.lt (h.own p hp) k hk).2
    have h2 := (World.ownsRow.lt o k e).1
    omega
theorem Mine.erase {w8 w : World} {v : Value} {zs : List Int} {L : List (Value × List Int)} (E : Ext w8 w) (h : Mine w8.heap.size w ((v, zs) :: L)) :
    Calls Try.prog 32 #[v] w fun e w' => e = .returned (.tuple #[]) ∧ Ext w8 w' ∧ Mine w8.heap.size w' L := by
  have hv : OwnI w8.heap.size w v zs := h.own (v, zs) (by simp)
  refine (erase_any _ v zs w hv).mono fun e w' ⟨he, g⟩ => ⟨he, E.below (grow_below g E.bel.size fun k hk => (World.ownsRow.lt hv k hk).1) (Nat.le_refl _), ⟨fun p hp => ?_, (List.pairwise_cons.1 h.apart).2⟩⟩
  refine World.ownsRow.kept (h.own p (by simp [hp])) g ?_
  rcases hpb : p.1.ownBlock with _ | k
  · exact .inl rfl
  · exact .inr fun e => (List.pairwise_cons.1 h.apart).1 p hp k e.symm hpb
end Go.Proofs.Ytaaceadcnnfngaa
