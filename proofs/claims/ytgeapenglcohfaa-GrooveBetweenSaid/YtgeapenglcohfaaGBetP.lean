/- GrooveBetween in plain Lean. No program. -/
import Derived.Test.YtgeapenglcohfaaGMovP
namespace Go.Proofs.Ytgeapenglcohfaa
open Go.RowKit

theorem lineB_mid {xs : List (Int × Int)} {k : Nat} {m : Int × Int} (h : lineB xs = true) (hl : xs.length ≤ 11) (hk1 : 1 ≤ k) (hk : k < xs.length) (hm1 : 2 * m.1 = (xs[k - 1]).1 + (xs[k]).1) (hm2 : 2 * m.2 = (xs[k - 1]).2 + (xs[k]).2) : lineB (insMid xs k m) = true := by
  obtain ⟨h1, h2⟩ := lineB_iff.1 h
  refine lineB_iff.2 ⟨fun p hp => ?_, ?_⟩
  · unfold insMid at hp
    rcases List.mem_append.1 hp with hp | hp
    · exact h1 p (List.mem_of_mem_take hp)
    rcases List.mem_cons.1 hp with rfl | hp
    · have a := h1 _ (List.getElem_mem (l := xs) (n := k - 1) (by omega))
      have b := h1 _ (List.getElem_mem hk)
      omega
    · exact h1 p (List.mem_of_mem_drop hp)
  · rw [insMid_len (Nat.le_of_lt hk)]
    omega
theorem dist_mid {xs ys : List (Int × Int)} {k : Nat} {m : Int × Int} (h : distE xs ys = 0) (hl : xs.length ≤ 11) (hk1 : 1 ≤ k) (hk : k < xs.length) (hm1 : 2 * m.1 = (xs[k - 1]).1 + (xs[k]).1) (hm2 : 2 * m.2 = (xs[k - 1]).2 + (xs[k]).2) :
    distE (insMid xs k m) ys = 0 ∧ distP (insMid xs k m) ys = distP xs ys := by
  obtain ⟨h1, h2⟩ := distE_iff.1 h
  have h3 := lineB_mid h1 hl hk1 hk hm1 hm2
  refine ⟨distE_iff.2 ⟨h3, h2⟩, ?_⟩
  unfold distP
  rw [h1, h2, h3]
  exact far_mid hk1 hk hm1 hm2
/-- The head and the tail of a slice that reads as a list. -/
theorem is_take {α : Type} {K : EK α} {w : World} {b o n c m : Nat} {xs : List α} (h : K.Is w (.slice (some ⟨b, o, none⟩) n c) xs) (hm : m ≤ n) : K.Is w (.slice (some ⟨b, o, none⟩) m c) (xs.take m) := by
  obtain ⟨A, c', he, h0, hc, hr⟩ := h
  simp only [Value.slice.injEq] at he
  obtain ⟨rfl, rfl, rfl⟩ := he
  have hl : (xs.take m).length = m := by rw [List.length_take]; omega
  refine ⟨_, c, by rw [hl], (fun e => by cases e), ⟨by omega, hc.2⟩, fun j hj => ?_⟩
  obtain ⟨b1, o1, hA, hb, hcell⟩ := hr j (by omega)
  exact ⟨b1, o1, hA, hb, fun i u hu => hcell i u (by rwa [List.getElem_take] at hu)⟩
theorem is_drop {α : Type} {K : EK α} {w : World} {b o n c m : Nat} {xs : List α} (h : K.Is w (.slice (some ⟨b, o, none⟩) n c) xs) (hm : m ≤ n) : K.Is w (.slice (some ⟨b, o + m * K.k, none⟩) (n - m) (c - m)) (xs.drop m) := by
  obtain ⟨A, c', he, h0, hc, hr⟩ := h
  simp only [Value.slice.injEq] at he
  obtain ⟨rfl, rfl, rfl⟩ := he
  have hl : (xs.drop m).length = xs.length - m := List.length_drop ..
  refine ⟨_, c - m, by rw [hl], (fun e => by cases e), ⟨by omega, by omega⟩, fun j hj => ?_⟩
  obtain ⟨b1, o1, hA, hb, hcell⟩ := hr (m + j) (by omega)
  cases hA
  refine ⟨b, o + m * K.k, rfl, hb, fun i u hu => ?_⟩
  have := hcell i u (by rwa [List.getElem_drop] at hu)
  rw [Nat.add_mul] at this
  rw [show o + m * K.k + j * K.k + i = o + (m * K.k + j * K.k) + i by omega]
  exact this
end Go.Proofs.Ytgeapenglcohfaa
