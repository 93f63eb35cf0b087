/- Slices of slices of shades. No condition. -/
import Derived.Test.YtlljhimaopnbfaaLX
import Derived.Test.YtlljhimaopnbfaaESlot
namespace Go.Proofs.Ytlljhimaopnbfaa
open Go.RowKit

/-- Slices of shades as elements. -/
def picK : EK (Option Addr × Nat × Nat) := ⟨57, 101, 1, fun x => [.slice x.1 x.2.1 x.2.2], .slice none 0 0, 24, Try.underlying101, by kernel_rfl, rfl, by decide, by decide, fun _ => rfl, by simp [Value.oneCell']⟩
def picV (T : Option Addr × Nat × Nat) : Value := .slice T.1 T.2.1 T.2.2
/-- A slice of slices of shades that reads as a list of lists. -/
def PicIs (w : World) (v : Value) (pp : List (List (Int × Int))) : Prop := ∃ Ts, picK.Is w v Ts ∧ Ts.length = pp.length ∧ ∀ q (h : q < Ts.length) (h' : q < pp.length), shadeK.Is w (picV Ts[q]) pp[q]
theorem PicIs.ext {w w' : World} {v : Value} {pp : List (List (Int × Int))} (h : PicIs w v pp) (x : Ext w w') : PicIs w' v pp := by
  obtain ⟨Ts, h1, h2, h3⟩ := h
  exact ⟨Ts, h1.ext x, h2, fun q h h' => (h3 q h h').ext x⟩
/-- The shade at a place of a picture. -/
theorem PicIs.at_ {w : World} {A : Option Addr} {n c : Nat} {pp : List (List (Int × Int))} (h : PicIs w (.slice A n c) pp) {q : Nat} (hq : q < pp.length) {i : Nat} (hi : i < pp[q].length) :
    ∃ b o B O C, A = some ⟨b, o, none⟩ ∧ b < w.heap.size ∧ B < w.heap.size ∧ w.cell? ⟨b, o + q, none⟩ = some (.slice (some ⟨B, O, none⟩) pp[q].length C) ∧ w.cell? ⟨B, O + i * 2, none⟩ = some (.int .i64 pp[q][i].1) ∧ w.cell? ⟨B, O + i * 2 + 1, none⟩ = some (.int .i64 pp[q][i].2) := by
  obtain ⟨Ts, ⟨_, _, he, _, _, hr⟩, h2, h3⟩ := h
  cases he
  have hqT : q < Ts.length := by omega
  obtain ⟨b, o, rfl, hb, hc⟩ := hr q hqT
  obtain ⟨A', C, he', _, _, hr'⟩ := h3 q hqT hq
  obtain ⟨B, O, rfl, hB, hC⟩ := hr' i hi
  have h0 := hc 0 _ rfl
  simp only [picK, Nat.mul_one, Nat.add_zero] at h0
  have he2 : (Value.slice Ts[q].1 Ts[q].2.1 Ts[q].2.2) = .slice (some ⟨B, O, none⟩) pp[q].length C := he'
  rw [he2] at h0
  exact ⟨b, o, B, O, C, rfl, hb, hB, h0, hC 0 _ rfl, hC 1 _ rfl⟩
end Go.Proofs.Ytlljhimaopnbfaa
