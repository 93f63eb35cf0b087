/- The kinds of light. No condition. -/
import Derived.Test.YtkjgcmdabelohaaESlot
namespace Go.Proofs.Ytkjgcmdabelohaa
open Go.RowKit

def tiltK : EK (Int × Int) := ⟨41, 44, 2, fun x => [.int .i64 x.1, .int .i64 x.2], .agg #[.int .i64 0, .int .i64 0], 16, Try.underlying44, by kernel_rfl, rfl, by decide, by decide, fun _ => rfl, by simp [Value.oneCell']⟩
def shadeK : EK (Int × Int) := ⟨49, 106, 2, fun x => [.int .i64 x.1, .int .i64 x.2], .agg #[.int .i64 0, .int .i64 0], 16, Try.underlying106, by kernel_rfl, rfl, by decide, by decide, fun _ => rfl, by simp [Value.oneCell']⟩
def boolK : EK Bool := ⟨4, 45, 1, fun x => [.bool x], .bool false, 1, Try.underlying45, by kernel_rfl, rfl, by decide, by decide, fun _ => rfl, by simp [Value.oneCell']⟩
def lightK : EK (Int × Int × Int) := ⟨43, 53, 3, fun x => [.int .i64 x.1, .int .i64 x.2.1, .int .i64 x.2.2], .agg #[.int .i64 0, .int .i64 0, .int .i64 0], 24, Try.underlying53, by kernel_rfl, rfl, by decide, by decide, fun _ => rfl, by simp [Value.oneCell']⟩

/-- What makes a slice of its own. -/
def RetE {α : Type} (K : EK α) (w : World) (xs : List α) (e : Ending) (w' : World) : Prop := ∃ v, e = .returned v ∧ K.Own w.heap.size w' v xs ∧ Ext w w'
/-- .. with an error number. -/
def RetEE {α : Type} (K : EK α) (w : World) (xs : List α) (k : Int) (e : Ending) (w' : World) : Prop := ∃ v, e = .returned (.tuple #[v, .int .i64 k]) ∧ K.Own w.heap.size w' v xs ∧ Ext w w'

theorem EK.Own.shape {α : Type} {K : EK α} {B : Nat} {w : World} {v : Value} {xs : List α} (h : K.Own B w v xs) : ∃ A k c, v = .slice A k c := by
  rcases h.2 with ⟨rfl, _⟩ | ⟨g, cap, _, rfl, _⟩
  · exact ⟨_, _, _, rfl⟩
  · exact ⟨_, _, _, rfl⟩
theorem lightK_at {w : World} {A : Option Addr} {ls : List (Int × Int × Int)} (h : lightK.Row w A ls) (j : Nat) (hj : j < ls.length) : ∃ b o, A = some ⟨b, o, none⟩ ∧ b < w.heap.size ∧ w.cell? ⟨b, o + j * 3, none⟩ = some (.int .i64 ls[j].1) ∧ w.cell? ⟨b, o + j * 3 + 1, none⟩ = some (.int .i64 ls[j].2.1) ∧ w.cell? ⟨b, o + j * 3 + 2, none⟩ = some (.int .i64 ls[j].2.2) := by
  obtain ⟨b, o, rfl, hb, hc⟩ := h j hj
  exact ⟨b, o, rfl, hb, hc 0 _ rfl, hc 1 _ rfl, hc 2 _ rfl⟩

end Go.Proofs.Ytkjgcmdabelohaa
