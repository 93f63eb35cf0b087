/- A twin whose cuts are changed in place. No condition. -/
import Derived.Test.YtgeapenglcohfaaGTwin
namespace Go.Proofs.Ytgeapenglcohfaa
open Go.RowKit

def withC (k : WkT) (cs : List CutT) : WkT := { k with cuts := cs }
/-- A coordinate of a spot is stored. -/
theorem TwinM.spot {k : WkT} {B : Nat} {w0 w : World} {v : Value} {Ts : List CutR} (h : TwinM k B w0 w v Ts k.cuts.length) {i : Nat} (hi : i < Ts.length) (hi' : i < k.cuts.length) {gi c N : Nat} (hv : rowV Ts[i].1 = .slice (some ⟨gi, 0, none⟩) N c)
    {t e : Nat} (ht : t < k.cuts[i].1.length) (he : e < 2) (y : Int × Int) (u : Value) (hy : spotK.enc y = (spotK.enc k.cuts[i].1[t]).set e u) :
    TwinM (withC k (k.cuts.set i (k.cuts[i].1.set t y, k.cuts[i].2))) B w0 (w.setCell ⟨gi, t * 2 + e, none⟩ u) v Ts (withC k (k.cuts.set i (k.cuts[i].1.set t y, k.cuts[i].2))).cuts.length := by
  have hd := h.done i hi hi' hi'
  rw [hv] at hd
  have hN : k.cuts[i].1.length = N := by
    obtain ⟨_, _, e1, _⟩ := hd.is
    simp only [Value.slice.injEq] at e1
    exact e1.2.1.symm
  have hlen : (withC k (k.cuts.set i (k.cuts[i].1.set t y, k.cuts[i].2))).cuts.length = k.cuts.length := by simp [withC]
  have hat : ∀ q (a : q < (withC k (k.cuts.set i (k.cuts[i].1.set t y, k.cuts[i].2))).cuts.length), (withC k (k.cuts.set i (k.cuts[i].1.set t y, k.cuts[i].2))).cuts[q] = if i = q then (k.cuts[i].1.set t y, k.cuts[i].2) else k.cuts[q]'(by rw [hlen] at a; exact a) := fun q a => List.getElem_set ..
  refine ⟨?_, by rw [hlen]; exact h.len, fun q a b => ?_, fun q a b _ => ?_, fun q a b hq => ?_, fun p q a b hp hq => h.dist p q a b (by omega) (by omega)⟩
  · refine h.own.oth ?_
    have := own_ne h.own hd (Ne.symm spot_cut_ne)
    simpa [Value.ownBlock] using this
  · rw [hat]
    split
    · rename_i hq
      subst hq
      exact h.rest i a hi'
    · exact h.rest q a (by omega)
  · rw [hat]
    split
    · rename_i hq
      subst hq
      rw [hv]
      exact hd.putI hN ht he y u hy
    · rename_i hq
      have h1 := h.done q a (by omega) (by omega)
      refine h1.oth ?_
      have := h.dist q i a hi (by omega) hi' (fun e => hq e.symm)
      rw [hv] at this
      simpa [Value.ownBlock] using this
  · omega
/-- A cut's press is stored. -/
theorem TwinM.press {k : WkT} {B : Nat} {w0 w : World} {g c N : Nat} {Ts : List CutR} (h : TwinM k B w0 w (.slice (some ⟨g, 0, none⟩) N c) Ts k.cuts.length) {i : Nat} (hi : i < Ts.length) (hi' : i < k.cuts.length) (p : Int) :
    TwinM (withC k (k.cuts.set i (k.cuts[i].1, p, k.cuts[i].2.2))) B w0 (w.setCell ⟨g, i * 3 + 1, none⟩ (.int .i64 p)) (.slice (some ⟨g, 0, none⟩) N c) (Ts.set i (Ts[i].1, p, k.cuts[i].2.2)) (withC k (k.cuts.set i (k.cuts[i].1, p, k.cuts[i].2.2))).cuts.length := by
  have hN : Ts.length = N := by
    obtain ⟨_, _, e1, _⟩ := h.own.is
    simp only [Value.slice.injEq] at e1
    exact e1.2.1.symm
  have hlen : (withC k (k.cuts.set i (k.cuts[i].1, p, k.cuts[i].2.2))).cuts.length = k.cuts.length := by simp [withC]
  have hat : ∀ q (a : q < (withC k (k.cuts.set i (k.cuts[i].1, p, k.cuts[i].2.2))).cuts.length), (withC k (k.cuts.set i (k.cuts[i].1, p, k.cuts[i].2.2))).cuts[q] = if i = q then (k.cuts[i].1, p, k.cuts[i].2.2) else k.cuts[q]'(by rw [hlen] at a; exact a) := fun q a => List.getElem_set ..
  have hts : ∀ q (a : q < (Ts.set i (Ts[i].1, p, k.cuts[i].2.2)).length), (Ts.set i (Ts[i].1, p, k.cuts[i].2.2))[q] = if i = q then (Ts[i].1, p, k.cuts[i].2.2) else Ts[q]'(by simpa using a) := fun q a => List.getElem_set ..
  have hfst : ∀ q (a : q < (Ts.set i (Ts[i].1, p, k.cuts[i].2.2)).length), (Ts.set i (Ts[i].1, p, k.cuts[i].2.2))[q].1 = (Ts[q]'(by simpa using a)).1 := fun q a => by
    rw [hts]
    split
    · rename_i hq
      subst hq
      rfl
    · rfl
  refine ⟨?_, by rw [hlen]; simpa using h.len, fun q a b => ?_, fun q a b _ => ?_, fun q a b hq => ?_, fun p q a b hp hq hpq => ?_⟩
  · refine h.own.putI hN hi (by decide) _ _ ?_
    have := h.rest i hi hi'
    show [_, _, _] = List.set [_, _, _] 1 _
    rw [← this]
    rfl
  · rw [hat, hts]
    split
    · rfl
    · exact h.rest q (by simpa using a) (by omega)
  · rw [hfst]
    have h1 := h.done q (by simpa using a) (by omega) (by omega)
    have h2 : spotK.Own B (w.setCell ⟨g, i * 3 + 1, none⟩ (.int .i64 p)) (rowV (Ts[q]'(by simpa using a)).1) (k.cuts[q]'(by omega)).1 := by
      refine h1.oth ?_
      have := own_ne h1 h.own spot_cut_ne
      simpa [Value.ownBlock] using this
    rw [hat]
    split
    · rename_i hq
      subst hq
      exact h2
    · exact h2
  · omega
  · rw [hfst, hfst]
    exact h.dist p q (by simpa using a) (by simpa using b) (by omega) (by omega) hpq
end Go.Proofs.Ytgeapenglcohfaa
