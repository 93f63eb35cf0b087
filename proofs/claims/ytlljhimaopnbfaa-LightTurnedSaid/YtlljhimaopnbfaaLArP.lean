/- A surface that is turned or mirrored, cell by cell: plain. A proof that serves several branches. No program. -/
import Derived.Test.YtlljhimaopnbfaaLLawHi
namespace Go.Proofs.Ytlljhimaopnbfaa
section
/-- What is proved once, and used in several branches. -/
structure Late (S : Prop) : Prop where
  out : S
theorem late {S G : Prop} (main : Late S → G) (p : S) : G := main ⟨p⟩
def arPos (n m : Nat) (mi : Bool) (x y : Nat) : Nat := if mi then y * (n + 1) + (n - x) else x * (m + 1) + (m - y)
/-- What has been written, up to (x, y). -/
def ArIs (n m : Nat) (mi : Bool) (hs zs : List Int) (y x : Nat) : Prop := ∀ y' x', x' ≤ n → y' ≤ m → (y' < y ∨ (y' = y ∧ x' < x)) → hA zs (arPos n m mi x' y') = hA hs (y' * (n + 1) + x')
structure ArBd (N : Nat) (zs : List Int) : Prop where
  len : zs.length = N
  bd : ∀ z ∈ zs, -100 ≤ z ∧ z ≤ 100
structure ArEnd (n m : Nat) (mi : Bool) (hs zs : List Int) : Prop where
  bd : ArBd ((n + 1) * (m + 1)) zs
  turn : mi = false → TurnIs n m hs zs
  mirror : mi = true → MirrorIs n m hs zs
theorem row_lt {a b n m : Nat} (hb : b ≤ m) (ha : a ≤ n) : b * (n + 1) + a < (n + 1) * (m + 1) := by
  have : (b + 1) * (n + 1) ≤ (m + 1) * (n + 1) := Nat.mul_le_mul_right _ (by omega)
  rw [Nat.add_mul] at this
  rw [Nat.mul_comm (n + 1)]
  omega
theorem row_inj {a b a' b' n : Nat} (ha : a ≤ n) (ha' : a' ≤ n) (h : b * (n + 1) + a = b' * (n + 1) + a') : b = b' ∧ a = a' := by
  have h1 : (b * (n + 1) + a) / (n + 1) = b := by
    rw [Nat.add_comm, Nat.add_mul_div_right _ _ (by omega), Nat.div_eq_of_lt (by omega), Nat.zero_add]
  have h2 : (b' * (n + 1) + a') / (n + 1) = b' := by
    rw [Nat.add_comm, Nat.add_mul_div_right _ _ (by omega), Nat.div_eq_of_lt (by omega), Nat.zero_add]
  have hb : b = b' := by rw [← h1, ← h2, h]
  subst hb
  omega
theorem arPos_lt {n m x y : Nat} {mi : Bool} (hx : x ≤ n) (hy : y ≤ m) : arPos n m mi x y < (n + 1) * (m + 1) := by
  unfold arPos
  split
  · exact row_lt hy (by omega)
  · have := row_lt (n := m) (m := n) hx (show m - y ≤ m by omega)
    rwa [Nat.mul_comm (m + 1)] at this
theorem arPos_inj {n m x y x' y' : Nat} {mi : Bool} (hx : x ≤ n) (hy : y ≤ m) (hx' : x' ≤ n) (hy' : y' ≤ m) (h : arPos n m mi x y = arPos n m mi x' y') : x = x' ∧ y = y' := by
  unfold arPos at h
  split at h
  · obtain ⟨h1, h2⟩ := row_inj (by omega) (by omega) h
    omega
  · obtain ⟨h1, h2⟩ := row_inj (by omega) (by omega) h
    omega
theorem hA_set {zs : List Int} {i j : Nat} {z : Int} (h : i < zs.length) : hA (zs.set i z) j = if i = j then z else hA zs j := by
  unfold hA
  by_cases e : i = j
  · subst e
    rw [if_pos rfl, List.getElem?_set_self h]
    rfl
  · rw [if_neg e, List.getElem?_set_ne e]
theorem ArIs.zero {n m : Nat} {mi : Bool} {hs zs : List Int} : ArIs n m mi hs zs 0 0 := fun y' x' _ _ h => by omega
theorem ArIs.row {n m y : Nat} {mi : Bool} {hs zs : List Int} (h : ArIs n m mi hs zs y (n + 1)) : ArIs n m mi hs zs (y + 1) 0 := fun y' x' h1 h2 h3 => h y' x' h1 h2 (by omega)
theorem ArIs.step {n m y x : Nat} {mi : Bool} {hs zs : List Int} (h : ArIs n m mi hs zs y x) (hz : ArBd ((n + 1) * (m + 1)) zs) (hx : x ≤ n) (hy : y ≤ m) {p : Nat} {z : Int} (hp : p = arPos n m mi x y) (hv : z = hA hs (y * (n + 1) + x)) : ArIs n m mi hs (zs.set p z) y (x + 1) := fun y' x' h1 h2 h3 => by
  have hl : p < zs.length := by rw [hz.len, hp]; exact arPos_lt hx hy
  rw [hA_set hl]
  split
  · rename_i e
    obtain ⟨rfl, rfl⟩ := arPos_inj hx hy h1 h2 (hp.symm.trans e)
    exact hv
  · rename_i e
    refine h y' x' h1 h2 ?_
    rcases h3 with h3 | ⟨rfl, h3⟩
    · exact .inl h3
    · refine .inr ⟨rfl, ?_⟩
      rcases (by omega : x' < x ∨ x' = x) with h4 | rfl
      · exact h4
      · exact absurd hp e
theorem ArBd.step {N : Nat} {zs : List Int} (h : ArBd N zs) {p : Nat} {z : Int} (hz : -100 ≤ z ∧ z ≤ 100) : ArBd N (zs.set p z) := by
  refine ⟨by rw [List.length_set]; exact h.len, fun x hx => ?_⟩
  rcases List.mem_or_eq_of_mem_set hx with h1 | rfl
  · exact h.bd x h1
  · exact hz
theorem ArIs.end_ {n m : Nat} {mi : Bool} {hs zs : List Int} (h : ArIs n m mi hs zs (m + 1) 0) (hz : ArBd ((n + 1) * (m + 1)) zs) : ArEnd n m mi hs zs := by
  refine ⟨hz, ?_, ?_⟩
  · rintro rfl
    refine ⟨fun i k hi hk => ?_⟩
    have := h (m - i) k hk (by omega) (by omega)
    rwa [arPos, if_neg (by decide), show m - (m - i) = i by omega] at this
  · rintro rfl
    refine ⟨fun i k hi hk => ?_⟩
    have := h k (n - i) (by omega) hk (by omega)
    rwa [arPos, if_pos rfl, show n - (n - i) = i by omega] at this
/-- The light, turned or mirrored as the surface. -/
def turnX (mi : Bool) (lx ly : Int) : Int := if mi then -lx else -ly
def turnY (mi : Bool) (lx ly : Int) : Int := if mi then ly else lx
theorem turn_light {mi : Bool} {lx ly lz : Int} (h : lightB lx ly lz = true) : lightB (turnX mi lx ly) (turnY mi lx ly) lz = true := by
  rw [lightB_iff] at h ⊢
  unfold turnX turnY
  cases mi
  · rw [if_neg (by decide), if_neg (by decide)]
    omega
  · rw [if_pos rfl, if_pos rfl]
    omega
def turnN (n m : Nat) (mi : Bool) : Nat := if mi then n else m
def turnM (n m : Nat) (mi : Bool) : Nat := if mi then m else n
theorem ArEnd.surf {n m : Nat} {mi : Bool} {P : Int} {hs zs : List Int} (h : ArEnd n m mi hs zs) (hb : surfB ((n : Int) + 1) ((m : Int) + 1) P hs = true) : surfB ((turnN n m mi : Int) + 1) ((turnM n m mi : Int) + 1) P zs = true := by
  have hl : (zs.length : Int) = ((turnN n m mi : Int) + 1) * ((turnM n m mi : Int) + 1) := by
    rw [h.bd.len]
    unfold turnN turnM
    cases mi
    · rw [if_neg (by decide), if_neg (by decide), Nat.mul_comm]
      simp
    · rw [if_pos rfl, if_pos rfl]
      simp
  rw [surfB_iff] at hb ⊢
  obtain ⟨h1, h2, h3, -, -⟩ := hb
  refine ⟨?_, ?_, h3, hl, List.all_eq_true.2 fun z hz => inB_iff.2 (h.bd.bd z hz)⟩
  · unfold turnN
    split <;> assumption
  · unfold turnM
    split <;> assumption
/-- Where a cell comes to. -/
def turnTo (n m : Nat) (mi : Bool) (x y : Nat) : Nat := if mi then y * n + (n - 1 - x) else x * m + (m - 1 - y)
theorem seenL_atT {n m : Nat} {P : Int} {hs : List Int} {lx ly lz : Int} {j : Nat} (h : j < (seenL n m P hs lx ly lz).length) : (seenL n m P hs lx ly lz)[j] = seenC n m P hs lx ly lz (cx n j) (cy n j) := by simp [seenL]
theorem seenL_lenT (n m : Nat) (P : Int) (hs : List Int) (lx ly lz : Int) : (seenL n m P hs lx ly lz).length = m * n := by simp [seenL]
theorem cell_in2 {n m x y : Nat} (hx : x < n) (hy : y < m) : y * n + x < m * n := by
  have : (y + 1) * n ≤ m * n := Nat.mul_le_mul_right _ hy
  rw [Nat.succ_mul] at this
  omega
theorem ArEnd.seen {n m : Nat} {mi : Bool} {P : Int} {hs zs : List Int} {lx ly lz : Int} {x y : Nat} (h : ArEnd n m mi hs zs) (hx : x < n) (hy : y < m) :
    ∃ (h1 : turnTo n m mi x y < (seenL (turnN n m mi) (turnM n m mi) P zs (turnX mi lx ly) (turnY mi lx ly) lz).length) (h2 : turnTo n m mi x y < (darksL (turnN n m mi) (turnM n m mi) P zs (turnX mi lx ly) (turnY mi lx ly) lz).length),
      (seenL (turnN n m mi) (turnM n m mi) P zs (turnX mi lx ly) (turnY mi lx ly) lz)[turnTo n m mi x y] = seenC n m P hs lx ly lz x y ∧ (darksL (turnN n m mi) (turnM n m mi) P zs (turnX mi lx ly) (turnY mi lx ly) lz)[turnTo n m mi x y] = darkB n m P hs lx ly lz x y := by
  cases mi
  · have ht := h.turn rfl
    have hm' : m - 1 - y < m := by omega
    have h0 := cell_in2 hm' hx
    refine ⟨by rw [seenL_lenT]; exact h0, by rw [darksL_len]; exact h0, ?_, ?_⟩
    · rw [seenL_atT]
      show seenC m n P zs (-ly) lx lz (cx m (x * m + (m - 1 - y))) (cy m (x * m + (m - 1 - y))) = _
      rw [cx_at hm', cy_at hm']
      exact turn_seen ht hx hy
    · rw [darksL_at]
      show darkB m n P zs (-ly) lx lz (cx m (x * m + (m - 1 - y))) (cy m (x * m + (m - 1 - y))) = _
      rw [cx_at hm', cy_at hm']
      exact turn_dark ht hx hy
  · have ht := h.mirror rfl
    have hn' : n - 1 - x < n := by omega
    have h0 := cell_in2 hn' hy
    refine ⟨by rw [seenL_lenT]; exact h0, by rw [darksL_len]; exact h0, ?_, ?_⟩
    · rw [seenL_atT]
      show seenC n m P zs (-lx) ly lz (cx n (y * n + (n - 1 - x))) (cy n (y * n + (n - 1 - x))) = _
      rw [cx_at hn', cy_at hn']
      exact mirror_seen ht hx hy
    · rw [darksL_at]
      show darkB n m P zs (-lx) ly lz (cx n (y * n + (n - 1 - x))) (cy n (y * n + (n - 1 - x))) = _
      rw [cx_at hn', cy_at hn']
      exact mirror_dark ht hx hy
end
end Go.Proofs.Ytlljhimaopnbfaa
