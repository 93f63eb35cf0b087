/- GrooveHides: Hide, the reference's Hide, the law's walk. Condition: slices read as lists. -/
import Derived.Test.YtgeapenglcohfaaGHidW
import Derived.Test.YtgeapenglcohfaaGSame
namespace Go.Proofs.Ytgeapenglcohfaa
open Go.RowKit Go.Shelf

def hideOk (made : List Int) (left most : Int) : Bool := (decide (1 ≤ made.length) && allB (-20) 20 made) && (inB 0 60 left && inB 0 20 most)
def hideRes (made : List Int) (left most : Int) : Option (List Int × Int) := hideR (made[0]?.getD 0) most left.toNat (made[made.length - 1]?.getD 0) (left.toNat + 1)
def hideE (made : List Int) (left most : Int) : Int := if 60 < made.length then 4 else if hideOk made left most then (if (hideRes made left most).isSome then 0 else 6) else 2
def hideO (made : List Int) (left most : Int) : List Int := if 60 < made.length then [] else if hideOk made left most then ((hideRes made left most).map Prod.fst).getD [] else []
/-- A slice and an error are answered. -/
def RetIE (w : World) (zs : List Int) (er : Int) (e : Ending) (w' : World) : Prop := ∃ v, e = .returned (.tuple #[v, .int .i64 er]) ∧ IsI w' v zs ∧ Ext w w'

theorem hide_bad {made : List Int} {left most : Int} (h : 60 < made.length → False) (hb : hideOk made left most = false) : hideE made left most = 2 ∧ hideO made left most = [] := by
  unfold hideE hideO
  rw [if_neg h, if_neg h, hb]
  exact ⟨rfl, rfl⟩

set_option maxRecDepth 100000 in
set_option maxHeartbeats 4000000 in
theorem hide_any (v : Value) (made : List Int) (left most : Int) (w : World) (hI : IsI w v made) :
    Calls Try.prog 26 #[v, .int .i64 left, .int .i64 most] w (RetIE w (hideO made left most) (hideE made left most)) := by
  obtain ⟨A, k, c, rfl, hc0, hz, hkm⟩ := hI.open_
  have hlen := hz.len
  have HNI := Lib.hid fun W : World => (OwnI.nil 0 W).isI
  by_cases h1 : 60 < k
  · have HR := Lib.hid (show hideE made left most = 4 ∧ hideO made left most = [] by unfold hideE hideO; rw [if_pos (by omega), if_pos (by omega)]; exact ⟨rfl, rfl⟩)
    have hkd : decide ((60 : Int) < (k : Int)) = true := by simp; omega
    clear h1 hI hz hlen hc0
    go_enter Try.func26, Try.ntmps26
    go_wp2_with fail
    go_ret2
    exact ⟨_, by rw [HR.out.1]; rfl, by rw [HR.out.2]; exact HNI.out _, by (repeat' (first | with_reducible exact Ext.refl _ | with_reducible apply Ext.alloc | with_reducible apply Ext.drew | with_reducible apply Ext.drewN | with_reducible refine Ext.setCell ?_ ?_ _ | with_reducible apply Ext.step | with_reducible assumption | with_reducible exact Nat.le_refl _ | (simp; done) | (simp; omega)))⟩
  have hkd : decide ((60 : Int) < (k : Int)) = false := by simp; omega
  have HB := Lib.hid fun hb => hide_bad (made := made) (left := left) (most := most) (fun h => h1 (by omega)) hb
  by_cases h2 : k = 0
  · have HR := Lib.hid (HB.out (by unfold hideOk; rw [hlen, h2]; rfl))
    have hkb : ((k : Int) == 0) = true := by simp; omega
    clear h1 hI hz hlen hc0 HB h2
    go_enter Try.func26, Try.ntmps26
    go_wp2_with fail
    go_ret2
    exact ⟨_, by rw [HR.out.1]; rfl, by rw [HR.out.2]; exact HNI.out _, by (repeat' (first | with_reducible exact Ext.refl _ | with_reducible apply Ext.alloc | with_reducible apply Ext.drew | with_reducible apply Ext.drewN | with_reducible refine Ext.setCell ?_ ?_ _ | with_reducible apply Ext.step | with_reducible assumption | with_reducible exact Nat.le_refl _ | (simp; done) | (simp; omega)))⟩
  have hkb : ((k : Int) == 0) = false := by simp; omega
  have HF := Lib.hid fun (W : World) (x : Ext w W) => from_any A k c made (-20) 20 W (hz.ext x)
  cases h3 : allB (-20) 20 made
  · have HR := Lib.hid (HB.out (by unfold hideOk; rw [h3]; simp))
    rw [h3] at HF
    clear h1 hI hz hlen hc0 HB h2 h3
    go_enter Try.func26, Try.ntmps26
    go_wp2_with fail
    refine (HF.out _ (Ext.refl w)).mono ?_
    rintro e _ ⟨rfl, hx⟩
    obtain ⟨δ, rfl⟩ : Ext (w) _ := Ext.trans (by (repeat' (first | with_reducible exact Ext.refl _ | with_reducible apply Ext.alloc | with_reducible apply Ext.drew | with_reducible apply Ext.drewN | with_reducible refine Ext.setCell ?_ ?_ _ | with_reducible apply Ext.step | with_reducible assumption | with_reducible exact Nat.le_refl _ | (simp; done) | (simp; omega)))) hx
    clear hx
    go_wp2_with fail
    go_ret2
    exact ⟨_, by rw [HR.out.1]; rfl, by rw [HR.out.2]; exact HNI.out _, by (repeat' (first | with_reducible exact Ext.refl _ | with_reducible apply Ext.alloc | with_reducible apply Ext.drew | with_reducible apply Ext.drewN | with_reducible refine Ext.setCell ?_ ?_ _ | with_reducible apply Ext.step | with_reducible assumption | with_reducible exact Nat.le_refl _ | (simp; done) | (simp; omega)))⟩
  cases h4 : inB 0 60 left
  · have HR := Lib.hid (HB.out (by unfold hideOk; rw [h4]; simp))
    have HG := Lib.hid fun (b : Nat) (W : World) (h : W.cell? ⟨b, 0, none⟩ = some (.int .i64 left)) => h4 ▸ from_one b left 0 60 1 W h
    rw [h3] at HF
    clear h1 hI hz hlen hc0 HB h2 h3 h4
    go_enter Try.func26, Try.ntmps26
    go_wp2_with fail
    refine (HF.out _ (Ext.refl w)).mono ?_
    rintro e _ ⟨rfl, hx⟩
    obtain ⟨δ, rfl⟩ : Ext (w) _ := Ext.trans (by (repeat' (first | with_reducible exact Ext.refl _ | with_reducible apply Ext.alloc | with_reducible apply Ext.drew | with_reducible apply Ext.drewN | with_reducible refine Ext.setCell ?_ ?_ _ | with_reducible apply Ext.step | with_reducible assumption | with_reducible exact Nat.le_refl _ | (simp; done) | (simp; omega)))) hx
    clear hx
    go_wp2_with fail
    refine (HG.out _ _ (by go_cell)).mono ?_
    rintro e _ ⟨rfl, hx⟩
    obtain ⟨δ, rfl⟩ : Ext (w) _ := Ext.trans (by (repeat' (first | with_reducible exact Ext.refl _ | with_reducible apply Ext.alloc | with_reducible apply Ext.drew | with_reducible apply Ext.drewN | with_reducible refine Ext.setCell ?_ ?_ _ | with_reducible apply Ext.step | with_reducible assumption | with_reducible exact Nat.le_refl _ | (simp; done) | (simp; omega)))) hx
    clear hx
    go_wp2_with fail
    go_ret2
    exact ⟨_, by rw [HR.out.1]; rfl, by rw [HR.out.2]; exact HNI.out _, by (repeat' (first | with_reducible exact Ext.refl _ | with_reducible apply Ext.alloc | with_reducible apply Ext.drew | with_reducible apply Ext.drewN | with_reducible refine Ext.setCell ?_ ?_ _ | with_reducible apply Ext.step | with_reducible assumption | with_reducible exact Nat.le_refl _ | (simp; done) | (simp; omega)))⟩
  cases h5 : inB 0 20 most
  · have HR := Lib.hid (HB.out (by unfold hideOk; rw [h5]; simp))
    have HG := Lib.hid fun (b : Nat) (W : World) (h : W.cell? ⟨b, 0, none⟩ = some (.int .i64 left)) => h4 ▸ from_one b left 0 60 1 W h
    have HG2 := Lib.hid fun (b : Nat) (W : World) (h : W.cell? ⟨b, 0, none⟩ = some (.int .i64 most)) => h5 ▸ from_one b most 0 20 1 W h
    rw [h3] at HF
    clear h1 hI hz hlen hc0 HB h2 h3 h4 h5
    go_enter Try.func26, Try.ntmps26
    go_wp2_with fail
    refine (HF.out _ (Ext.refl w)).mono ?_
    rintro e _ ⟨rfl, hx⟩
    obtain ⟨δ, rfl⟩ : Ext (w) _ := Ext.trans (by (repeat' (first | with_reducible exact Ext.refl _ | with_reducible apply Ext.alloc | with_reducible apply Ext.drew | with_reducible apply Ext.drewN | with_reducible refine Ext.setCell ?_ ?_ _ | with_reducible apply Ext.step | with_reducible assumption | with_reducible exact Nat.le_refl _ | (simp; done) | (simp; omega)))) hx
    clear hx
    go_wp2_with fail
    refine (HG.out _ _ (by go_cell)).mono ?_
    rintro e _ ⟨rfl, hx⟩
    obtain ⟨δ, rfl⟩ : Ext (w) _ := Ext.trans (by (repeat' (first | with_reducible exact Ext.refl _ | with_reducible apply Ext.alloc | with_reducible apply Ext.drew | with_reducible apply Ext.drewN | with_reducible refine Ext.setCell ?_ ?_ _ | with_reducible apply Ext.step | with_reducible assumption | with_reducible exact Nat.le_refl _ | (simp; done) | (simp; omega)))) hx
    clear hx
    go_wp2_with fail
    refine (HG2.out _ _ (by go_cell)).mono ?_
    rintro e _ ⟨rfl, hx⟩
    obtain ⟨δ, rfl⟩ : Ext (w) _ := Ext.trans (by (repeat' (first | with_reducible exact Ext.refl _ | with_reducible apply Ext.alloc | with_reducible apply Ext.drew | with_reducible apply Ext.drewN | with_reducible refine Ext.setCell ?_ ?_ _ | with_reducible apply Ext.step | with_reducible assumption | with_reducible exact Nat.le_refl _ | (simp; done) | (simp; omega)))) hx
    clear hx
    go_wp2_with fail
    go_ret2
    exact ⟨_, by rw [HR.out.1]; rfl, by rw [HR.out.2]; exact HNI.out _, by (repeat' (first | with_reducible exact Ext.refl _ | with_reducible apply Ext.alloc | with_reducible apply Ext.drew | with_reducible apply Ext.drewN | with_reducible refine Ext.setCell ?_ ?_ _ | with_reducible apply Ext.step | with_reducible assumption | with_reducible exact Nat.le_refl _ | (simp; done) | (simp; omega)))⟩
  obtain ⟨L, rfl⟩ : ∃ L : Nat, left = L := ⟨left.toNat, by have := (inB_iff.1 h4).1; omega⟩
  have hL := (inB_iff.1 h4).2
  obtain ⟨hm0, hm1⟩ := inB_iff.1 h5
  have hb0 : -20 ≤ made[k - 1]?.getD 0 ∧ made[k - 1]?.getD 0 ≤ 20 := allB_at h3 (by omega)
  have hok : hideOk made L most = true := by unfold hideOk; rw [h3, h4, h5]; simp; omega
  have hE : hideE made L most = if (hideRes made L most).isSome then 0 else 6 := by unfold hideE; rw [if_neg (by omega), if_pos hok]
  have hO : hideO made L most = ((hideRes made L most).map Prod.fst).getD [] := by unfold hideO; rw [if_neg (by omega), if_pos hok]
  have hR : hideRes made L most = hideR (made[0]?.getD 0) most L (made[k - 1]?.getD 0) (L + 1) := by unfold hideRes; rw [hlen, Int.toNat_natCast]
  refine (hide_good A k c made L most w hz (by omega) (by omega) h3 (by omega) hm0 hm1).mono ?_
  rintro e w' ⟨v, er, xs, rfl, hi, hx, hcase⟩
  rw [hE, hO, hR]
  rcases hide_same (made[0]?.getD 0) most hm0 L (made[k - 1]?.getD 0) hb0 (L + 1) (Nat.le_refl _) with ⟨g1, g2⟩ | ⟨ys, la, g1, g2, _, _⟩
  · rcases hcase with ⟨_, rfl, rfl⟩ | ⟨ys', la', g3, _⟩
    · rw [g2]
      exact ⟨v, rfl, hi, hx⟩
    · rw [g1] at g3; cases g3
  · rcases hcase with ⟨g3, _⟩ | ⟨ys', la', g3, rfl, rfl⟩
    · rw [g1] at g3; cases g3
    · rw [g1] at g3
      cases g3
      rw [g2]
      exact ⟨v, rfl, hi, hx⟩
end Go.Proofs.Ytgeapenglcohfaa
