/- LightMoved: a twin whose spots are moved in place, one by one. No condition. -/
import Derived.Test.YtlljhimaopnbfaaLCarP
import Derived.Test.YtlljhimaopnbfaaGQE
import Derived.Test.YtlljhimaopnbfaaGTwinP
import Derived.Test.YtlljhimaopnbfaaLTwin
namespace Go.Proofs.Ytlljhimaopnbfaa
section
/- LMovP: LightMoved in plain Lean: moved cuts, more cuts. No program. -/
section
def addS (a b : Int) (s : Int × Int) : Int × Int := (s.1 + a, s.2 + b)
def movC (a b : Int) (c : CutT) : CutT := (c.1.map (addS a b), c.2)
def movK (k : WkT) (a b : Int) : WkT := withC k (k.cuts.map (movC a b))
theorem dist_add {xs ys : List (Int × Int)} {a b : Int} (hx : lineB xs = true) (hy : lineB ys = true) (hx' : lineB (xs.map (addS a b)) = true) (hy' : lineB (ys.map (addS a b)) = true) :
    distP (xs.map (addS a b)) (ys.map (addS a b)) = distP xs ys := by
  have nx : xs ≠ [] := by intro h; subst h; revert hx; decide
  have ny : ys ≠ [] := by intro h; subst h; revert hy; decide
  unfold distP
  rw [hx, hy, hx', hy']
  exact far_move (move_by a b) nx ny
theorem deepC_mov {k : WkT} {c : CutT} {s : Int × Int} {a b : Int} {cs : List CutT} (hs : lineB [s] = true) (hs' : lineB [addS a b s] = true) (hc : lineB c.1 = true) (hc' : lineB (c.1.map (addS a b)) = true) :
    deepC (withC k cs) (movC a b c) (addS a b s) = deepC k c s := by
  have h := dist_add (a := a) (b := b) hs hc hs' hc'
  show depN _ (distP [addS a b s] (c.1.map (addS a b))) _ = _
  rw [show ([addS a b s] : List (Int × Int)) = [s].map (addS a b) from rfl, h]
  rfl
theorem deepUp_mov {k : WkT} {s : Int × Int} {a b : Int} (hw : workB k = true) (hw' : workB (movK k a b) = true) (hs : lineB [s] = true) (hs' : lineB [addS a b s] = true) : ∀ j, j ≤ k.cuts.length → deepUp (movK k a b) (addS a b s) j = deepUp k s j
  | 0, _ => rfl
  | j + 1, hj => by
    have hl : (movK k a b).cuts.length = k.cuts.length := by simp [movK, withC]
    have hg : (movK k a b).cuts[j]'(by omega) = movC a b (k.cuts[j]'(by omega)) := by simp [movK, withC]
    have h1 := (cutB_iff.1 ((workB_iff.1 hw).2.2.2 _ (List.getElem_mem (show j < k.cuts.length by omega)))).1
    have h2 := (cutB_iff.1 ((workB_iff.1 hw').2.2.2 _ (List.getElem_mem (show j < (movK k a b).cuts.length by omega)))).1
    rw [hg] at h2
    rw [deepUp_step (by omega), deepUp_step (by omega), deepUp_mov hw hw' hs hs' j (by omega), hg]
    congr 1
    exact deepC_mov hs hs' h1 h2
theorem carvC_mov {k : WkT} {s : Int × Int} {a b : Int} (hw : workB k = true) (hw' : workB (movK k a b) = true) (hs : lineB [s] = true) (hs' : lineB [addS a b s] = true) : carvC (movK k a b) (addS a b s) = carvC k s := by
  unfold carvC
  have hl : (movK k a b).cuts.length = k.cuts.length := by simp [movK, withC]
  rw [hl, deepUp_mov hw hw' hs hs' _ (Nat.le_refl _)]
theorem point_add {fx fy p : Int} {W x y u v : Nat} {r d : Int} (hx : x < W) (hu : u < W) (e1 : (u : Int) = (x : Int) + r) (e2 : (v : Int) = (y : Int) + d) : pointC fx fy p W (v * W + u) = addS (r * p) (d * p) (pointC fx fy p W (y * W + x)) := by
  unfold pointC addS
  simp only
  have m1 : (v * W + u) % W = u := by rw [Nat.add_comm, Nat.add_mul_mod_self_right, Nat.mod_eq_of_lt hu]
  have m2 : (y * W + x) % W = x := by rw [Nat.add_comm, Nat.add_mul_mod_self_right, Nat.mod_eq_of_lt hx]
  have d1 : (v * W + u) / W = v := by rw [Nat.add_comm, Nat.add_mul_div_right _ _ (by omega), Nat.div_eq_of_lt hu, Nat.zero_add]
  have d2 : (y * W + x) / W = y := by rw [Nat.add_comm, Nat.add_mul_div_right _ _ (by omega), Nat.div_eq_of_lt hx, Nat.zero_add]
  rw [m1, m2, d1, d2, e1, e2, Int.add_mul, Int.add_mul]
  refine Prod.ext ?_ ?_ <;> simp only <;> omega
/-- The moved work's heights. -/
theorem carv_moved {k : WkT} {fx fy p : Int} {W H : Nat} {r d : Int} (h : carveE k fx fy p W H = 0) (h' : carveE (movK k (r * p) (d * p)) fx fy p W H = 0) {x y u v : Nat} (hx : x < W) (hy : y < H) (hu : u < W) (hv : v < H) (e1 : (u : Int) = (x : Int) + r) (e2 : (v : Int) = (y : Int) + d) :
    (carvL (movK k (r * p) (d * p)) fx fy p W H)[v * W + u]? = (carvL k fx fy p W H)[y * W + x]? := by
  obtain ⟨hw, ha, -, he⟩ := carveE_zero.1 h
  obtain ⟨hw', -, -, -⟩ := carveE_zero.1 h'
  have i1 : y * W + x < W * H := by
    have := Nat.mul_le_mul_right W (show y + 1 ≤ H by omega)
    rw [Nat.add_mul] at this
    rw [Nat.mul_comm W H]
    omega
  have i2 : v * W + u < W * H := by
    have := Nat.mul_le_mul_right W (show v + 1 ≤ H by omega)
    rw [Nat.add_mul] at this
    rw [Nat.mul_comm W H]
    omega
  unfold carvL
  rw [List.getElem?_map, List.getElem?_map, List.getElem?_range i1, List.getElem?_range i2]
  simp only [Option.map_some]
  have p1 := point_line ha he i1
  have p2 := point_line ha he i2
  rw [point_add hx hu e1 e2] at p2 ⊢
  rw [carvC_mov hw hw' p1 p2]
theorem deepUp_more {k : WkT} {s : Int × Int} {c : CutT} : ∀ j, j ≤ k.cuts.length → deepUp (withC k (k.cuts ++ [c])) s j = deepUp k s j
  | 0, _ => rfl
  | j + 1, hj => by
    have hl : (withC k (k.cuts ++ [c])).cuts.length = k.cuts.length + 1 := by simp [withC]
    have hg : (withC k (k.cuts ++ [c])).cuts[j]'(by omega) = k.cuts[j]'(by omega) := by simp only [withC]; exact List.getElem_append_left _
    rw [deepUp_step (by omega), deepUp_step (by omega), deepUp_more j (by omega), hg]
    rfl
theorem carv_more {k : WkT} {s : Int × Int} {c : CutT} : carvC (withC k (k.cuts ++ [c])) s ≤ carvC k s := by
  have hl : (withC k (k.cuts ++ [c])).cuts.length = k.cuts.length + 1 := by simp [withC]
  unfold carvC
  rw [hl, deepUp_step (by omega), deepUp_more _ (Nat.le_refl _)]
  omega
/-- The spots that were come by are moved; the others are as they were. -/
structure MvIs (a b : Int) (k : WkT) (cs : List CutT) (i m : Nat) : Prop where
  len : cs.length = k.cuts.length
  rest : ∀ q (h : q < cs.length) (h' : q < k.cuts.length), cs[q].2 = k.cuts[q].2 ∧ cs[q].1.length = k.cuts[q].1.length
  at_ : ∀ q (h : q < cs.length) (h' : q < k.cuts.length) t (c : t < cs[q].1.length) (d : t < k.cuts[q].1.length), ((q < i ∨ (q = i ∧ t < m)) → cs[q].1[t] = addS a b k.cuts[q].1[t]) ∧ (¬ (q < i ∨ (q = i ∧ t < m)) → cs[q].1[t] = k.cuts[q].1[t])
theorem MvIs.start (a b : Int) (k : WkT) : MvIs a b k k.cuts 0 0 := ⟨rfl, fun _ _ _ => ⟨rfl, rfl⟩, fun _ _ _ _ _ _ => ⟨fun h => by omega, fun _ => rfl⟩⟩
theorem MvIs.put {a b : Int} {k : WkT} {cs : List CutT} {i m : Nat} (h : MvIs a b k cs i m) (hi : i < cs.length) (hi' : i < k.cuts.length) (_ : m < cs[i].1.length) (hm' : m < k.cuts[i].1.length) (y : Int × Int) (hy : y = addS a b k.cuts[i].1[m]) : MvIs a b k (cs.set i (cs[i].1.set m y, cs[i].2)) i (m + 1) := by
  have hat : ∀ q (a : q < (cs.set i (cs[i].1.set m y, cs[i].2)).length), (cs.set i (cs[i].1.set m y, cs[i].2))[q] = if i = q then (cs[i].1.set m y, cs[i].2) else cs[q]'(by simpa using a) := fun q a => List.getElem_set ..
  refine ⟨by simpa using h.len, fun q a b => ?_, fun q a b t c d => ?_⟩
  · rw [hat]
    split
    · rename_i e
      subst e
      simpa using h.rest i hi hi'
    · exact h.rest q (by simpa using a) b
  · by_cases e : i = q
    · subst e
      have hg : ∀ (c' : t < (cs[i].1.set m y).length), (cs[i].1.set m y)[t] = if m = t then y else cs[i].1[t]'(by simpa using c') := fun c' => List.getElem_set ..
      have hc' : t < (cs[i].1.set m y).length := by
        have := c
        simp only [hat, if_true] at this
        exact this
      have e2 : (cs.set i (cs[i].1.set m y, cs[i].2))[i].1[t] = (cs[i].1.set m y)[t] := by simp only [hat, if_true]
      rw [e2, hg]
      by_cases em : m = t
      · subst em
        rw [if_pos rfl]
        exact ⟨fun _ => hy, fun hv => by omega⟩
      · rw [if_neg em]
        exact ⟨fun hv => (h.at_ i hi hi' t (by simpa using hc') d).1 (by omega), fun hv => (h.at_ i hi hi' t (by simpa using hc') d).2 (by omega)⟩
    · have e2 : (cs.set i (cs[i].1.set m y, cs[i].2))[q] = cs[q]'(by simpa using a) := by rw [hat, if_neg e]
      have hc' : t < (cs[q]'(by simpa using a)).1.length := by rw [← e2]; exact c
      have e3 : (cs.set i (cs[i].1.set m y, cs[i].2))[q].1[t] = (cs[q]'(by simpa using a)).1[t] := by simp only [e2]
      rw [e3]
      exact ⟨fun hv => (h.at_ q (by simpa using a) b t hc' d).1 (by omega), fun hv => (h.at_ q (by simpa using a) b t hc' d).2 (by omega)⟩
theorem MvIs.next {a b : Int} {k : WkT} {cs : List CutT} {i m : Nat} (h : MvIs a b k cs i m) (hm : ∀ (h' : i < k.cuts.length), k.cuts[i].1.length ≤ m) : MvIs a b k cs (i + 1) 0 := by
  refine ⟨h.len, h.rest, fun q a b t c d => ?_⟩
  have key : q = i → t < m := fun e => by
    subst e
    have := hm b
    omega
  exact ⟨fun hv => (h.at_ q a b t c d).1 (by omega), fun hv => (h.at_ q a b t c d).2 (by omega)⟩
theorem MvIs.end {a b : Int} {k : WkT} {cs : List CutT} (h : MvIs a b k cs k.cuts.length 0) : cs = k.cuts.map (movC a b) := by
  apply List.ext_getElem
  · simp [h.len]
  · intro q h1 h2
    have hq : q < k.cuts.length := by rw [← h.len]; exact h1
    rw [List.getElem_map]
    obtain ⟨r1, r2⟩ := h.rest q h1 hq
    refine Prod.ext ?_ r1
    show cs[q].1 = (k.cuts[q].1).map (addS a b)
    apply List.ext_getElem
    · simp [r2]
    · intro t c d
      rw [List.getElem_map]
      exact (h.at_ q h1 hq t c (by rw [← r2]; exact c)).1 (.inl hq)
end
end
open Go.RowKit

def workCells (k : WkT) (v : Value) : Array Value := #[.int .i64 k.tip, .int .i64 k.num, .int .i64 k.den, .int .i64 k.bite, .int .i64 k.slack, .int .i64 k.wall, .int .i64 k.deepest, .int .i64 k.play, .int .i64 k.fx, .int .i64 k.fy, .int .i64 k.fh, .int .i64 k.fd, v]
structure MovM (a b : Int) (k : WkT) (w2 : World) (vv : Value) (x8 : Nat) (Ts : List CutR) (i m : Nat) (W : World) : Prop where
  tw : ∃ cs, TwinM (withC k cs) w2.heap.size w2 W vv Ts (withC k cs).cuts.length ∧ MvIs a b k cs i m
  box : BoxAt x8 (workCells k vv) 79 W
  ext : Ext w2 W
theorem MovM.x {a b : Int} {k : WkT} {w2 : World} {vv : Value} {x8 : Nat} {Ts : List CutR} {i m : Nat} {W W' : World} (h : MovM a b k w2 vv x8 Ts i m W) (x : Ext W W') : MovM a b k w2 vv x8 Ts i m W' := by
  obtain ⟨cs, h1, h2⟩ := h.tw
  exact ⟨⟨cs, h1.ext x, h2⟩, h.box.ext x, h.ext.trans x⟩
/-- A spot is stored, first its X, then its Y. -/
theorem MovM.two {a b : Int} {k : WkT} {w2 : World} {vv : Value} {x8 : Nat} {Ts : List CutR} {i t : Nat} {W W1 W3 : World} (h : MovM a b k w2 vv x8 Ts i t W) (hiT : i < Ts.length) (hik : i < k.cuts.length) {gi N ci : Nat} (hrow : rowV Ts[i].1 = .slice (some ⟨gi, 0, none⟩) N ci)
    (htk : t < k.cuts[i].1.length) {X Y : Int} (hy : (X, Y) = addS a b k.cuts[i].1[t]) (x1 : Ext W W1) (x2 : Ext (W1.setCell ⟨gi, t * 2, none⟩ (.int .i64 X)) W3) :
    MovM a b k w2 vv x8 Ts i (t + 1) (W3.setCell ⟨gi, t * 2 + 1, none⟩ (.int .i64 Y)) := by
  obtain ⟨cs, htw, hch⟩ := h.tw
  have hics : i < (withC k cs).cuts.length := by show i < cs.length; rw [hch.len]; exact hik
  have hlen := (hch.rest i hics hik).2
  have htc : t < (withC k cs).cuts[i].1.length := by show t < cs[i].1.length; rw [hlen]; exact htk
  have hd := htw.done i hiT hics hics
  have hbn := hd.box_ne h.box (by decide)
  have hg := hd.lt gi (by rw [hrow]; rfl)
  have hd' := hd
  rw [hrow] at hd hbn
  have hx8 : x8 ≠ gi := fun e => hbn (by simp [Value.ownBlock, e])
  have t1 := (htw.ext x1).spot hiT hics hrow (e := 0) htc (by decide) (X, ((withC k cs).cuts[i].1[t]).2) (.int .i64 X) rfl
  have t2 := (t1.ext x2)
  have hics2 : i < (withC (withC k cs) ((withC k cs).cuts.set i ((withC k cs).cuts[i].1.set t (X, ((withC k cs).cuts[i].1[t]).2), (withC k cs).cuts[i].2))).cuts.length := by
    show i < (List.set _ _ _).length
    rw [List.length_set]
    exact hics
  have hget : (withC (withC k cs) ((withC k cs).cuts.set i ((withC k cs).cuts[i].1.set t (X, ((withC k cs).cuts[i].1[t]).2), (withC k cs).cuts[i].2))).cuts[i] = ((withC k cs).cuts[i].1.set t (X, ((withC k cs).cuts[i].1[t]).2), (withC k cs).cuts[i].2) := List.getElem_set_self _
  have htc2 : t < (withC (withC k cs) ((withC k cs).cuts.set i ((withC k cs).cuts[i].1.set t (X, ((withC k cs).cuts[i].1[t]).2), (withC k cs).cuts[i].2))).cuts[i].1.length := by
    rw [hget]
    show t < (List.set _ _ _).length
    rw [List.length_set]
    exact htc
  have t3 := t2.spot hiT hics2 hrow (e := 1) htc2 (by decide) (X, Y) (.int .i64 Y) (by
    have : (withC (withC k cs) ((withC k cs).cuts.set i ((withC k cs).cuts[i].1.set t (X, ((withC k cs).cuts[i].1[t]).2), (withC k cs).cuts[i].2))).cuts[i].1[t] = (X, ((withC k cs).cuts[i].1[t]).2) := by
      simp only [hget]
      exact List.getElem_set_self _
    rw [this]
    rfl)
  refine ⟨⟨cs.set i (cs[i].1.set t (X, Y), cs[i].2), ?_, hch.put hics hik htc htk (X, Y) hy⟩, ?_, ?_⟩
  · rw [hget] at t3
    have e1 : ((withC (withC k cs) ((withC k cs).cuts.set i ((withC k cs).cuts[i].1.set t (X, ((withC k cs).cuts[i].1[t]).2), (withC k cs).cuts[i].2))).cuts.set i ((((withC k cs).cuts[i].1.set t (X, ((withC k cs).cuts[i].1[t]).2)).set t (X, Y)), (withC k cs).cuts[i].2)) = cs.set i (cs[i].1.set t (X, Y), cs[i].2) := by
      show List.set (List.set _ _ _) _ _ = _
      rw [List.set_set, List.set_set]
      rfl
    rw [e1] at t3
    exact t3
  · exact ((((h.box.ext x1).setOther (p := ⟨gi, t * 2, none⟩) hx8 _).ext x2).setOther (p := ⟨gi, t * 2 + 1, none⟩) hx8 _)
  · exact (((h.ext.trans x1).setCell (p := ⟨gi, t * 2, none⟩) hg.1 _).trans x2).setCell (p := ⟨gi, t * 2 + 1, none⟩) hg.1 _
theorem MovM.start {a b : Int} {k : WkT} {w2 W : World} {vv : Value} {x8 : Nat} {Ts : List CutR} (h : TwinM k w2.heap.size w2 W vv Ts k.cuts.length) (hb : BoxAt x8 (workCells k vv) 79 W) (x : Ext w2 W) : MovM a b k w2 vv x8 Ts 0 0 W := ⟨⟨k.cuts, h, MvIs.start a b k⟩, hb, x⟩
theorem MovM.next {a b : Int} {k : WkT} {w2 W : World} {vv : Value} {x8 : Nat} {Ts : List CutR} {i m : Nat} (h : MovM a b k w2 vv x8 Ts i m W) (hm : ∀ (h' : i < k.cuts.length), k.cuts[i].1.length ≤ m) : MovM a b k w2 vv x8 Ts (i + 1) 0 W := by
  obtain ⟨cs, h1, h2⟩ := h.tw
  exact ⟨⟨cs, h1, h2.next hm⟩, h.box, h.ext⟩
theorem MovM.end {a b : Int} {k : WkT} {w2 W : World} {vv : Value} {x8 : Nat} {Ts : List CutR} (h : MovM a b k w2 vv x8 Ts k.cuts.length 0 W) : CutsIs W vv (movK k a b).cuts := by
  obtain ⟨cs, h1, h2⟩ := h.tw
  rw [h2.end] at h1
  exact h1.cuts
theorem MovM.endI {a b : Int} {k : WkT} {w2 W : World} {vv : Value} {x8 : Nat} {Ts : List CutR} {i : Nat} (h : MovM a b k w2 vv x8 Ts i 0 W) (hi : i = k.cuts.length) : CutsIs W vv (movK k a b).cuts := by
  subst hi
  exact h.end
theorem MovM.base {a b : Int} {k : WkT} {w2 W : World} {A : Option Addr} {n c : Nat} {x8 : Nat} {Ts : List CutR} {i t : Nat} (h : MovM a b k w2 (.slice A n c) x8 Ts i t W) (hi : i < k.cuts.length) : ∃ g, A = some ⟨g, 0, none⟩ := by
  obtain ⟨cs, htw, hch⟩ := h.tw
  have hiT : i < Ts.length := by rw [htw.len]; show i < cs.length; rw [hch.len]; exact hi
  obtain ⟨g', cg', he, -, -, -, -⟩ := htw.own.slot hiT
  simp only [Value.slice.injEq] at he
  exact ⟨g', he.1⟩
/-- The spots of the next cut. -/
theorem MovM.row {a b : Int} {k : WkT} {w2 W : World} {g n c : Nat} {x8 : Nat} {Ts : List CutR} {i t : Nat} (h : MovM a b k w2 (.slice (some ⟨g, 0, none⟩) n c) x8 Ts i t W) (hi : i < k.cuts.length) (h1 : ∀ h' : i < k.cuts.length, 1 ≤ k.cuts[i].1.length) :
    ∃ gi ci, ∃ hT : i < Ts.length, rowV Ts[i].1 = .slice (some ⟨gi, 0, none⟩) (k.cuts[i].1.length) ci ∧ Ts[i].2 = k.cuts[i].2 := by
  obtain ⟨cs, htw, hch⟩ := h.tw
  have hics : i < cs.length := by rw [hch.len]; exact hi
  have hiT : i < Ts.length := by rw [htw.len]; exact hics
  have hdn := htw.done i hiT hics hics
  have hcl1 : (withC k cs).cuts[i].1.length = k.cuts[i].1.length := (hch.rest i hics hi).2
  obtain ⟨gi, ci, hrow, -, -, -, -⟩ := hdn.slot (j := 0) (by rw [hcl1]; have := h1 hi; omega)
  rw [hcl1] at hrow
  exact ⟨gi, ci, hiT, hrow, (htw.rest i hiT hics).trans (hch.rest i hics hi).1⟩
/-- The cells of a cut of the twin. -/
theorem MovM.cell {a b : Int} {k : WkT} {w2 W : World} {g n c : Nat} {x8 : Nat} {Ts : List CutR} {i t : Nat} (h : MovM a b k w2 (.slice (some ⟨g, 0, none⟩) n c) x8 Ts i t W) (hT : i < Ts.length) : W.cell? ⟨g, i * 3, none⟩ = some (rowV Ts[i].1) ∧ W.cell? ⟨g, i * 3 + 1, none⟩ = some (.int .i64 Ts[i].2.1) ∧ W.cell? ⟨g, i * 3 + 2, none⟩ = some (.bool Ts[i].2.2) := by
  obtain ⟨cs, htw, hch⟩ := h.tw
  obtain ⟨g', cg', he, -, -, hcl, -⟩ := htw.own.slot hT
  simp only [Value.slice.injEq] at he
  obtain ⟨he1, -, -⟩ := he
  obtain rfl : g = g' := by simpa using he1
  exact ⟨hcl 0 _ rfl, hcl 1 _ rfl, hcl 2 _ rfl⟩
/-- The next spot. -/
theorem MovM.at_ {a b : Int} {k : WkT} {w2 W : World} {vv : Value} {x8 : Nat} {Ts : List CutR} {i t : Nat} (h : MovM a b k w2 vv x8 Ts i t W) (hi : i < k.cuts.length) (hT : i < Ts.length) {gi N ci : Nat} (hrow : rowV Ts[i].1 = .slice (some ⟨gi, 0, none⟩) N ci) (ht : t < k.cuts[i].1.length) :
    vv.ownBlock ≠ some gi ∧ x8 ≠ gi ∧ W.cell? ⟨gi, t * 2, none⟩ = some (.int .i64 k.cuts[i].1[t].1) ∧ W.cell? ⟨gi, t * 2 + 1, none⟩ = some (.int .i64 k.cuts[i].1[t].2) ∧ W.frozen? ⟨gi, t * 2, none⟩ = false ∧ W.frozen? ⟨gi, t * 2 + 1, none⟩ = false ∧ w2.heap.size ≤ gi := by
  obtain ⟨cs, htw, hch⟩ := h.tw
  have hics : i < cs.length := by rw [hch.len]; exact hi
  have hdn := htw.done i hT hics hics
  have hcl1 : (withC k cs).cuts[i].1.length = k.cuts[i].1.length := (hch.rest i hics hi).2
  have htc : t < (withC k cs).cuts[i].1.length := by rw [hcl1]; exact ht
  obtain ⟨gi', ci', hrow', -, -, hsc, hsf⟩ := hdn.slot (j := t) htc
  rw [hrow] at hrow'
  simp only [Value.slice.injEq] at hrow'
  obtain ⟨hr1, -, -⟩ := hrow'
  obtain rfl : gi = gi' := by simpa using hr1
  have s0 : W.cell? ⟨gi, t * 2, none⟩ = some (.int .i64 ((withC k cs).cuts[i].1[t]).1) := hsc 0 _ rfl
  have s1 : W.cell? ⟨gi, t * 2 + 1, none⟩ = some (.int .i64 ((withC k cs).cuts[i].1[t]).2) := hsc 1 _ rfl
  have hsame : (withC k cs).cuts[i].1[t] = k.cuts[i].1[t] := (hch.at_ i hics hi t htc ht).2 (by omega)
  rw [hsame] at s0 s1
  have hbn := hdn.box_ne h.box (by decide)
  have hon := own_ne hdn htw.own spot_cut_ne
  rw [hrow] at hbn hon
  refine ⟨fun e => ?_, fun e => hbn (by simp [Value.ownBlock, e]), s0, s1, hsf _, hsf _, (hdn.lt gi (by rw [hrow]; rfl)).1⟩
  rcases hon with h1 | h1
  · simp [Value.ownBlock] at h1
  · exact h1 e.symm
/-- One more cut is appended to a twin's: it reads. -/
theorem cuts_more {B : Nat} {k : WkT} {w0 W W' : World} {v v' : Value} {Ts : List CutR} (h : TwinM k B w0 W v Ts k.cuts.length) (T : CutR) (zs : List (Int × Int)) (hz : spotK.Is W' (rowV T.1) zs) (ho : cutK.Own B W' v' (Ts ++ [T])) (hd : ∀ q (a : q < Ts.length) (b : q < k.cuts.length), spotK.Is W' (rowV Ts[q].1) k.cuts[q].1) : CutsIs W' v' (k.cuts ++ [(zs, T.2)]) := by
  refine ⟨Ts ++ [T], ho.is, by simp [h.len], fun q a b => ?_⟩
  by_cases hq : q < Ts.length
  · have hq' : q < k.cuts.length := by rw [← h.len]; exact hq
    rw [List.getElem_append_left hq, List.getElem_append_left hq']
    exact ⟨hd q hq hq', h.rest q hq hq'⟩
  · have he : q = Ts.length := by
      simp only [List.length_append, List.length_singleton] at a
      omega
    subst he
    have h2 : k.cuts.length = Ts.length := h.len.symm
    rw [List.getElem_append_right (Nat.le_refl _), List.getElem_append_right (by omega)]
    simp only [Nat.sub_self, List.getElem_cons_zero]
    have : Ts.length - k.cuts.length = 0 := by omega
    simp only [this, List.getElem_cons_zero]
    exact ⟨hz, trivial⟩
end Go.Proofs.Ytlljhimaopnbfaa
