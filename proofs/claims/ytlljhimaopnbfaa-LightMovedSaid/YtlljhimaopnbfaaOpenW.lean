/- Slices of spots, and works that came in, opened. No condition. -/
import Derived.Test.YtlljhimaopnbfaaOpenE
import Derived.Test.YtlljhimaopnbfaaGChk
namespace Go.Proofs.Ytlljhimaopnbfaa
open Go.ChangeShapes Go.WideShapes Go.RowKit Go.Deep

section
variable {H : Type} {enc : TypeId × Value → H} {w : World} {base : Nat} {spare : Nat → Bool} {held : Bool}

theorem spotKIs {A : Option Addr} {n c : Nat} {x : DataW H × List MemPlace} (h : ∃ fuel, DataW.trod enc Try.prog w base spare held fuel 104 [.slice A n c] = some x) : ∃ xs, spotK.Is w (.slice A n c) xs :=
  ekIs_of_trod (K := spotK) Try.underlying104 Try.underlying76 (by kernel_rfl) (by kernel_rfl) (by kernel_rfl) (fun zs => (zs[0]?.getD 0, zs[1]?.getD 0)) (fun zs hz => by
    match zs, hz with
    | [a, b], _ => rfl) h

set_option maxRecDepth 100000 in
theorem cut_of_trod (fu : Nat) (cs : List Value) (y : DataW H × List MemPlace) (h : DataW.trod enc Try.prog w base spare held fu cutK.ty cs = some y) : ∃ a, cutK.enc a = cs ∧ ∃ zs, spotK.Is w (rowV a.1) zs := by
  obtain ⟨ys, n, _, _, hl, hyl, hg⟩ := DataW.trod_struct Try.underlying106 h
  have hl3 : cs.length = 3 := by rw [hl]; kernel_rfl
  have hy3 : ys.length = 3 := hyl
  have c0 : Try.prog.cellsOf 104 = 1 := by kernel_rfl
  have c1 : Try.prog.cellsOf 3 = 1 := by kernel_rfl
  have c2 : Try.prog.cellsOf 4 = 1 := by kernel_rfl
  match cs, hl3 with
  | [v0, v1, v2], _ =>
    have g0 := hg 0 _ rfl
    have g1 := hg 1 _ rfl
    have g2 := hg 2 _ rfl
    simp only [List.getElem_toArray, List.getElem_cons_zero, List.getElem_cons_succ, c0, c1, c2, List.drop_zero, List.drop_succ_cons, List.take_succ_cons, List.take_zero] at g0 g1 g2
    rw [List.getElem?_eq_getElem (by omega)] at g0 g1 g2
    obtain ⟨A, k, c, rfl⟩ := slice_shape Try.underlying104 g0
    obtain ⟨zs, hz⟩ := spotKIs ⟨_, g0⟩
    obtain ⟨p, hp, _, _⟩ := DataW.trod_int Try.underlying3 g1
    obtain ⟨b, hb, _⟩ := DataW.trod_bool Try.underlying4 g2
    simp only [List.cons.injEq, and_true] at hp hb
    exact ⟨((A, k, c), p, b), by rw [hp, hb]; rfl, zs, hz⟩

theorem cutsIs_of_trod {A : Option Addr} {n c : Nat} {x : DataW H × List MemPlace} (h : ∃ fuel, DataW.trod enc Try.prog w base spare held fuel 77 [.slice A n c] = some x) : ∃ cs, CutsIs w (.slice A n c) cs := by
  obtain ⟨Ts, h1, h2⟩ := ekR_of_trod (K := cutK) (R := fun a => ∃ zs, spotK.Is w (rowV a.1) zs) Try.underlying77 (by kernel_rfl) cut_of_trod h
  refine ⟨List.ofFn fun q : Fin Ts.length => (Classical.choose (h2 q.val q.isLt), Ts[q.val].2), Ts, h1, by simp, fun q hq hq' => ?_⟩
  simp only [List.getElem_ofFn]
  exact ⟨Classical.choose_spec (h2 q hq), trivial⟩

theorem len13 {l : List Value} (h : l.length = 13) : ∃ a b c d e f g i j k m n o, l = [a, b, c, d, e, f, g, i, j, k, m, n, o] := by
  match l, h with
  | [a, b, c, d, e, f, g, i, j, k, m, n, o], _ => exact ⟨a, b, c, d, e, f, g, i, j, k, m, n, o, rfl⟩

set_option maxRecDepth 100000 in
theorem work_of_trod {l : List Value} {x : DataW H × List MemPlace} (h : ∃ fuel, DataW.trod enc Try.prog w base spare held fuel 79 l = some x) :
    ∃ (k : WkT) (A : Option Addr) (n c : Nat), l = [.int .i64 k.tip, .int .i64 k.num, .int .i64 k.den, .int .i64 k.bite, .int .i64 k.slack, .int .i64 k.wall, .int .i64 k.deepest, .int .i64 k.play, .int .i64 k.fx, .int .i64 k.fy, .int .i64 k.fh, .int .i64 k.fd, .slice A n c] ∧ CutsIs w (.slice A n c) k.cuts := by
  obtain ⟨fuel, h⟩ := h
  obtain ⟨ys, n, _, _, hl, hyl, hg⟩ := DataW.trod_struct Try.underlying79 h
  have hl3 : l.length = 13 := by rw [hl]; kernel_rfl
  have hy3 : ys.length = 8 := hyl
  have c0 : Try.prog.cellsOf 75 = 5 := by kernel_rfl
  have c1 : Try.prog.cellsOf 3 = 1 := by kernel_rfl
  have c2 : Try.prog.cellsOf 76 = 2 := by kernel_rfl
  have c3 : Try.prog.cellsOf 77 = 1 := by kernel_rfl
  obtain ⟨v0, v1, v2, v3, v4, v5, v6, v7, v8, v9, v10, v11, v12, rfl⟩ := len13 hl3
  have g0 := hg 0 _ rfl
  have g1 := hg 1 _ rfl
  have g2 := hg 2 _ rfl
  have g3 := hg 3 _ rfl
  have g4 := hg 4 _ rfl
  have g5 := hg 5 _ rfl
  have g6 := hg 6 _ rfl
  have g7 := hg 7 _ rfl
  simp only [List.getElem_toArray, List.getElem_cons_zero, List.getElem_cons_succ, c0, c1, c2, c3, List.drop_zero, List.drop_succ_cons, List.take_succ_cons, List.take_zero] at g0 g1 g2 g3 g4 g5 g6 g7
  rw [List.getElem?_eq_getElem (by omega)] at g0 g1 g2 g3 g4 g5 g6 g7
  obtain ⟨z0, hz0, e0, _⟩ := trod_ints Try.underlying75 (by kernel_rfl) (by kernel_rfl) g0
  obtain ⟨tip, num, den, bite, slack, rfl⟩ := len5 hz0
  obtain ⟨wall, e1, _, _⟩ := DataW.trod_int Try.underlying3 g1
  obtain ⟨deepest, e2, _, _⟩ := DataW.trod_int Try.underlying3 g2
  obtain ⟨play, e3, _, _⟩ := DataW.trod_int Try.underlying3 g3
  obtain ⟨z4, hz4, e4, _⟩ := trod_ints Try.underlying76 (by kernel_rfl) (by kernel_rfl) g4
  obtain ⟨fx, fy, rfl⟩ := len2 hz4
  obtain ⟨fh, e5, _, _⟩ := DataW.trod_int Try.underlying3 g5
  obtain ⟨fd, e6, _, _⟩ := DataW.trod_int Try.underlying3 g6
  obtain ⟨A, m, c, rfl⟩ := slice_shape Try.underlying77 g7
  obtain ⟨cs, hcs⟩ := cutsIs_of_trod ⟨_, g7⟩
  simp only [List.map_cons, List.map_nil, List.cons.injEq, and_true] at e0 e1 e2 e3 e4 e5 e6
  obtain ⟨rfl, rfl, rfl, rfl, rfl⟩ := e0
  obtain ⟨rfl, rfl⟩ := e4
  subst e1 e2 e3 e5 e6
  exact ⟨⟨tip, num, den, bite, slack, wall, deepest, play, fx, fy, fh, fd, cs⟩, A, m, c, rfl, hcs⟩
end
end Go.Proofs.Ytlljhimaopnbfaa
