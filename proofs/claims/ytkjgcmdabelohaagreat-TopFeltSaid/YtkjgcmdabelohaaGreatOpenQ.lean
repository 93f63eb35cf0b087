/- A picture (api.Picture) that came in, opened. No condition. -/
import Derived.Test.YtkjgcmdabelohaaGreatOpenP
import Derived.Test.YtkjgcmdabelohaaGreatMHeads
namespace Go.Proofs.YtkjgcmdabelohaaGreat
open Go.ChangeShapes Go.WideShapes Go.RowKit Go.Deep

section
variable {H : Type} {enc : TypeId × Value → H} {w : World} {base : Nat} {spare : Nat → Bool} {held : Bool}

theorem readKIs {A : Option Addr} {n c : Nat} {x : DataW H × List MemPlace} (h : ∃ fuel, DataW.trod enc Tryz.prog w base spare held fuel 26 [.slice A n c] = some x) : ∃ xs, readK.Is w (.slice A n c) xs :=
  ekIs_of_trod (K := readK) Tryz.underlying26 Tryz.underlying84 (by kernel_rfl) (by kernel_rfl) (by kernel_rfl) (fun zs => (zs[0]?.getD 0, zs[1]?.getD 0, zs[2]?.getD 0, zs[3]?.getD 0)) (fun zs hz => by
    match zs, hz with
    | [a, b, c, d], _ => rfl) h

set_option maxRecDepth 100000 in
theorem head_of_trod (fu : Nat) (cs : List Value) (y : DataW H × List MemPlace) (h : DataW.trod enc Tryz.prog w base spare held fu headK.ty cs = some y) : ∃ a, headK.enc a = cs ∧ ∃ zs ys, IsI w (rowH a.1) zs ∧ IsI w (rowH a.2) ys := by
  obtain ⟨_, _, _, _, hl, _⟩ := DataW.trod_struct Tryz.underlying46 h
  have hl2 : cs.length = 2 := by rw [hl]; kernel_rfl
  match cs, hl2 with
  | [v0, v1], _ =>
    obtain ⟨A0, n0, k0, z0, e0, hz0⟩ := trod_intsAt Tryz.underlying46 h (i := 0) (by kernel_rfl) (by simp)
    obtain ⟨A1, n1, k1, z1, e1, hz1⟩ := trod_intsAt Tryz.underlying46 h (i := 1) (by kernel_rfl) (by simp)
    simp only [List.getElem_cons_zero, List.getElem_cons_succ] at e0 e1
    exact ⟨((A0, n0, k0), (A1, n1, k1)), by rw [e0, e1]; rfl, z0, z1, hz0, hz1⟩
theorem heads_of_trod {A : Option Addr} {n c : Nat} {x : DataW H × List MemPlace} (h : ∃ fuel, DataW.trod enc Tryz.prog w base spare held fuel 25 [.slice A n c] = some x) : ∃ hs, HdsIs w (.slice A n c) hs := by
  obtain ⟨Ts, h1, h2⟩ := ekR_of_trod (K := headK) (R := fun a => ∃ zs ys, IsI w (rowH a.1) zs ∧ IsI w (rowH a.2) ys) Tryz.underlying25 (by kernel_rfl) head_of_trod h
  refine ⟨List.ofFn fun q : Fin Ts.length => (Classical.choose (h2 q.val q.isLt), Classical.choose (Classical.choose_spec (h2 q.val q.isLt))), Ts, h1, by simp, fun q hq hq' => ?_⟩
  simp only [List.getElem_ofFn]
  exact Classical.choose_spec (Classical.choose_spec (h2 q hq))
set_option maxRecDepth 100000 in
theorem pic_of_trod {l : List Value} {x : DataW H × List MemPlace} (h : ∃ fuel, DataW.trod enc Tryz.prog w base spare held fuel 28 l = some x) :
    ∃ (q : PicR) (A : Option Addr) (n c : Nat) (B : Option Addr) (m d : Nat), l = [.slice A n c, .int .i64 q.tl, .int .i64 q.tu, .int .i64 q.al, .int .i64 q.au, .slice B m d] ∧ PicRIs w (.slice A n c) (.slice B m d) q := by
  obtain ⟨fuel, h⟩ := h
  obtain ⟨ys, k, _, _, hl, hyl, hg⟩ := DataW.trod_struct Tryz.underlying28 h
  have hl6 : l.length = 6 := by rw [hl]; kernel_rfl
  have hy6 : ys.length = 6 := hyl
  have c0 : Tryz.prog.cellsOf 25 = 1 := by kernel_rfl
  have c5 : Tryz.prog.cellsOf 26 = 1 := by kernel_rfl
  match l, hl6 with
  | [v0, v1, v2, v3, v4, v5], _ =>
    obtain ⟨a, ha⟩ := trod_intAt Tryz.underlying28 h (i := 1) (by kernel_rfl) (by simp)
    obtain ⟨b, hb⟩ := trod_intAt Tryz.underlying28 h (i := 2) (by kernel_rfl) (by simp)
    obtain ⟨c, hc⟩ := trod_intAt Tryz.underlying28 h (i := 3) (by kernel_rfl) (by simp)
    obtain ⟨d, hd⟩ := trod_intAt Tryz.underlying28 h (i := 4) (by kernel_rfl) (by simp)
    have g0 := hg 0 _ rfl
    have g5 := hg 5 _ rfl
    simp only [List.getElem_cons_zero, List.getElem_cons_succ] at ha hb hc hd
    simp only [List.getElem_toArray, List.getElem_cons_zero, List.getElem_cons_succ, c0, c5, List.drop_zero, List.drop_succ_cons, List.take_succ_cons, List.take_zero] at g0 g5
    rw [List.getElem?_eq_getElem (by omega)] at g0 g5
    obtain ⟨A, n, c1, rfl⟩ := slice_shape Tryz.underlying25 g0
    obtain ⟨B, m, c2, rfl⟩ := slice_shape Tryz.underlying26 g5
    obtain ⟨hs, hhs⟩ := heads_of_trod ⟨_, g0⟩
    obtain ⟨rd, hrd⟩ := readKIs ⟨_, g5⟩
    exact ⟨⟨hs, a, b, c, d, rd⟩, A, n, c1, B, m, c2, by rw [ha, hb, hc, hd], hhs, hrd⟩
end
end Go.Proofs.YtkjgcmdabelohaaGreat
