/- groove.Rules. Condition: the work's cuts read as a list. -/
import Derived.Test.YtgeapenglcohfaaRfP
import Derived.Test.YtgeapenglcohfaaGOrd
import Derived.Test.YtgeapenglcohfaaGPairs
namespace Go.Proofs.Ytgeapenglcohfaa
open Go.RowKit Go.Shelf
attribute [local go_sem] Oper.semAt_some

def pairsI (l : List (Nat × Nat)) : List (Int × Int) := l.map fun p => ((p.1 : Int), (p.2 : Int))
def rulesL (k : WkT) : List (Int × Int) := if workB k then pairsI (prsL (ruleM k)) else []
theorem pairsI_snoc (l : List (Nat × Nat)) (a b : Nat) : pairsI (l ++ [(a, b)]) = pairsI l ++ [((a : Int), (b : Int))] := by unfold pairsI; simp
theorem pairsI_len (l : List (Nat × Nat)) : (pairsI l).length = l.length := by unfold pairsI; simp

theorem BoxAt.setC {b : Nat} {cs : Array Value} {T : TypeId} {W : World} (h : BoxAt b cs T W) (i : Nat) (v : Value) : BoxAt b (cs.setIfInBounds i v) T (W.setCell ⟨b, i, none⟩ v) := by
  have hlt := h.lt
  unfold BoxAt at *
  simp [World.setCell, Array.getElem?_modify, h]
theorem own_cells {α : Type} {K : EK α} {B : Nat} {w : World} {v : Value} {xs : List α} (h : K.Own B w v xs) {r : Nat} (e : v.ownBlock = some r) : ∃ cs t p, w.heap[r]? = some (.cells cs t p) := by
  rcases h.2 with ⟨rfl, _⟩ | ⟨q, cap, cur, rfl, _, hq, _⟩
  · cases e
  · simp only [Value.ownBlock, Option.some.injEq] at e
    subst e
    exact ⟨_, _, _, hq⟩

/-- The rules that were listed after c rounds. -/
def RulI (k : WkT) (w2 : World) (b : Nat) (c : Nat) (W : World) : Prop := ∃ v, pairK.Own w2.heap.size W v (pairsI ((prsL (ruleM k)).take c)) ∧ BoxAt b #[v] 62 W ∧ But [b] w2 W
theorem RulI.own {k : WkT} {w2 : World} {b : Nat} : OwnFrom w2.heap.size (fun (c : Nat) W => RulI k w2 b c W) := fun _ _ _ _ hs hg hr => by
  obtain ⟨v, h1, h2, h3⟩ := hs
  refine ⟨v, ?_, ?_, h3.grown hg (fun r e => .inr (hr r e).1)⟩
  · refine h1.kept hg ?_
    cases hrow : v.ownBlock with
    | none => exact .inl rfl
    | some q =>
      refine .inr fun e => ?_
      obtain ⟨_, o, ho, hc⟩ := hr q e.symm
      rcases h1.2 with ⟨rfl, _⟩ | ⟨q', cap, cur, rfl, _, hq, _⟩
      · cases hrow
      · simp only [Value.ownBlock, Option.some.injEq] at hrow
        subst hrow
        rw [hq] at ho
        cases ho
        cases hc
  · obtain ⟨_, _, _, _, hb⟩ := hg
    refine (hb b h2.lt fun e => ?_).trans h2
    obtain ⟨_, o, ho, hc⟩ := hr b e.symm
    rw [h2] at ho
    cases ho
    cases hc

set_option maxRecDepth 100000 in
set_option maxHeartbeats 2000000 in
theorem rules_any (k : WkT) (v : Value) (w : World) (hI : CutsIs w v k.cuts) :
    Calls Try.prog 47 #[k.val v] w (RetEW pairK w (rulesL k) (workE k)) := by
  obtain ⟨A, c, rfl, -⟩ := cutsIs_at hI
  cases hb : workB k
  · have HW := Lib.hid fun (W : World) (x : Ext w W) => check_no (k := k) (hI.ext x) hb
    have HR := Lib.hid (show rulesL k = [] ∧ workE k = 51 from ⟨if_neg (by rw [hb]; exact Bool.false_ne_true), workE_no hb⟩)
    clear hb hI
    go_enter Try.func47, Try.ntmps47
    go_wp2_with fail
    refine (HW.out _ (by (repeat' (first | with_reducible exact Ext.refl _ | with_reducible apply Ext.alloc | with_reducible apply Ext.drew | with_reducible apply Ext.drewN | with_reducible refine Ext.setCell ?_ ?_ _ | with_reducible apply Ext.step | with_reducible assumption | with_reducible exact Nat.le_refl _ | (simp; done) | (simp; omega))))).mono ?_
    rintro e W1 ⟨rfl, x1⟩
    have HX1 := Lib.hid (show Ext w W1 from Ext.trans (by (repeat' (first | with_reducible exact Ext.refl _ | with_reducible apply Ext.alloc | with_reducible apply Ext.drew | with_reducible apply Ext.drewN | with_reducible refine Ext.setCell ?_ ?_ _ | with_reducible apply Ext.step | with_reducible assumption | with_reducible exact Nat.le_refl _ | (simp; done) | (simp; omega)))) x1)
    clear x1
    go_wp2_with fail
    go_ret2
    exact retEW_mk (EK.Own.nil _ _) HR.out.1 HR.out.2 HX1.out
  have HW := Lib.hid fun (W : World) (x : Ext w W) => check_ok (k := k) (hI.ext x) hb
  have HS := Lib.hid fun (W : World) (x : Ext w W) => rulesOf_any k _ W (hI.ext x) hb
  have HR := Lib.hid (show rulesL k = pairsI (prsL (ruleM k)) ∧ workE k = 0 from ⟨if_pos hb, workE_ok hb⟩)
  obtain ⟨n, hn⟩ : ∃ n, n = k.cuts.length := ⟨_, rfl⟩
  rw [← hn] at HW HS ⊢
  clear hb hn hI
  refine (callsIn_wide (n := 5)).1 ?_
  refine callsIn_of_wp_marks Try.func47 rfl trivial ?_ rfl
  simp only [Try.ntmps47, List.size_toArray, List.length_cons, List.length_nil, Nat.reduceAdd, Nat.reduceSub, Array.replicate_succ, Array.replicate_zero, List.push_toArray, List.append_toArray, List.nil_append, List.cons_append]
  have F2 : Fence.wide.fn 39 := trivial
  have F3 : Fence.wide.fn 85 := trivial
  have F4 : Fence.wide.fn 86 := trivial
  gi_wp2
  refine (callsIn_wide.2 (HW.out _ (by (repeat' (first | with_reducible exact Ext.refl _ | with_reducible apply Ext.alloc | with_reducible apply Ext.drew | with_reducible apply Ext.drewN | with_reducible refine Ext.setCell ?_ ?_ _ | with_reducible apply Ext.step | with_reducible assumption | with_reducible exact Nat.le_refl _ | (simp; done) | (simp; omega)))))).mono ?_
  rintro e W0 ⟨rfl, x0⟩
  have HX0 := Lib.hid (show Ext w W0 from Ext.trans (by (repeat' (first | with_reducible exact Ext.refl _ | with_reducible apply Ext.alloc | with_reducible apply Ext.drew | with_reducible apply Ext.drewN | with_reducible refine Ext.setCell ?_ ?_ _ | with_reducible apply Ext.step | with_reducible assumption | with_reducible exact Nat.le_refl _ | (simp; done) | (simp; omega)))) x0)
  obtain ⟨h0, h1, h2, h3, h4, h5, h6, h7, h8, h9, h10, h11, h12⟩ := (WkAt.new k (.slice A n c) w).ext x0
  have lh0 := cell_lt h0
  clear x0
  gi_wp2
  refine (callsIn_wide.2 (HS.out _ (HX0.out.alloc _))).mono ?_
  rintro e W1 ⟨g, rfl, hmat, hg, x1⟩
  have HX1 := Lib.hid ((HX0.out.alloc (.cells #[.slice none 0 0] 62)).trans x1)
  have HMT := Lib.hid hmat
  have hbx1 := (BoxAt.new W0 #[.slice none 0 0] 62).ext x1
  have lg := hmat.lt
  have hg0 : W0.heap.size < g := by simp at hg; omega
  clear x1 hmat h0 h1 h2 h3 h4 h5 h6 h7 h8 h9 h10 h11 h12 lh0 hg
  gi_wp2
  refine (all_in Fence.wide 4 trivial rfl _ _).mono ?_
  rintro e _ ⟨rfl, rfl⟩
  gi_wp2
  obtain ⟨wb, hwb⟩ : ∃ wb, wb = W0.heap.size := ⟨_, rfl⟩
  rw [← hwb] at hbx1 hg0 ⊢
  refine lay_in (fun W => Ext w W ∧ Ext W1 W ∧ W.heap.size = W1.heap.size + 1 ∧ BoxAt wb #[.slice none 0 0] 62 W ∧ W.cell? ⟨W1.heap.size, 0, none⟩ = some (.pointer (some ⟨g, 0, none⟩))) ⟨HX1.out.alloc _, (Ext.refl _).alloc _, by simp, hbx1.ext ((Ext.refl _).alloc _), by go_cell⟩ ?_
  rintro W2 ⟨x2, y2, hs2, hbx2, hib⟩
  have lbx := hbx1.lt
  have HX2 := Lib.hid x2
  have HBX := Lib.hid hbx2
  have hwW := HX0.out.bel.size
  rw [← hwb] at hwW
  have HAL := Lib.hid (show AllAt W2 [wb] W1.heap.size g (ruleM k) from ⟨hib, (HMT.out.ext y2).c, by simp; omega, by simp; omega⟩)
  clear x2 y2 hbx1 hbx2 hib hwb
  refine wpIn_range_inv (N := (prsL (ruleM k)).length) (RulI k W2 wb) (fun _ => False) [wb] rfl (by decide) (gf := 104) (lb := #[.pointer (some ⟨W1.heap.size, 0, none⟩)]) rfl trivial (enters_of Try.func104 (by kernel_rfl) rfl)
    (all_seq 4 (by decide) [wb] W1.heap.size g (ruleM k) W2 HAL.out) (fun _ => rfl) ⟨_, EK.Own.nil _ _, HBX.out, But.refl _ _⟩ RulI.own (fun _ _ _ _ hs _ _ => hs) ?Ax ?hAx ?assign ?body ?done (fun _ _ _ h _ => h.elim)
  case Ax => exact fun x a' W => a' = { tmps := #[k.val (.slice A n c), .pointer (some ⟨w.heap.size, 0, none⟩), .slice none 0 0, .int .i64 0, .int .i64 0, .pointer (some ⟨wb, 0, none⟩), .int .i64 (((prsL (ruleM k))[x.val]).1 : Nat), .int .i64 (((prsL (ruleM k))[x.val]).2 : Nat), k.val (.slice A n c), .int .i64 0, .int .i64 0, .bool false, undef, k.val (.slice A n c), .pointer (some ⟨g, 0, none⟩), .func (.func 104) #[] #[.pointer (some ⟨W1.heap.size, 0, none⟩)], .int .i64 (((prsL (ruleM k))[x.val]).1 : Nat), .int .i64 (((prsL (ruleM k))[x.val]).2 : Nat)] ++ (List.replicate 7 undef).toArray, defers := [] }
  case hAx => exact fun x a' _ A B row h _ _ => h
  case assign =>
    intro l x W K hW hK
    simp only [allEnc]
    gi_wp2
    refine hK _ _ (Ext.refl _) ?_
    simp [List.replicate]
  case body =>
    intro l x a' W hl hWs hlr hinv hax
    subst hax
    obtain ⟨v, hown, hbx, hbut⟩ := hinv
    have hxv := x.isLt
    have HTK := Lib.hid (show pairsI ((prsL (ruleM k)).take (x.val + 1)) = pairsI ((prsL (ruleM k)).take x.val) ++ [(((((prsL (ruleM k))[x.val]).1 : Nat) : Int), ((((prsL (ruleM k))[x.val]).2 : Nat) : Int))] by
      rw [List.take_succ_eq_append_getElem hxv]
      exact pairsI_snoc _ _ _)
    have HLN := Lib.hid (show (pairsI ((prsL (ruleM k)).take x.val)).length ≤ 1000000000 by rw [pairsI_len, List.length_take]; have := prsL_len (ruleM k); omega)
    generalize (((prsL (ruleM k))[x.val]).1 : Nat) = p at *
    generalize (((prsL (ruleM k))[x.val]).2 : Nat) = q at *
    obtain ⟨Ao, no, co, rfl⟩ := own_shapeW hown
    have HO := Lib.hid hown
    have HB := Lib.hid hbx
    have HBT := Lib.hid hbut
    have b0 : W.cell? ⟨wb, 0, none⟩ = some (.slice Ao no co) := hbx.cell rfl
    have f0 : W.frozen? ⟨wb, 0, none⟩ = false := frozen_of_row W wb 0 _ _ hbx
    have lb := cell_lt b0
    clear hown hbx hbut
    gi_wp2_with (gi_at_builtin; refine EK.app_in (K := pairK) (B := W2.heap.size) rfl (.tmp 18) (.tmp 22) rfl W.heap.size 1 ((p : Int), (q : Int)) rfl rfl (fun i u hu => cell_new hu) (HO.out.ext ((Ext.refl _).alloc _)) (by simp; omega) HLN.out ?_; intro v' w3 o3 b3 g3; obtain ⟨Av, kv, cv, rfl⟩ := own_shapeW o3; have HO3 := Lib.hid o3; have HB3 := Lib.hid b3; have HG3 := Lib.hid g3; have HX3 := Lib.hid (HB.out.ext ((Ext.refl W).alloc (.cells #[.int .i64 (p : Int), .int .i64 (q : Int)] 91))); have HBX3 := Lib.hid (box_keep HX3.out g3 (fun b' hb' e => by have := HO.out.lt b' hb'; omega)); have c3 := HBX3.out.cell (i := 0) rfl; have e3 := frozen_of_row w3 wb 0 _ _ HBX3.out; have l3 := cell_lt c3; clear o3 b3 g3)
    have hset : But [wb] w3 (w3.setCell ⟨wb, 0, none⟩ (.slice Av kv cv)) := (But.refl _ _).setCell (by simp) _
    have hk1 : KeepNC W w3 := (KeepNC.ext ((Ext.refl W).alloc _)).trans (KeepNC.grown HG3.out (fun r e => own_cells (HO.out.ext ((Ext.refl _).alloc _)) e))
    refine ⟨hk1.trans (KeepNC.but hset HBX3.out), ?_, .slice Av kv cv, ?_, ?_, ?_⟩
    · refine KpD.trans (fun b o v hb hn hc => ?_) (hset.kpD _)
      have h1 := ((Ext.refl W).alloc (.cells #[.int .i64 (p : Int), .int .i64 (q : Int)] 91)).cell_some hc
      exact (HB3.out.cell (p := ⟨b, o, none⟩) hb).trans h1
    · rw [HTK.out]
      exact HO3.out.kept (but_grown hset) (own_off HO3.out (by omega))
    · have := BoxAt.setC HBX3.out 0 (.slice Av kv cv)
      simpa using this
    · exact ((HBT.out.ext ((Ext.refl _).alloc _)).grown HG3.out (fun r e => .inr (HO.out.lt r e).1)).setCell (by simp) _
  case done =>
    intro M W hM hinv hmark
    obtain ⟨v, hown, hbx, hbut⟩ := hinv
    have hl : (prsL (ruleM k)).take (prsL (ruleM k)).length = prsL (ruleM k) := List.take_of_length_le (Nat.le_refl _)
    rw [hl] at hown
    obtain ⟨Ao, no, co, rfl⟩ := own_shapeW hown
    have HO := Lib.hid hown
    have HBT := Lib.hid hbut
    have HMK := Lib.hid hmark
    have b0 : W.cell? ⟨wb, 0, none⟩ = some (.slice Ao no co) := hbx.cell rfl
    have lb := cell_lt b0
    have h2s := HX2.out.bel.size
    clear hown hbx hbut hmark hl
    gi_wp2
    refine leaves_marks [M] _ (by simp) (mark_one HMK.out) (fun W' hW => ⟨.tuple #[.slice Ao no co, .int .i64 0], by simp [results, Try.results47, go_sem], retEW_mk ((HO.out.put hW (mark_one HMK.out)).mono (by omega)) HR.out.1 HR.out.2 (hW.ext (HBT.out.below HX2.out (by simp; omega)) (by simp; omega))⟩)
end Go.Proofs.Ytgeapenglcohfaa
