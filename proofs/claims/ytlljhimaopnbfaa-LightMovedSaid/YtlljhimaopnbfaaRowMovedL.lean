/- LightMoved: the given statement, proved. No condition. -/
import Derived.Test.YtlljhimaopnbfaaRows
import Derived.Test.YtlljhimaopnbfaaOpenW
import Derived.Test.YtlljhimaopnbfaaOpenE
import Derived.Test.YtlljhimaopnbfaaLLawMo
import Derived.Test.YtlljhimaopnbfaaLKa
import Derived.Test.YtlljhimaopnbfaaLKb
import Derived.Test.YtlljhimaopnbfaaLKc
namespace Go.Proofs.Ytlljhimaopnbfaa
open Go.ChangeShapes Go.WideShapes Go.ChangeAt Go.RowKit Go.Deep

theorem Try.own : ownKnob Try.prog.godebug = none := by kernel_rfl
theorem Try.laidOut : laidOutB Try.prog = true := by kernel_rfl

set_option maxRecDepth 100000 in
theorem lightMoved_lifted (os : Os) (started : os.Started) (H : Type) (enc : TypeId × Value → H) :
    ReturnsInHanded {} Try.checked os 18 .any (Rows.lightMovedSpec.pre6 enc Try.prog Try.f18 Rows.lightMovedRow.domain false) (Rows.lightMovedSpec.post enc Try.prog Try.f18 false true false false) := by
  refine returnsInHanded_of_change (C := Try.checked) Try.own started (by kernel_rfl) Try.func18
    (ChangeSpec.witness6 (enc := enc) (C := Try.checked) false ⟨#[], #[.agg #[.int .i64 0, .int .i64 0, .int .i64 0, .int .i64 0, .int .i64 0, .int .i64 0, .int .i64 0, .int .i64 0, .int .i64 0, .int .i64 0, .int .i64 0, .int .i64 0, .slice none 0 0], .agg #[.int .i64 0, .int .i64 0], .int .i64 0, .int .i64 0, .int .i64 0, .int .i64 0, .int .i64 0, .agg #[.slice none 0 0, .int .i64 0, .bool false]], []⟩ 8 (by kernel_rfl) (by kernel_rfl) (by kernel_rfl) (by kernel_rfl)) ?_
  intro W base args ds gs before hval0 hW hcnd _
  have hval : ∀ (j : Nat) t v, Try.f18.params[j]? = some t → args[j]? = some v → Value.okWide Try.prog W .any base t v := hval0
  have hW' := hW
  obtain ⟨p, q, hA0, hV, rfl, hfz, hnd⟩ := hW
  have hA : DataW.TrodAll enc Try.prog W 0 (fun _ => true) true Try.f18.params.toList args.toList ds p := hA0
  rw [Try.params18] at hA hval
  obtain ⟨v0, vs0, d0, ds0, p0, q0, hargs, rfl, rfl, h0, r0⟩ := trodAll_cons hA
  obtain ⟨v1, vs1, d1, ds1, p1, q1, rfl, rfl, rfl, h1, r1⟩ := trodAll_cons r0
  obtain ⟨v2, vs2, d2, ds2, p2, q2, rfl, rfl, rfl, h2, r2⟩ := trodAll_cons r1
  obtain ⟨v3, vs3, d3, ds3, p3, q3, rfl, rfl, rfl, h3, r3⟩ := trodAll_cons r2
  obtain ⟨v4, vs4, d4, ds4, p4, q4, rfl, rfl, rfl, h4, r4⟩ := trodAll_cons r3
  obtain ⟨v5, vs5, d5, ds5, p5, q5, rfl, rfl, rfl, h5, r5⟩ := trodAll_cons r4
  obtain ⟨v6, vs6, d6, ds6, p6, q6, rfl, rfl, rfl, h6, r6⟩ := trodAll_cons r5
  obtain ⟨v7, vs7, d7, ds7, p7, q7, rfl, rfl, rfl, h7, r7⟩ := trodAll_cons r6
  obtain ⟨rfl, rfl, rfl⟩ := trodAll_nil r7
  obtain rfl : args = #[v0, v1, v2, v3, v4, v5, v6, v7] := by cases args; simp_all
  obtain ⟨rfl, rfl⟩ := trodVars_none hV
  have k0 := h0
  have lt0 : ∀ x ∈ p0, x.block < W.heap.size := by obtain ⟨m, hm⟩ := k0; exact DataW.trod_lt m _ _ _ hm
  have k1 := h1
  have lt1 : ∀ x ∈ p1, x.block < W.heap.size := by obtain ⟨m, hm⟩ := k1; exact DataW.trod_lt m _ _ _ hm
  have k2 := h2
  have lt2 : ∀ x ∈ p2, x.block < W.heap.size := by obtain ⟨m, hm⟩ := k2; exact DataW.trod_lt m _ _ _ hm
  have k3 := h3
  have lt3 : ∀ x ∈ p3, x.block < W.heap.size := by obtain ⟨m, hm⟩ := k3; exact DataW.trod_lt m _ _ _ hm
  have k4 := h4
  have lt4 : ∀ x ∈ p4, x.block < W.heap.size := by obtain ⟨m, hm⟩ := k4; exact DataW.trod_lt m _ _ _ hm
  have k5 := h5
  have lt5 : ∀ x ∈ p5, x.block < W.heap.size := by obtain ⟨m, hm⟩ := k5; exact DataW.trod_lt m _ _ _ hm
  have k6 := h6
  have lt6 : ∀ x ∈ p6, x.block < W.heap.size := by obtain ⟨m, hm⟩ := k6; exact DataW.trod_lt m _ _ _ hm
  have k7 := h7
  have lt7 : ∀ x ∈ p7, x.block < W.heap.size := by obtain ⟨m, hm⟩ := k7; exact DataW.trod_lt m _ _ _ hm
  obtain ⟨cs0, rfl, _⟩ := okWide_struct Try.underlying79 (hval 0 79 v0 rfl rfl)
  obtain ⟨l0⟩ := cs0
  obtain ⟨z0, A0, n0, c0, rfl, hz0⟩ := work_of_trod h0
  obtain ⟨cs1, rfl, _⟩ := okWide_struct Try.underlying76 (hval 1 76 v1 rfl rfl)
  obtain ⟨l1⟩ := cs1
  obtain ⟨a1a, a1b, rfl⟩ : ∃ a1a a1b : Int, l1 = [.int .i64 a1a, .int .i64 a1b] := by
    obtain ⟨fu, hf⟩ := h1
    obtain ⟨xs, hl, hx, _⟩ := trod_ints Try.underlying76 (by kernel_rfl) (by kernel_rfl) hf
    obtain ⟨a1a, a1b, rfl⟩ := len2 hl
    exact ⟨a1a, a1b, hx⟩
  obtain ⟨a2, rfl, rfl, rfl, wa2⟩ := open_int Try.underlying3 (hval 2 3 v2 rfl rfl) h2
  obtain ⟨a3, rfl, rfl, rfl, wa3⟩ := open_int Try.underlying3 (hval 3 3 v3 rfl rfl) h3
  obtain ⟨a4, rfl, rfl, rfl, wa4⟩ := open_int Try.underlying3 (hval 4 3 v4 rfl rfl) h4
  obtain ⟨a5, rfl, rfl, rfl, wa5⟩ := open_int Try.underlying3 (hval 5 3 v5 rfl rfl) h5
  obtain ⟨a6, rfl, rfl, rfl, wa6⟩ := open_int Try.underlying3 (hval 6 3 v6 rfl rfl) h6
  obtain ⟨cs7, rfl, _⟩ := okWide_struct Try.underlying106 (hval 7 106 v7 rfl rfl)
  obtain ⟨l7⟩ := cs7
  obtain ⟨A7, n7, c7, p7', b7, z7, rfl, hz7⟩ : ∃ A n c p b z, l7 = [.slice A n c, .int .i64 p, .bool b] ∧ spotK.Is W (.slice A n c) z := by
    obtain ⟨fu, hf⟩ := h7
    obtain ⟨⟨⟨A, n, c⟩, p, b⟩, ha, z, hz⟩ := cut_of_trod fu _ _ hf
    exact ⟨A, n, c, p, b, z, ha.symm, hz⟩
  clear hA0 hval0
  refine (lawMoved_any z0 (.slice A0 n0 c0) a1a a1b a2 a3 a4 a5 a6 A7 n7 c7 p7' b7 z7 W hz0 hz7).mono fun e W' ⟨he, hx⟩ => ?_
  have bel := hx.bel
  subst he
  exact ⟨_, rfl, _, _, _, [], _, [], hW', trodAll_mk1 (shut_bool Try.underlying4 _), (trodAll_cons_mk (Below.trod Try.laidOut (by kernel_rfl) (of_decide_eq_true (by kernel_rfl)) k0 bel lt0) (trodAll_cons_mk (Below.trod Try.laidOut (by kernel_rfl) (of_decide_eq_true (by kernel_rfl)) k1 bel lt1) (trodAll_cons_mk (Below.trod Try.laidOut (by kernel_rfl) (of_decide_eq_true (by kernel_rfl)) k2 bel lt2) (trodAll_cons_mk (Below.trod Try.laidOut (by kernel_rfl) (of_decide_eq_true (by kernel_rfl)) k3 bel lt3) (trodAll_cons_mk (Below.trod Try.laidOut (by kernel_rfl) (of_decide_eq_true (by kernel_rfl)) k4 bel lt4) (trodAll_cons_mk (Below.trod Try.laidOut (by kernel_rfl) (of_decide_eq_true (by kernel_rfl)) k5 bel lt5) (trodAll_cons_mk (Below.trod Try.laidOut (by kernel_rfl) (of_decide_eq_true (by kernel_rfl)) k6 bel lt6) (trodAll_cons_mk (Below.trod Try.laidOut (by kernel_rfl) (of_decide_eq_true (by kernel_rfl)) k7 bel lt7) trodAll_mk0)))))))), rfl, bel.frame _, fun h => by cases h⟩

set_option maxHeartbeats 40000000 in
theorem lightMoved_closed : joinedFacts Try.pinned.checked.prog 18 Try.f18 Rows.lightMovedSpec Rows.lightMovedRow = true := by
  unfold joinedFacts
  simp only [Bool.and_eq_true]
  repeat' apply And.intro
  all_goals first
    | (with_reducible (show Program.mayEnter _ = true); exact k_mayEnter)
    | (with_reducible (show (_ == Program.liftsFinal _) = true); rw [k_lifted]; (as_aux_lemma => kernel_rfl))
    | (with_reducible (show (Program.make _ == _) = true); rw [k_make]; (as_aux_lemma => kernel_rfl))
    | (as_aux_lemma => kernel_rfl)

theorem lightMoved_named : Try.pinned.checked.prog.funcNamed Rows.lightMovedRow.func = some 18 := by kernel_rfl
theorem lightMoved_inst : Try.f18.isInstance Try.pinned.checked.prog Rows.lightMovedRow.origin Rows.lightMovedRow.targs := of_decide_eq_true (by kernel_rfl)
theorem lightMoved_wrap : Try.f18.isWrapper Try.pinned.checked.prog Rows.lightMovedRow.wrapper Rows.lightMovedRow.mainSum := by unfold Func.isWrapper; first | (rw [if_pos (by decide +kernel)]; kernel_rfl) | (rw [if_neg (by decide +kernel)]; exact ⟨rfl, rfl⟩)

theorem lightMoved_holds : Rows.LightMovedSaid :=
  OpenClaim.holds_of_wide 18 Try.f18 rfl rfl rfl rfl rfl rfl rfl ⟨rfl, rfl, rfl, rfl, rfl⟩ rfl rfl rfl rfl rfl lightMoved_named Try.func18 lightMoved_closed lightMoved_inst lightMoved_wrap
    (fun os started H enc _ => lightMoved_lifted os started H enc)
end Go.Proofs.Ytlljhimaopnbfaa
