/- LightFlashed: the given statement, proved. No condition. -/
import Derived.Test.YtlljhimaopnbfaaRows
import Derived.Test.YtlljhimaopnbfaaOpenK
import Derived.Test.YtlljhimaopnbfaaOpenS
import Derived.Test.YtlljhimaopnbfaaLLawFs
import Derived.Test.YtlljhimaopnbfaaLKa
import Derived.Test.YtlljhimaopnbfaaLKb
import Derived.Test.YtlljhimaopnbfaaLKc
namespace Go.Proofs.Ytlljhimaopnbfaa
open Go.ChangeShapes Go.WideShapes Go.ChangeAt Go.RowKit Go.Deep

theorem Try.own : ownKnob Try.prog.godebug = none := by kernel_rfl
theorem Try.laidOut : laidOutB Try.prog = true := by kernel_rfl

set_option maxRecDepth 100000 in
theorem lightFlashed_lifted (os : Os) (started : os.Started) (H : Type) (enc : TypeId × Value → H) :
    ReturnsInHanded {} Try.checked os 16 .any (Rows.lightFlashedSpec.pre6 enc Try.prog Try.f16 Rows.lightFlashedRow.domain false) (Rows.lightFlashedSpec.post enc Try.prog Try.f16 false true false false) := by
  refine returnsInHanded_of_change (C := Try.checked) Try.own started (by kernel_rfl) Try.func16
    (ChangeSpec.witness6 (enc := enc) (C := Try.checked) false ⟨#[], #[.agg #[.int .i64 0, .int .i64 0, .int .i64 0, .slice none 0 0], .slice none 0 0], []⟩ 8 (by kernel_rfl) (by kernel_rfl) (by kernel_rfl) (by kernel_rfl)) ?_
  intro W base args ds gs before hval0 hW hcnd _
  have hval : ∀ (j : Nat) t v, Try.f16.params[j]? = some t → args[j]? = some v → Value.okWide Try.prog W .any base t v := hval0
  have hW' := hW
  obtain ⟨p, q, hA0, hV, rfl, hfz, hnd⟩ := hW
  have hA : DataW.TrodAll enc Try.prog W 0 (fun _ => true) true Try.f16.params.toList args.toList ds p := hA0
  rw [Try.params16] at hA hval
  obtain ⟨v0, vs0, d0, ds0, p0, q0, hargs, rfl, rfl, h0, r0⟩ := trodAll_cons hA
  obtain ⟨v1, vs1, d1, ds1, p1, q1, rfl, rfl, rfl, h1, r1⟩ := trodAll_cons r0
  obtain ⟨rfl, rfl, rfl⟩ := trodAll_nil r1
  obtain rfl : args = #[v0, v1] := by cases args; simp_all
  obtain ⟨rfl, rfl⟩ := trodVars_none hV
  have k0 := h0
  have lt0 : ∀ x ∈ p0, x.block < W.heap.size := by obtain ⟨m, hm⟩ := k0; exact DataW.trod_lt m _ _ _ hm
  have k1 := h1
  have lt1 : ∀ x ∈ p1, x.block < W.heap.size := by obtain ⟨m, hm⟩ := k1; exact DataW.trod_lt m _ _ _ hm
  obtain ⟨cs0, rfl, _⟩ := okWide_struct Try.underlying37 (hval 0 37 v0 rfl rfl)
  obtain ⟨l0⟩ := cs0
  obtain ⟨a0a, a0b, a0c, A0, n0, c0, z0, rfl, hz0⟩ := surface_of_trod Try.underlying37 (by kernel_rfl) (by kernel_rfl) (by kernel_rfl) (by kernel_rfl) (by kernel_rfl) h0
  obtain ⟨A1, n1, c1, rfl⟩ := okWide_slice Try.underlying70 (hval 1 70 v1 rfl rfl)
  obtain ⟨z1, hz1⟩ := lightKIs h1
  clear hA0 hval0
  refine (lawFlashed_any a0a a0b a0c (.slice A0 n0 c0) z0 (.slice A1 n1 c1) z1 W hz0 hz1).mono fun e W' ⟨he, hx⟩ => ?_
  have bel := hx.bel
  subst he
  exact ⟨_, rfl, _, _, _, [], _, [], hW', trodAll_mk1 (shut_bool Try.underlying4 _), (trodAll_cons_mk (Below.trod Try.laidOut (by kernel_rfl) (of_decide_eq_true (by kernel_rfl)) k0 bel lt0) (trodAll_cons_mk (Below.trod Try.laidOut (by kernel_rfl) (of_decide_eq_true (by kernel_rfl)) k1 bel lt1) trodAll_mk0)), rfl, bel.frame _, fun h => by cases h⟩

set_option maxHeartbeats 40000000 in
theorem lightFlashed_closed : joinedFacts Try.pinned.checked.prog 16 Try.f16 Rows.lightFlashedSpec Rows.lightFlashedRow = true := by
  unfold joinedFacts
  simp only [Bool.and_eq_true]
  repeat' apply And.intro
  all_goals first
    | (with_reducible (show Program.mayEnter _ = true); exact k_mayEnter)
    | (with_reducible (show (_ == Program.liftsFinal _) = true); rw [k_lifted]; (as_aux_lemma => kernel_rfl))
    | (with_reducible (show (Program.make _ == _) = true); rw [k_make]; (as_aux_lemma => kernel_rfl))
    | (as_aux_lemma => kernel_rfl)

theorem lightFlashed_named : Try.pinned.checked.prog.funcNamed Rows.lightFlashedRow.func = some 16 := by kernel_rfl
theorem lightFlashed_inst : Try.f16.isInstance Try.pinned.checked.prog Rows.lightFlashedRow.origin Rows.lightFlashedRow.targs := of_decide_eq_true (by kernel_rfl)
theorem lightFlashed_wrap : Try.f16.isWrapper Try.pinned.checked.prog Rows.lightFlashedRow.wrapper Rows.lightFlashedRow.mainSum := by unfold Func.isWrapper; first | (rw [if_pos (by decide +kernel)]; kernel_rfl) | (rw [if_neg (by decide +kernel)]; exact ⟨rfl, rfl⟩)

theorem lightFlashed_holds : Rows.LightFlashedSaid :=
  OpenClaim.holds_of_wide 16 Try.f16 rfl rfl rfl rfl rfl rfl rfl ⟨rfl, rfl, rfl, rfl, rfl⟩ rfl rfl rfl rfl rfl lightFlashed_named Try.func16 lightFlashed_closed lightFlashed_inst lightFlashed_wrap
    (fun os started H enc _ => lightFlashed_lifted os started H enc)
end Go.Proofs.Ytlljhimaopnbfaa
