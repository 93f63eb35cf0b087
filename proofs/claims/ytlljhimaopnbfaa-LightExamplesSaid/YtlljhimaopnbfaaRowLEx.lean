/- LightExamples: the given statement, proved. No condition. -/
import Derived.Test.YtlljhimaopnbfaaRows
import Derived.Test.YtlljhimaopnbfaaOpenE
import Derived.Test.YtlljhimaopnbfaaLLawEx
import Derived.Test.YtlljhimaopnbfaaLKa
import Derived.Test.YtlljhimaopnbfaaLKb
import Derived.Test.YtlljhimaopnbfaaLKc
namespace Go.Proofs.Ytlljhimaopnbfaa
open Go.ChangeShapes Go.WideShapes Go.ChangeAt Go.RowKit Go.Deep

theorem Try.own : ownKnob Try.prog.godebug = none := by kernel_rfl
theorem Try.laidOut : laidOutB Try.prog = true := by kernel_rfl

set_option maxRecDepth 100000 in
theorem lightExamples_lifted (os : Os) (started : os.Started) (H : Type) (enc : TypeId × Value → H) :
    ReturnsInHanded {} Try.checked os 20 .any (Rows.lightExamplesSpec.pre6 enc Try.prog Try.f20 Rows.lightExamplesRow.domain false) (Rows.lightExamplesSpec.post enc Try.prog Try.f20 false true false false) := by
  refine returnsInHanded_of_change (C := Try.checked) Try.own started (by kernel_rfl) Try.func20
    (ChangeSpec.witness6 (enc := enc) (C := Try.checked) false ⟨#[], #[], []⟩ 8 (by kernel_rfl) (by kernel_rfl) (by kernel_rfl) (by kernel_rfl)) ?_
  intro W base args ds gs before hval0 hW hcnd _
  have hval : ∀ (j : Nat) t v, Try.f20.params[j]? = some t → args[j]? = some v → Value.okWide Try.prog W .any base t v := hval0
  have hW' := hW
  obtain ⟨p, q, hA0, hV, rfl, hfz, hnd⟩ := hW
  have hA : DataW.TrodAll enc Try.prog W 0 (fun _ => true) true Try.f20.params.toList args.toList ds p := hA0
  rw [Try.params20] at hA hval
  obtain ⟨rfl, rfl, rfl⟩ := trodAll_none hA
  obtain ⟨rfl, rfl⟩ := trodVars_none hV

  clear hA0 hval0
  refine (lawExamplesL_any  W ).mono fun e W' ⟨he, hx⟩ => ?_
  have bel := hx.bel
  subst he
  exact ⟨_, rfl, _, _, _, [], _, [], hW', trodAll_mk1 (shut_bool Try.underlying4 _), rfl, rfl, bel.frame _, fun h => by cases h⟩

set_option maxHeartbeats 40000000 in
theorem lightExamples_closed : joinedFacts Try.pinned.checked.prog 20 Try.f20 Rows.lightExamplesSpec Rows.lightExamplesRow = true := by
  unfold joinedFacts
  simp only [Bool.and_eq_true]
  repeat' apply And.intro
  all_goals first
    | (with_reducible (show Program.mayEnter _ = true); exact k_mayEnter)
    | (with_reducible (show (_ == Program.liftsFinal _) = true); rw [k_lifted]; (as_aux_lemma => kernel_rfl))
    | (with_reducible (show (Program.make _ == _) = true); rw [k_make]; (as_aux_lemma => kernel_rfl))
    | (as_aux_lemma => kernel_rfl)

theorem lightExamples_named : Try.pinned.checked.prog.funcNamed Rows.lightExamplesRow.func = some 20 := by kernel_rfl
theorem lightExamples_inst : Try.f20.isInstance Try.pinned.checked.prog Rows.lightExamplesRow.origin Rows.lightExamplesRow.targs := of_decide_eq_true (by kernel_rfl)
theorem lightExamples_wrap : Try.f20.isWrapper Try.pinned.checked.prog Rows.lightExamplesRow.wrapper Rows.lightExamplesRow.mainSum := by unfold Func.isWrapper; first | (rw [if_pos (by decide +kernel)]; kernel_rfl) | (rw [if_neg (by decide +kernel)]; exact ⟨rfl, rfl⟩)

theorem lightExamples_holds : Rows.LightExamplesSaid :=
  OpenClaim.holds_of_wide 20 Try.f20 rfl rfl rfl rfl rfl rfl rfl ⟨rfl, rfl, rfl, rfl, rfl⟩ rfl rfl rfl rfl rfl lightExamples_named Try.func20 lightExamples_closed lightExamples_inst lightExamples_wrap
    (fun os started H enc _ => lightExamples_lifted os started H enc)
end Go.Proofs.Ytlljhimaopnbfaa
