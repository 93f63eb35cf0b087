/- RosetteExamples: the given statement, proved. No condition. -/
import Derived.Test.YtaaceadcnnfngaaRows
import Derived.Test.YtaaceadcnnfngaaOpenE
import Derived.Test.YtaaceadcnnfngaaRLawX
namespace Go.Proofs.Ytaaceadcnnfngaa
open Go.ChangeShapes Go.WideShapes Go.ChangeAt Go.RowKit Go.Deep

theorem Try.own : ownKnob Try.prog.godebug = none := by kernel_rfl
theorem Try.laidOut : laidOutB Try.prog = true := by kernel_rfl

set_option maxRecDepth 100000 in
theorem rosetteExamples_lifted (os : Os) (started : os.Started) (H : Type) (enc : TypeId × Value → H) :
    ReturnsInHanded {} Try.checked os 17 .any (Rows.rosetteExamplesSpec.pre6 enc Try.prog Try.f17 Rows.rosetteExamplesRow.domain false) (Rows.rosetteExamplesSpec.post enc Try.prog Try.f17 false true false false) := by
  refine returnsInHanded_of_change (C := Try.checked) Try.own started (by kernel_rfl) Try.func17
    (ChangeSpec.witness6 (enc := enc) (C := Try.checked) false ⟨#[], #[], []⟩ 8 (by kernel_rfl) (by kernel_rfl) (by kernel_rfl) (by kernel_rfl)) ?_
  intro W base args ds gs before hval0 hW hcnd _
  have hval : ∀ (j : Nat) t v, Try.f17.params[j]? = some t → args[j]? = some v → Value.okWide Try.prog W .any base t v := hval0
  have hW' := hW
  obtain ⟨p, q, hA0, hV, rfl, hfz, hnd⟩ := hW
  have hA : DataW.TrodAll enc Try.prog W 0 (fun _ => true) true Try.f17.params.toList args.toList ds p := hA0
  rw [Try.params17] at hA hval
  obtain ⟨rfl, rfl, rfl⟩ := trodAll_none hA
  obtain ⟨rfl, rfl⟩ := trodVars_none hV

  clear hA0 hval0
  refine (lawExamples_any  W ).mono fun e W' ⟨he, hx⟩ => ?_
  have bel := hx.bel
  subst he
  exact ⟨_, rfl, _, _, _, [], _, [], hW', trodAll_mk1 (shut_bool Try.underlying4 _), rfl, rfl, bel.frame _, fun h => by cases h⟩

set_option maxHeartbeats 40000000 in
theorem rosetteExamples_closed : joinedFacts Try.pinned.checked.prog 17 Try.f17 Rows.rosetteExamplesSpec Rows.rosetteExamplesRow = true := by
  unfold joinedFacts
  simp only [Bool.and_eq_true]
  repeat' apply And.intro
  all_goals (as_aux_lemma => kernel_rfl)

theorem rosetteExamples_named : Try.pinned.checked.prog.funcNamed Rows.rosetteExamplesRow.func = some 17 := by kernel_rfl
theorem rosetteExamples_inst : Try.f17.isInstance Try.pinned.checked.prog Rows.rosetteExamplesRow.origin Rows.rosetteExamplesRow.targs := of_decide_eq_true (by kernel_rfl)
theorem rosetteExamples_wrap : Try.f17.isWrapper Try.pinned.checked.prog Rows.rosetteExamplesRow.wrapper Rows.rosetteExamplesRow.mainSum := by unfold Func.isWrapper; first | (rw [if_pos (by decide +kernel)]; kernel_rfl) | (rw [if_neg (by decide +kernel)]; exact ⟨rfl, rfl⟩)

theorem rosetteExamples_holds : Rows.RosetteExamplesSaid :=
  OpenClaim.holds_of_wide 17 Try.f17 rfl rfl rfl rfl rfl rfl rfl ⟨rfl, rfl, rfl, rfl, rfl⟩ rfl rfl rfl rfl rfl rosetteExamples_named Try.func17 rosetteExamples_closed rosetteExamples_inst rosetteExamples_wrap
    (fun os started H enc _ => rosetteExamples_lifted os started H enc)
end Go.Proofs.Ytaaceadcnnfngaa
