/- GrooveOrders: the given statement, proved. No condition. -/
import Derived.Test.YtgeapenglcohfaaRows
import Derived.Test.YtgeapenglcohfaaOpenW
import Derived.Test.YtgeapenglcohfaaOpenE
import Derived.Test.YtgeapenglcohfaaGLawOr
namespace Go.Proofs.Ytgeapenglcohfaa
open Go.ChangeShapes Go.WideShapes Go.ChangeAt Go.RowKit Go.Deep

theorem Try.own : ownKnob Try.prog.godebug = none := by kernel_rfl
theorem Try.laidOut : laidOutB Try.prog = true := by kernel_rfl

set_option maxRecDepth 100000 in
theorem grooveOrders_lifted (os : Os) (started : os.Started) (H : Type) (enc : TypeId × Value → H) :
    ReturnsInHanded {} Try.checked os 8 .any (Rows.grooveOrdersSpec.pre6 enc Try.prog Try.f8 Rows.grooveOrdersRow.domain false) (Rows.grooveOrdersSpec.post enc Try.prog Try.f8 false true false false) := by
  refine returnsInHanded_of_change (C := Try.checked) Try.own started (by kernel_rfl) Try.func8
    (ChangeSpec.witness6 (enc := enc) (C := Try.checked) false ⟨#[], #[.agg #[.int .i64 0, .int .i64 0, .int .i64 0, .int .i64 0, .int .i64 0, .int .i64 0, .int .i64 0, .int .i64 0, .int .i64 0, .int .i64 0, .int .i64 0, .int .i64 0, .slice none 0 0]], []⟩ 8 (by kernel_rfl) (by kernel_rfl) (by kernel_rfl) (by kernel_rfl)) ?_
  intro W base args ds gs before hval0 hW hcnd _
  have hval : ∀ (j : Nat) t v, Try.f8.params[j]? = some t → args[j]? = some v → Value.okWide Try.prog W .any base t v := hval0
  have hW' := hW
  obtain ⟨p, q, hA0, hV, rfl, hfz, hnd⟩ := hW
  have hA : DataW.TrodAll enc Try.prog W 0 (fun _ => true) true Try.f8.params.toList args.toList ds p := hA0
  rw [Try.params8] at hA hval
  obtain ⟨v0, vs0, d0, ds0, p0, q0, hargs, rfl, rfl, h0, r0⟩ := trodAll_cons hA
  obtain ⟨rfl, rfl, rfl⟩ := trodAll_nil r0
  obtain rfl : args = #[v0] := by cases args; simp_all
  obtain ⟨rfl, rfl⟩ := trodVars_none hV
  have k0 := h0
  have lt0 : ∀ x ∈ p0, x.block < W.heap.size := by obtain ⟨m, hm⟩ := k0; exact DataW.trod_lt m _ _ _ hm
  obtain ⟨cs0, rfl, _⟩ := okWide_struct Try.underlying59 (hval 0 59 v0 rfl rfl)
  obtain ⟨l0⟩ := cs0
  obtain ⟨z0, A0, n0, c0, rfl, hz0⟩ := work_of_trod h0
  clear hA0 hval0
  refine (lawOrders_any z0 (.slice A0 n0 c0) W hz0).mono fun e W' ⟨he, hx⟩ => ?_
  have bel := hx.bel
  subst he
  exact ⟨_, rfl, _, _, _, [], _, [], hW', trodAll_mk1 (shut_bool Try.underlying4 _), (trodAll_cons_mk (Below.trod Try.laidOut (by kernel_rfl) (of_decide_eq_true (by kernel_rfl)) k0 bel lt0) trodAll_mk0), rfl, bel.frame _, fun h => by cases h⟩

set_option maxHeartbeats 40000000 in
theorem grooveOrders_closed : joinedFacts Try.pinned.checked.prog 8 Try.f8 Rows.grooveOrdersSpec Rows.grooveOrdersRow = true := by
  unfold joinedFacts
  simp only [Bool.and_eq_true]
  repeat' apply And.intro
  all_goals (as_aux_lemma => kernel_rfl)

theorem grooveOrders_named : Try.pinned.checked.prog.funcNamed Rows.grooveOrdersRow.func = some 8 := by kernel_rfl
theorem grooveOrders_inst : Try.f8.isInstance Try.pinned.checked.prog Rows.grooveOrdersRow.origin Rows.grooveOrdersRow.targs := of_decide_eq_true (by kernel_rfl)
theorem grooveOrders_wrap : Try.f8.isWrapper Try.pinned.checked.prog Rows.grooveOrdersRow.wrapper Rows.grooveOrdersRow.mainSum := by unfold Func.isWrapper; first | (rw [if_pos (by decide +kernel)]; kernel_rfl) | (rw [if_neg (by decide +kernel)]; exact ⟨rfl, rfl⟩)

theorem grooveOrders_holds : Rows.GrooveOrdersSaid :=
  OpenClaim.holds_of_wide 8 Try.f8 rfl rfl rfl rfl rfl rfl rfl ⟨rfl, rfl, rfl, rfl, rfl⟩ rfl rfl rfl rfl rfl grooveOrders_named Try.func8 grooveOrders_closed grooveOrders_inst grooveOrders_wrap
    (fun os started H enc _ => grooveOrders_lifted os started H enc)
end Go.Proofs.Ytgeapenglcohfaa
