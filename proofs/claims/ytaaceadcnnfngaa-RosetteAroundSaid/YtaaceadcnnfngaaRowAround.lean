/- RosetteAround: the given statement, proved. No condition. -/
import Derived.Test.YtaaceadcnnfngaaRows
import Derived.Test.YtaaceadcnnfngaaOpenI
import Derived.Test.YtaaceadcnnfngaaRLawAr
namespace Go.Proofs.Ytaaceadcnnfngaa
open Go.ChangeShapes Go.WideShapes Go.ChangeAt Go.RowKit Go.Deep

theorem Try.own : ownKnob Try.prog.godebug = none := by kernel_rfl
theorem Try.laidOut : laidOutB Try.prog = true := by kernel_rfl

set_option maxRecDepth 100000 in
theorem rosetteAround_lifted (os : Os) (started : os.Started) (H : Type) (enc : TypeId × Value → H) :
    ReturnsInHanded {} Try.checked os 12 .any (Rows.rosetteAroundSpec.pre6 enc Try.prog Try.f12 Rows.rosetteAroundRow.domain false) (Rows.rosetteAroundSpec.post enc Try.prog Try.f12 false true false false) := by
  refine returnsInHanded_of_change (C := Try.checked) Try.own started (by kernel_rfl) Try.func12
    (ChangeSpec.witness6 (enc := enc) (C := Try.checked) false ⟨#[], #[.slice none 0 0, .slice none 0 0, .int .i64 0], []⟩ 8 (by kernel_rfl) (by kernel_rfl) (by kernel_rfl) (by kernel_rfl)) ?_
  intro W base args ds gs before hval0 hW hcnd _
  have hval : ∀ (j : Nat) t v, Try.f12.params[j]? = some t → args[j]? = some v → Value.okWide Try.prog W .any base t v := hval0
  have hW' := hW
  obtain ⟨p, q, hA0, hV, rfl, hfz, hnd⟩ := hW
  have hA : DataW.TrodAll enc Try.prog W 0 (fun _ => true) true Try.f12.params.toList args.toList ds p := hA0
  rw [Try.params12] at hA hval
  obtain ⟨v0, vs0, d0, ds0, p0, q0, hargs, rfl, rfl, h0, r0⟩ := trodAll_cons hA
  obtain ⟨v1, vs1, d1, ds1, p1, q1, rfl, rfl, rfl, h1, r1⟩ := trodAll_cons r0
  obtain ⟨v2, vs2, d2, ds2, p2, q2, rfl, rfl, rfl, h2, r2⟩ := trodAll_cons r1
  obtain ⟨rfl, rfl, rfl⟩ := trodAll_nil r2
  obtain rfl : args = #[v0, v1, v2] := by cases args; simp_all
  obtain ⟨rfl, rfl⟩ := trodVars_none hV
  have k0 := h0
  have lt0 : ∀ x ∈ p0, x.block < W.heap.size := by obtain ⟨m, hm⟩ := k0; exact DataW.trod_lt m _ _ _ hm
  have k1 := h1
  have lt1 : ∀ x ∈ p1, x.block < W.heap.size := by obtain ⟨m, hm⟩ := k1; exact DataW.trod_lt m _ _ _ hm
  have k2 := h2
  have lt2 : ∀ x ∈ p2, x.block < W.heap.size := by obtain ⟨m, hm⟩ := k2; exact DataW.trod_lt m _ _ _ hm
  obtain ⟨A0, n0, c0, rfl⟩ := okWide_slice Try.underlying22 (hval 0 22 v0 rfl rfl)
  obtain ⟨z0, hz0⟩ : ∃ z, IsI W (.slice A0 n0 c0) z := by
    obtain ⟨fu, hf⟩ := h0
    exact isI_of_trod Try.underlying22 Try.underlying3 (by kernel_rfl) hf
  obtain ⟨A1, n1, c1, rfl⟩ := okWide_slice Try.underlying22 (hval 1 22 v1 rfl rfl)
  obtain ⟨z1, hz1⟩ : ∃ z, IsI W (.slice A1 n1 c1) z := by
    obtain ⟨fu, hf⟩ := h1
    exact isI_of_trod Try.underlying22 Try.underlying3 (by kernel_rfl) hf
  obtain ⟨a2, rfl, rfl, rfl, wa2⟩ := open_int Try.underlying3 (hval 2 3 v2 rfl rfl) h2
  clear hA0 hval0
  refine (lawAround_row (.slice A0 n0 c0) z0 (.slice A1 n1 c1) z1 a2 W hz0 hz1).mono fun e W' ⟨he, hx⟩ => ?_
  have bel := hx.bel
  subst he
  exact ⟨_, rfl, _, _, _, [], _, [], hW', trodAll_mk1 (shut_bool Try.underlying4 _), (trodAll_cons_mk (Below.trod Try.laidOut (by kernel_rfl) (of_decide_eq_true (by kernel_rfl)) k0 bel lt0) (trodAll_cons_mk (Below.trod Try.laidOut (by kernel_rfl) (of_decide_eq_true (by kernel_rfl)) k1 bel lt1) (trodAll_cons_mk (Below.trod Try.laidOut (by kernel_rfl) (of_decide_eq_true (by kernel_rfl)) k2 bel lt2) trodAll_mk0))), rfl, bel.frame _, fun h => by cases h⟩

set_option maxHeartbeats 40000000 in
theorem rosetteAround_closed : joinedFacts Try.pinned.checked.prog 12 Try.f12 Rows.rosetteAroundSpec Rows.rosetteAroundRow = true := by
  unfold joinedFacts
  simp only [Bool.and_eq_true]
  repeat' apply And.intro
  all_goals (as_aux_lemma => kernel_rfl)

theorem rosetteAround_named : Try.pinned.checked.prog.funcNamed Rows.rosetteAroundRow.func = some 12 := by kernel_rfl
theorem rosetteAround_inst : Try.f12.isInstance Try.pinned.checked.prog Rows.rosetteAroundRow.origin Rows.rosetteAroundRow.targs := of_decide_eq_true (by kernel_rfl)
theorem rosetteAround_wrap : Try.f12.isWrapper Try.pinned.checked.prog Rows.rosetteAroundRow.wrapper Rows.rosetteAroundRow.mainSum := by unfold Func.isWrapper; first | (rw [if_pos (by decide +kernel)]; kernel_rfl) | (rw [if_neg (by decide +kernel)]; exact ⟨rfl, rfl⟩)

theorem rosetteAround_holds : Rows.RosetteAroundSaid :=
  OpenClaim.holds_of_wide 12 Try.f12 rfl rfl rfl rfl rfl rfl rfl ⟨rfl, rfl, rfl, rfl, rfl⟩ rfl rfl rfl rfl rfl rosetteAround_named Try.func12 rosetteAround_closed rosetteAround_inst rosetteAround_wrap
    (fun os started H enc _ => rosetteAround_lifted os started H enc)
end Go.Proofs.Ytaaceadcnnfngaa
