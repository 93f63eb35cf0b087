/- LightTurned: the given statement, proved. No condition. -/
import Derived.Test.YtlljhimaopnbfaaRows
import Derived.Test.YtlljhimaopnbfaaOpenS
import Derived.Test.YtlljhimaopnbfaaLLawTu
import Derived.Test.YtlljhimaopnbfaaLKa
import Derived.Test.YtlljhimaopnbfaaLKb
import Derived.Test.YtlljhimaopnbfaaLKc
namespace Go.Proofs.Ytlljhimaopnbfaa
open Go.ChangeShapes Go.WideShapes Go.ChangeAt Go.RowKit Go.Deep

theorem Try.own : ownKnob Try.prog.godebug = none := by kernel_rfl
theorem Try.laidOut : laidOutB Try.prog = true := by kernel_rfl

set_option maxRecDepth 100000 in
theorem lightTurned_lifted (os : Os) (started : os.Started) (H : Type) (enc : TypeId × Value → H) :
    ReturnsInHanded {} Try.checked os 12 .any (Rows.lightTurnedSpec.pre6 enc Try.prog Try.f12 Rows.lightTurnedRow.domain false) (Rows.lightTurnedSpec.post enc Try.prog Try.f12 false true false false) := by
  refine returnsInHanded_of_change (C := Try.checked) Try.own started (by kernel_rfl) Try.func12
    (ChangeSpec.witness6 (enc := enc) (C := Try.checked) false ⟨#[], #[.agg #[.int .i64 0, .int .i64 0, .int .i64 0, .slice none 0 0], .agg #[.int .i64 0, .int .i64 0, .int .i64 0], .bool false], []⟩ 8 (by kernel_rfl) (by kernel_rfl) (by kernel_rfl) (by kernel_rfl)) ?_
  intro W base args ds gs before hval0 hW hcnd _
  have hval : ∀ (j : Nat) t v, Try.f12.params[j]? = some t → args[j]? = some v → Value.okWide Try.prog W .any base t v := hval0
  have hW' := hW
  obtain ⟨p, q, hA0, hV, rfl, hfz, hnd⟩ := hW
  have hA : DataW.TrodAll enc Try.prog W 0 (fun _ => true) true Try.f12.params.toList args.toList ds p := hA0
  rw [Try.params12] at hA hval
  obtain ⟨v0, vs0, d0, ds0, p0, q0, hargs, rfl, rfl, h0, r0⟩ := trodAll_cons hA
  obtain ⟨v1, vs1, d1, ds1, p1, q1, rfl, rfl, rfl, h1, r1⟩ := trodAll_cons r0
  obtain ⟨v2, vs2, d2, ds2, p2, q2, rfl, rfl, rfl, h2, r2⟩ := trodAll_cons r1
  obtain ⟨rfl, rfl, rfl⟩ := trodAll_nil r2
  obtain rfl : args = #[v0, v1, v2] := by cases args; simp_all
  obtain ⟨rfl, rfl⟩ := trodVars_none hV
  have k0 := h0
  have lt0 : ∀ x ∈ p0, x.block < W.heap.size := by obtain ⟨m, hm⟩ := k0; exact DataW.trod_lt m _ _ _ hm
  have k1 := h1
  have lt1 : ∀ x ∈ p1, x.block < W.heap.size := by obtain ⟨m, hm⟩ := k1; exact DataW.trod_lt m _ _ _ hm
  have k2 := h2
  have lt2 : ∀ x ∈ p2, x.block < W.heap.size := by obtain ⟨m, hm⟩ := k2; exact DataW.trod_lt m _ _ _ hm
  obtain ⟨cs0, rfl, _⟩ := okWide_struct Try.underlying37 (hval 0 37 v0 rfl rfl)
  obtain ⟨l0⟩ := cs0
  obtain ⟨a0a, a0b, a0c, A0, n0, c0, z0, rfl, hz0⟩ := surface_of_trod Try.underlying37 (by kernel_rfl) (by kernel_rfl) (by kernel_rfl) (by kernel_rfl) (by kernel_rfl) h0
  obtain ⟨cs1, rfl, _⟩ := okWide_struct Try.underlying25 (hval 1 25 v1 rfl rfl)
  obtain ⟨l1⟩ := cs1
  obtain ⟨a1a, a1b, a1c, rfl⟩ : ∃ a1a a1b a1c : Int, l1 = [.int .i64 a1a, .int .i64 a1b, .int .i64 a1c] := by
    obtain ⟨fu, hf⟩ := h1
    obtain ⟨xs, hl, hx, _⟩ := trod_ints Try.underlying25 (by kernel_rfl) (by kernel_rfl) hf
    obtain ⟨a1a, a1b, a1c, rfl⟩ := len3 hl
    exact ⟨a1a, a1b, a1c, hx⟩
  obtain ⟨a2, rfl, rfl, rfl⟩ := open_bool Try.underlying4 (hval 2 4 v2 rfl rfl) h2
  clear hA0 hval0
  refine (lawTurned_any a0a a0b a0c (.slice A0 n0 c0) z0 a1a a1b a1c a2 W hz0).mono fun e W' ⟨he, hx⟩ => ?_
  have bel := hx.bel
  subst he
  exact ⟨_, rfl, _, _, _, [], _, [], hW', trodAll_mk1 (shut_bool Try.underlying4 _), (trodAll_cons_mk (Below.trod Try.laidOut (by kernel_rfl) (of_decide_eq_true (by kernel_rfl)) k0 bel lt0) (trodAll_cons_mk (Below.trod Try.laidOut (by kernel_rfl) (of_decide_eq_true (by kernel_rfl)) k1 bel lt1) (trodAll_cons_mk (Below.trod Try.laidOut (by kernel_rfl) (of_decide_eq_true (by kernel_rfl)) k2 bel lt2) trodAll_mk0))), rfl, bel.frame _, fun h => by cases h⟩

set_option maxHeartbeats 40000000 in
theorem lightTurned_closed : joinedFacts Try.pinned.checked.prog 12 Try.f12 Rows.lightTurnedSpec Rows.lightTurnedRow = true := by
  unfold joinedFacts
  simp only [Bool.and_eq_true]
  repeat' apply And.intro
  all_goals first
    | (with_reducible (show Program.mayEnter _ = true); exact k_mayEnter)
    | (with_reducible (show (_ == Program.liftsFinal _) = true); rw [k_lifted]; (as_aux_lemma => kernel_rfl))
    | (with_reducible (show (Program.make _ == _) = true); rw [k_make]; (as_aux_lemma => kernel_rfl))
    | (as_aux_lemma => kernel_rfl)

theorem lightTurned_named : Try.pinned.checked.prog.funcNamed Rows.lightTurnedRow.func = some 12 := by kernel_rfl
theorem lightTurned_inst : Try.f12.isInstance Try.pinned.checked.prog Rows.lightTurnedRow.origin Rows.lightTurnedRow.targs := of_decide_eq_true (by kernel_rfl)
theorem lightTurned_wrap : Try.f12.isWrapper Try.pinned.checked.prog Rows.lightTurnedRow.wrapper Rows.lightTurnedRow.mainSum := by unfold Func.isWrapper; first | (rw [if_pos (by decide +kernel)]; kernel_rfl) | (rw [if_neg (by decide +kernel)]; exact ⟨rfl, rfl⟩)

theorem lightTurned_holds : Rows.LightTurnedSaid :=
  OpenClaim.holds_of_wide 12 Try.f12 rfl rfl rfl rfl rfl rfl rfl ⟨rfl, rfl, rfl, rfl, rfl⟩ rfl rfl rfl rfl rfl lightTurned_named Try.func12 lightTurned_closed lightTurned_inst lightTurned_wrap
    (fun os started H enc _ => lightTurned_lifted os started H enc)
end Go.Proofs.Ytlljhimaopnbfaa
