/- TopTwelve: the given statement, proved. No condition. -/
import Derived.Test.YtkjgcmdabelohaaRows
import Derived.Test.YtkjgcmdabelohaaOpenP
import Derived.Test.YtkjgcmdabelohaaOpenE
import Derived.Test.YtkjgcmdabelohaaPLawTw
import Derived.Test.YtkjgcmdabelohaaTKa
import Derived.Test.YtkjgcmdabelohaaTKb
import Derived.Test.YtkjgcmdabelohaaTKc
namespace Go.Proofs.Ytkjgcmdabelohaa
open Go.ChangeShapes Go.WideShapes Go.ChangeAt Go.RowKit Go.Deep

theorem Try.own : ownKnob Try.prog.godebug = none := by kernel_rfl
theorem Try.laidOut : laidOutB Try.prog = true := by kernel_rfl

set_option maxRecDepth 100000 in
theorem topTwelve_lifted (os : Os) (started : os.Started) (H : Type) (enc : TypeId × Value → H) :
    ReturnsInHanded {} Try.checked os 5 .any (Rows.topTwelveSpec.pre6 enc Try.prog Try.f5 Rows.topTwelveRow.domain false) (Rows.topTwelveSpec.post enc Try.prog Try.f5 false true false false) := by
  refine returnsInHanded_of_change (C := Try.checked) Try.own started (by kernel_rfl) Try.func5
    (ChangeSpec.witness6 (enc := enc) (C := Try.checked) false ⟨#[], #[.agg #[.slice none 0 0, .slice none 0 0, .int .i64 0, .int .i64 0, .int .i64 0, .slice none 0 0], .int .i16 0], []⟩ 8 (by kernel_rfl) (by kernel_rfl) (by kernel_rfl) (by kernel_rfl)) ?_
  intro W base args ds gs before hval0 hW hcnd _
  have hval : ∀ (j : Nat) t v, Try.f5.params[j]? = some t → args[j]? = some v → Value.okWide Try.prog W .any base t v := hval0
  have hW' := hW
  obtain ⟨p, q, hA0, hV, rfl, hfz, hnd⟩ := hW
  have hA : DataW.TrodAll enc Try.prog W 0 (fun _ => true) true Try.f5.params.toList args.toList ds p := hA0
  rw [Try.params5] at hA hval
  obtain ⟨v0, vs0, d0, ds0, p0, q0, hargs, rfl, rfl, h0, r0⟩ := trodAll_cons hA
  obtain ⟨v1, vs1, d1, ds1, p1, q1, rfl, rfl, rfl, h1, r1⟩ := trodAll_cons r0
  obtain ⟨rfl, rfl, rfl⟩ := trodAll_nil r1
  obtain rfl : args = #[v0, v1] := by cases args; simp_all
  obtain ⟨rfl, rfl⟩ := trodVars_none hV
  have k0 := h0
  have lt0 : ∀ x ∈ p0, x.block < W.heap.size := by obtain ⟨m, hm⟩ := k0; exact DataW.trod_lt m _ _ _ hm
  have k1 := h1
  have lt1 : ∀ x ∈ p1, x.block < W.heap.size := by obtain ⟨m, hm⟩ := k1; exact DataW.trod_lt m _ _ _ hm
  obtain ⟨cs0, rfl, _⟩ := okWide_struct Try.underlying24 (hval 0 24 v0 rfl rfl)
  obtain ⟨l0⟩ := cs0
  obtain ⟨z0, s0, rfl, hz0⟩ := prog_of_trod h0
  obtain ⟨a1, rfl, rfl, rfl, wa1⟩ := open_int Try.underlying25 (hval 1 25 v1 rfl rfl) h1
  clear hA0 hval0
  refine (lawTwelve_any z0 s0 a1 W hz0 (by have h := wa1; simp only [Lit.wf, Bool.and_eq_true, decide_eq_true_eq] at h; exact h)).mono fun e W' ⟨he, hx⟩ => ?_
  have bel := hx.bel
  subst he
  exact ⟨_, rfl, _, _, _, [], _, [], hW', trodAll_mk1 (shut_bool Try.underlying4 _), (trodAll_cons_mk (Below.trod Try.laidOut (by kernel_rfl) (of_decide_eq_true (by kernel_rfl)) k0 bel lt0) (trodAll_cons_mk (Below.trod Try.laidOut (by kernel_rfl) (of_decide_eq_true (by kernel_rfl)) k1 bel lt1) trodAll_mk0)), rfl, bel.frame _, fun h => by cases h⟩

set_option maxHeartbeats 40000000 in
theorem topTwelve_closed : joinedFacts Try.pinned.checked.prog 5 Try.f5 Rows.topTwelveSpec Rows.topTwelveRow = true := by
  unfold joinedFacts
  simp only [Bool.and_eq_true]
  repeat' apply And.intro
  all_goals first
    | (with_reducible (show Program.mayEnter _ = true); exact k_mayEnter)
    | (with_reducible (show (_ == Program.liftsFinal _) = true); rw [k_lifted]; (as_aux_lemma => kernel_rfl))
    | (with_reducible (show (Program.make _ == _) = true); rw [k_make]; (as_aux_lemma => kernel_rfl))
    | (as_aux_lemma => kernel_rfl)

theorem topTwelve_named : Try.pinned.checked.prog.funcNamed Rows.topTwelveRow.func = some 5 := by kernel_rfl
theorem topTwelve_inst : Try.f5.isInstance Try.pinned.checked.prog Rows.topTwelveRow.origin Rows.topTwelveRow.targs := of_decide_eq_true (by kernel_rfl)
theorem topTwelve_wrap : Try.f5.isWrapper Try.pinned.checked.prog Rows.topTwelveRow.wrapper Rows.topTwelveRow.mainSum := by unfold Func.isWrapper; first | (rw [if_pos (by decide +kernel)]; kernel_rfl) | (rw [if_neg (by decide +kernel)]; exact ⟨rfl, rfl⟩)

theorem topTwelve_holds : Rows.TopTwelveSaid :=
  OpenClaim.holds_of_wide 5 Try.f5 rfl rfl rfl rfl rfl rfl rfl ⟨rfl, rfl, rfl, rfl, rfl⟩ rfl rfl rfl rfl rfl topTwelve_named Try.func5 topTwelve_closed topTwelve_inst topTwelve_wrap
    (fun os started H enc _ => topTwelve_lifted os started H enc)
end Go.Proofs.Ytkjgcmdabelohaa
