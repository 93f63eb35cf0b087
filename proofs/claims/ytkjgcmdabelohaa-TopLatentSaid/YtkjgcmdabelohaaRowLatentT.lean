/- TopLatent: the given statement, proved. No condition. -/
import Derived.Test.YtkjgcmdabelohaaRows
import Derived.Test.YtkjgcmdabelohaaOpenE
import Derived.Test.YtkjgcmdabelohaaTLawL
import Derived.Test.YtkjgcmdabelohaaTKa
import Derived.Test.YtkjgcmdabelohaaTKb
import Derived.Test.YtkjgcmdabelohaaTKc
namespace Go.Proofs.Ytkjgcmdabelohaa
open Go.ChangeShapes Go.WideShapes Go.ChangeAt Go.RowKit Go.Deep

theorem Try.own : ownKnob Try.prog.godebug = none := by kernel_rfl
theorem Try.laidOut : laidOutB Try.prog = true := by kernel_rfl

set_option maxRecDepth 100000 in
theorem topLatent_lifted (os : Os) (started : os.Started) (H : Type) (enc : TypeId × Value → H) :
    ReturnsInHanded {} Try.checked os 4 .any (Rows.topLatentSpec.pre6 enc Try.prog Try.f4 Rows.topLatentRow.domain false) (Rows.topLatentSpec.post enc Try.prog Try.f4 false true false false) := by
  refine returnsInHanded_of_change (C := Try.checked) Try.own started (by kernel_rfl) Try.func4
    (ChangeSpec.witness6 (enc := enc) (C := Try.checked) false ⟨#[], #[.slice none 0 0, .int .i64 0, .int .i64 0, .agg #[.int .i64 0, .int .i64 0], .agg #[.int .i64 0, .int .i64 0], .int .i64 0, .agg #[.int .i64 0, .int .i64 0, .int .i64 0]], []⟩ 8 (by kernel_rfl) (by kernel_rfl) (by kernel_rfl) (by kernel_rfl)) ?_
  intro W base args ds gs before hval0 hW hcnd _
  have hval : ∀ (j : Nat) t v, Try.f4.params[j]? = some t → args[j]? = some v → Value.okWide Try.prog W .any base t v := hval0
  have hW' := hW
  obtain ⟨p, q, hA0, hV, rfl, hfz, hnd⟩ := hW
  have hA : DataW.TrodAll enc Try.prog W 0 (fun _ => true) true Try.f4.params.toList args.toList ds p := hA0
  rw [Try.params4] at hA hval
  obtain ⟨v0, vs0, d0, ds0, p0, q0, hargs, rfl, rfl, h0, r0⟩ := trodAll_cons hA
  obtain ⟨v1, vs1, d1, ds1, p1, q1, rfl, rfl, rfl, h1, r1⟩ := trodAll_cons r0
  obtain ⟨v2, vs2, d2, ds2, p2, q2, rfl, rfl, rfl, h2, r2⟩ := trodAll_cons r1
  obtain ⟨v3, vs3, d3, ds3, p3, q3, rfl, rfl, rfl, h3, r3⟩ := trodAll_cons r2
  obtain ⟨v4, vs4, d4, ds4, p4, q4, rfl, rfl, rfl, h4, r4⟩ := trodAll_cons r3
  obtain ⟨v5, vs5, d5, ds5, p5, q5, rfl, rfl, rfl, h5, r5⟩ := trodAll_cons r4
  obtain ⟨v6, vs6, d6, ds6, p6, q6, rfl, rfl, rfl, h6, r6⟩ := trodAll_cons r5
  obtain ⟨rfl, rfl, rfl⟩ := trodAll_nil r6
  obtain rfl : args = #[v0, v1, v2, v3, v4, v5, v6] := by cases args; simp_all
  obtain ⟨rfl, rfl⟩ := trodVars_none hV
  have k0 := h0
  have lt0 : ∀ x ∈ p0, x.block < W.heap.size := by obtain ⟨m, hm⟩ := k0; exact DataW.trod_lt m _ _ _ hm
  have k1 := h1
  have lt1 : ∀ x ∈ p1, x.block < W.heap.size := by obtain ⟨m, hm⟩ := k1; exact DataW.trod_lt m _ _ _ hm
  have k2 := h2
  have lt2 : ∀ x ∈ p2, x.block < W.heap.size := by obtain ⟨m, hm⟩ := k2; exact DataW.trod_lt m _ _ _ hm
  have k3 := h3
  have lt3 : ∀ x ∈ p3, x.block < W.heap.size := by obtain ⟨m, hm⟩ := k3; exact DataW.trod_lt m _ _ _ hm
  have k4 := h4
  have lt4 : ∀ x ∈ p4, x.block < W.heap.size := by obtain ⟨m, hm⟩ := k4; exact DataW.trod_lt m _ _ _ hm
  have k5 := h5
  have lt5 : ∀ x ∈ p5, x.block < W.heap.size := by obtain ⟨m, hm⟩ := k5; exact DataW.trod_lt m _ _ _ hm
  have k6 := h6
  have lt6 : ∀ x ∈ p6, x.block < W.heap.size := by obtain ⟨m, hm⟩ := k6; exact DataW.trod_lt m _ _ _ hm
  obtain ⟨A0, n0, c0, rfl⟩ := okWide_slice Try.underlying22 (hval 0 22 v0 rfl rfl)
  obtain ⟨z0, hz0⟩ : ∃ z, IsI W (.slice A0 n0 c0) z := by
    obtain ⟨fu, hf⟩ := h0
    exact isI_of_trod Try.underlying22 Try.underlying3 (by kernel_rfl) hf
  obtain ⟨a1, rfl, rfl, rfl, wa1⟩ := open_int Try.underlying3 (hval 1 3 v1 rfl rfl) h1
  obtain ⟨a2, rfl, rfl, rfl, wa2⟩ := open_int Try.underlying3 (hval 2 3 v2 rfl rfl) h2
  obtain ⟨cs3, rfl, _⟩ := okWide_struct Try.underlying41 (hval 3 41 v3 rfl rfl)
  obtain ⟨l3⟩ := cs3
  obtain ⟨a3a, a3b, rfl⟩ : ∃ a3a a3b : Int, l3 = [.int .i64 a3a, .int .i64 a3b] := by
    obtain ⟨fu, hf⟩ := h3
    obtain ⟨xs, hl, hx, _⟩ := trod_ints Try.underlying41 (by kernel_rfl) (by kernel_rfl) hf
    obtain ⟨a3a, a3b, rfl⟩ := len2 hl
    exact ⟨a3a, a3b, hx⟩
  obtain ⟨cs4, rfl, _⟩ := okWide_struct Try.underlying41 (hval 4 41 v4 rfl rfl)
  obtain ⟨l4⟩ := cs4
  obtain ⟨a4a, a4b, rfl⟩ : ∃ a4a a4b : Int, l4 = [.int .i64 a4a, .int .i64 a4b] := by
    obtain ⟨fu, hf⟩ := h4
    obtain ⟨xs, hl, hx, _⟩ := trod_ints Try.underlying41 (by kernel_rfl) (by kernel_rfl) hf
    obtain ⟨a4a, a4b, rfl⟩ := len2 hl
    exact ⟨a4a, a4b, hx⟩
  obtain ⟨a5, rfl, rfl, rfl, wa5⟩ := open_int Try.underlying3 (hval 5 3 v5 rfl rfl) h5
  obtain ⟨cs6, rfl, _⟩ := okWide_struct Try.underlying43 (hval 6 43 v6 rfl rfl)
  obtain ⟨l6⟩ := cs6
  obtain ⟨a6a, a6b, a6c, rfl⟩ : ∃ a6a a6b a6c : Int, l6 = [.int .i64 a6a, .int .i64 a6b, .int .i64 a6c] := by
    obtain ⟨fu, hf⟩ := h6
    obtain ⟨xs, hl, hx, _⟩ := trod_ints Try.underlying43 (by kernel_rfl) (by kernel_rfl) hf
    obtain ⟨a6a, a6b, a6c, rfl⟩ := len3 hl
    exact ⟨a6a, a6b, a6c, hx⟩
  clear hA0 hval0
  refine (lawLatentT_row (.slice A0 n0 c0) z0 a1 a2 a3a a3b a4a a4b a5 a6a a6b a6c W hz0).mono fun e W' ⟨he, hx⟩ => ?_
  have bel := hx.bel
  subst he
  exact ⟨_, rfl, _, _, _, [], _, [], hW', trodAll_mk1 (shut_bool Try.underlying4 _), (trodAll_cons_mk (Below.trod Try.laidOut (by kernel_rfl) (of_decide_eq_true (by kernel_rfl)) k0 bel lt0) (trodAll_cons_mk (Below.trod Try.laidOut (by kernel_rfl) (of_decide_eq_true (by kernel_rfl)) k1 bel lt1) (trodAll_cons_mk (Below.trod Try.laidOut (by kernel_rfl) (of_decide_eq_true (by kernel_rfl)) k2 bel lt2) (trodAll_cons_mk (Below.trod Try.laidOut (by kernel_rfl) (of_decide_eq_true (by kernel_rfl)) k3 bel lt3) (trodAll_cons_mk (Below.trod Try.laidOut (by kernel_rfl) (of_decide_eq_true (by kernel_rfl)) k4 bel lt4) (trodAll_cons_mk (Below.trod Try.laidOut (by kernel_rfl) (of_decide_eq_true (by kernel_rfl)) k5 bel lt5) (trodAll_cons_mk (Below.trod Try.laidOut (by kernel_rfl) (of_decide_eq_true (by kernel_rfl)) k6 bel lt6) trodAll_mk0))))))), rfl, bel.frame _, fun h => by cases h⟩

set_option maxHeartbeats 40000000 in
theorem topLatent_closed : joinedFacts Try.pinned.checked.prog 4 Try.f4 Rows.topLatentSpec Rows.topLatentRow = true := by
  unfold joinedFacts
  simp only [Bool.and_eq_true]
  repeat' apply And.intro
  all_goals first
    | (with_reducible (show Program.mayEnter _ = true); exact k_mayEnter)
    | (with_reducible (show (_ == Program.liftsFinal _) = true); rw [k_lifted]; (as_aux_lemma => kernel_rfl))
    | (with_reducible (show (Program.make _ == _) = true); rw [k_make]; (as_aux_lemma => kernel_rfl))
    | (as_aux_lemma => kernel_rfl)

theorem topLatent_named : Try.pinned.checked.prog.funcNamed Rows.topLatentRow.func = some 4 := by kernel_rfl
theorem topLatent_inst : Try.f4.isInstance Try.pinned.checked.prog Rows.topLatentRow.origin Rows.topLatentRow.targs := of_decide_eq_true (by kernel_rfl)
theorem topLatent_wrap : Try.f4.isWrapper Try.pinned.checked.prog Rows.topLatentRow.wrapper Rows.topLatentRow.mainSum := by unfold Func.isWrapper; first | (rw [if_pos (by decide +kernel)]; kernel_rfl) | (rw [if_neg (by decide +kernel)]; exact ⟨rfl, rfl⟩)

theorem topLatent_holds : Rows.TopLatentSaid :=
  OpenClaim.holds_of_wide 4 Try.f4 rfl rfl rfl rfl rfl rfl rfl ⟨rfl, rfl, rfl, rfl, rfl⟩ rfl rfl rfl rfl rfl topLatent_named Try.func4 topLatent_closed topLatent_inst topLatent_wrap
    (fun os started H enc _ => topLatent_lifted os started H enc)
end Go.Proofs.Ytkjgcmdabelohaa
