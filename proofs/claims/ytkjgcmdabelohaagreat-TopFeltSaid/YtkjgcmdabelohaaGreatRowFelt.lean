/- TopFelt: the given statement, proved. No condition. -/
import Derived.Test.YtkjgcmdabelohaaGreatRows
import Derived.Test.YtkjgcmdabelohaaGreatOpenP
import Derived.Test.YtkjgcmdabelohaaGreatOpenQ
import Derived.Test.YtkjgcmdabelohaaGreatOpenE
import Derived.Test.YtkjgcmdabelohaaGreatMLaw
import Derived.Test.YtkjgcmdabelohaaGreatMKnob
namespace Go.Proofs.YtkjgcmdabelohaaGreat
open Go.ChangeShapes Go.WideShapes Go.ChangeAt Go.RowKit Go.Deep

theorem Tryz.own : ownKnob Tryz.prog.godebug = none := by kernel_rfl
theorem Tryz.laidOut : laidOutB Tryz.prog = true := by kernel_rfl

set_option maxRecDepth 100000 in
theorem topFelt_lifted (os : Os) (started : os.Started) (H : Type) (enc : TypeId × Value → H) :
    ReturnsInHanded {} Tryz.checked os 3 .any (Rows.topFeltSpec.pre6 enc Tryz.prog Tryz.f3 Rows.topFeltRow.domain false) (Rows.topFeltSpec.post enc Tryz.prog Tryz.f3 false true false false) := by
  refine returnsInHanded_of_change (C := Tryz.checked) Tryz.own started (by kernel_rfl) Tryz.func3
    (ChangeSpec.witness6 (enc := enc) (C := Tryz.checked) false ⟨#[], #[.agg #[.slice none 0 0, .slice none 0 0, .int .i64 0, .int .i64 0, .int .i64 0, .slice none 0 0], .agg #[.slice none 0 0, .int .i64 0, .int .i64 0, .int .i64 0, .int .i64 0, .slice none 0 0], .int .i16 0], []⟩ 8 (by kernel_rfl) (by kernel_rfl) (by kernel_rfl) (by kernel_rfl)) ?_
  intro W base args ds gs before hval0 hW hcnd _
  have hval : ∀ (j : Nat) t v, Tryz.f3.params[j]? = some t → args[j]? = some v → Value.okWide Tryz.prog W .any base t v := hval0
  have hW' := hW
  obtain ⟨p, q, hA0, hV, rfl, hfz, hnd⟩ := hW
  have hA : DataW.TrodAll enc Tryz.prog W 0 (fun _ => true) true Tryz.f3.params.toList args.toList ds p := hA0
  rw [Tryz.params3] at hA hval
  obtain ⟨v0, vs0, d0, ds0, p0, q0, hargs, rfl, rfl, h0, r0⟩ := trodAll_cons hA
  obtain ⟨v1, vs1, d1, ds1, p1, q1, rfl, rfl, rfl, h1, r1⟩ := trodAll_cons r0
  obtain ⟨v2, vs2, d2, ds2, p2, q2, rfl, rfl, rfl, h2, r2⟩ := trodAll_cons r1
  obtain ⟨rfl, rfl, rfl⟩ := trodAll_nil r2
  obtain rfl : args = #[v0, v1, v2] := by cases args; simp_all
  obtain ⟨rfl, rfl⟩ := trodVars_none hV
  have k0 := h0
  have lt0 : ∀ x ∈ p0, x.block < W.heap.size := by obtain ⟨m, hm⟩ := k0; exact DataW.trod_lt m _ _ _ hm
  have k1 := h1
  have lt1 : ∀ x ∈ p1, x.block < W.heap.size := by obtain ⟨m, hm⟩ := k1; exact DataW.trod_lt m _ _ _ hm
  have k2 := h2
  have lt2 : ∀ x ∈ p2, x.block < W.heap.size := by obtain ⟨m, hm⟩ := k2; exact DataW.trod_lt m _ _ _ hm
  obtain ⟨cs0, rfl, _⟩ := okWide_struct Tryz.underlying24 (hval 0 24 v0 rfl rfl)
  obtain ⟨l0⟩ := cs0
  obtain ⟨z0, s0, rfl, hz0⟩ := prog_of_trod h0
  obtain ⟨cs1, rfl, _⟩ := okWide_struct Tryz.underlying28 (hval 1 28 v1 rfl rfl)
  obtain ⟨l1⟩ := cs1
  obtain ⟨z1, A1, n1, c1, B1, m1, e1, rfl, hz1⟩ := pic_of_trod h1
  obtain ⟨a2, rfl, rfl, rfl, wa2⟩ := open_int Tryz.underlying29 (hval 2 29 v2 rfl rfl) h2
  clear hA0 hval0
  refine (lawFelt_any z0 s0 z1 (.slice A1 n1 c1) (.slice B1 m1 e1) a2 W hz0 hz1 (by have h := wa2; simp only [Lit.wf, Bool.and_eq_true, decide_eq_true_eq] at h; exact h)).mono fun e W' ⟨he, hx⟩ => ?_
  have bel := hx.bel
  subst he
  exact ⟨_, rfl, _, _, _, [], _, [], hW', trodAll_mk1 (shut_bool Tryz.underlying4 _), (trodAll_cons_mk (Below.trod Tryz.laidOut (by kernel_rfl) (of_decide_eq_true (by kernel_rfl)) k0 bel lt0) (trodAll_cons_mk (Below.trod Tryz.laidOut (by kernel_rfl) (of_decide_eq_true (by kernel_rfl)) k1 bel lt1) (trodAll_cons_mk (Below.trod Tryz.laidOut (by kernel_rfl) (of_decide_eq_true (by kernel_rfl)) k2 bel lt2) trodAll_mk0))), rfl, bel.frame _, fun h => by cases h⟩

set_option maxHeartbeats 40000000 in
theorem topFelt_closed : joinedFacts Tryz.pinned.checked.prog 3 Tryz.f3 Rows.topFeltSpec Rows.topFeltRow = true := by
  unfold joinedFacts
  simp only [Bool.and_eq_true]
  repeat' apply And.intro
  all_goals first
    | (with_reducible (show Program.mayEnter _ = true); exact k_mayEnter)
    | (with_reducible (show (_ == Program.liftsFinal _) = true); rw [k_lifted]; (as_aux_lemma => kernel_rfl))
    | (with_reducible (show (Program.make _ == _) = true); rw [k_make]; (as_aux_lemma => kernel_rfl))
    | (as_aux_lemma => kernel_rfl)

theorem topFelt_named : Tryz.pinned.checked.prog.funcNamed Rows.topFeltRow.func = some 3 := by kernel_rfl
theorem topFelt_inst : Tryz.f3.isInstance Tryz.pinned.checked.prog Rows.topFeltRow.origin Rows.topFeltRow.targs := of_decide_eq_true (by kernel_rfl)
theorem topFelt_wrap : Tryz.f3.isWrapper Tryz.pinned.checked.prog Rows.topFeltRow.wrapper Rows.topFeltRow.mainSum := by unfold Func.isWrapper; first | (rw [if_pos (by decide +kernel)]; kernel_rfl) | (rw [if_neg (by decide +kernel)]; exact ⟨rfl, rfl⟩)

theorem topFelt_holds : Rows.TopFeltSaid :=
  OpenClaim.holds_of_wide 3 Tryz.f3 rfl rfl rfl rfl rfl rfl rfl ⟨rfl, rfl, rfl, rfl, rfl⟩ rfl rfl rfl rfl rfl topFelt_named Tryz.func3 topFelt_closed topFelt_inst topFelt_wrap
    (fun os started H enc _ => topFelt_lifted os started H enc)
end Go.Proofs.YtkjgcmdabelohaaGreat
