/- The reference's Loop. Condition: the work's cuts read as a list. -/
import Derived.Test.YtgeapenglcohfaaGRTab
import Derived.Test.YtgeapenglcohfaaGLoopW
import Derived.Test.YtgeapenglcohfaaGProofP
namespace Go.Proofs.Ytgeapenglcohfaa
section
/- GROrd: The reference's Order. Condition: the work's cuts read as a list. -/
section
/-- The cut i is free, as far as the first q cuts tell. -/
def frTo (M : Nat → Nat → Bool) (l : List Nat) (i : Nat) : Nat → Bool
  | 0 => !l.contains i
  | q + 1 => frTo M l i q && (l.contains q || !M q i)
theorem frTo_iff {M : Nat → Nat → Bool} {l : List Nat} {i : Nat} : ∀ {n : Nat}, frTo M l i n = true ↔ i ∉ l ∧ ∀ q, q < n → M q i = true → q ∈ l
  | 0 => by unfold frTo; simp
  | n + 1 => by
    unfold frTo
    rw [Bool.and_eq_true, frTo_iff, Bool.or_eq_true, List.contains_iff_mem, Bool.not_eq_true']
    constructor
    · rintro ⟨⟨h1, h2⟩, h3⟩
      refine ⟨h1, fun q hq hM => ?_⟩
      rcases (by omega : q < n ∨ q = n) with h | rfl
      · exact h2 q h hM
      · rcases h3 with h3 | h3
        · exact h3
        · rw [h3] at hM; cases hM
    · rintro ⟨h1, h2⟩
      refine ⟨⟨h1, fun q hq => h2 q (by omega)⟩, ?_⟩
      cases hM : M n i with
      | false => exact .inr rfl
      | true => exact .inl (h2 n (by omega) hM)
/-- The least free cut among the last t of n; -1 if none is. -/
def atTo (M : Nat → Nat → Bool) (l : List Nat) (n : Nat) : Nat → Int
  | 0 => -1
  | t + 1 => if frTo M l (n - (t + 1)) n then ((n - (t + 1) : Nat) : Int) else atTo M l n t
theorem atTo_step (M : Nat → Nat → Bool) (l : List Nat) {n i : Nat} (hi : i < n) : atTo M l n (n - i) = if frTo M l i n then (i : Int) else atTo M l n (n - (i + 1)) := by
  obtain ⟨t, ht⟩ : ∃ t, n - i = t + 1 := ⟨n - i - 1, by omega⟩
  rw [ht]
  show (if frTo M l (n - (t + 1)) n then ((n - (t + 1) : Nat) : Int) else atTo M l n t) = _
  rw [show n - (t + 1) = i by omega, show n - (i + 1) = t by omega]
theorem atTo_is (M : Nat → Nat → Bool) (l : List Nat) (n : Nat) : ∀ t, t ≤ n → (atTo M l n t = -1 ∧ ∀ x, n - t ≤ x → x < n → frTo M l x n = false) ∨ ∃ a, n - t ≤ a ∧ a < n ∧ atTo M l n t = (a : Int) ∧ frTo M l a n = true ∧ ∀ x, n - t ≤ x → x < a → frTo M l x n = false
  | 0, _ => .inl ⟨rfl, fun x h1 h2 => by omega⟩
  | t + 1, ht => by
    unfold atTo
    cases hf : frTo M l (n - (t + 1)) n with
    | true => exact .inr ⟨n - (t + 1), Nat.le_refl _, by omega, rfl, hf, fun x h1 h2 => by omega⟩
    | false =>
      have hne : ∀ x, n - (t + 1) ≤ x → x = n - (t + 1) ∨ n - t ≤ x := fun x h => by omega
      rcases atTo_is M l n t (by omega) with ⟨h1, h2⟩ | ⟨a, h1, h2, h3, h4, h5⟩
      · refine .inl ⟨h1, fun x hx hxn => ?_⟩
        rcases hne x hx with rfl | h
        · exact hf
        · exact h2 x h hxn
      · refine .inr ⟨a, by omega, h2, h3, h4, fun x hx hxa => ?_⟩
        rcases hne x hx with rfl | h
        · exact hf
        · exact h5 x h hxa
/-- What the program makes next. -/
theorem atTo_ord {M : Nat → Nat → Bool} {n : Nat} (hR : RuleN M n) (hn : n ≤ 16) {j : Nat} {l : List Nat} {s : Nat → Int} (h : ordTo M n j = some (l, s)) :
    (atTo M l n n = -1 ∧ ordTo M n (j + 1) = none) ∨ ∃ a, a < n ∧ atTo M l n n = (a : Int) ∧ ordTo M n (j + 1) = some (l ++ [a], ordStep M s a) := by
  have hst := (ordTo_st hR hn h).1
  have hfr : ∀ x, x < n → (s x = 0 ↔ frTo M l x n = true) := fun x hx => by
    rw [hst.free hR hn hx, frTo_iff]
    exact ⟨fun ⟨_, h1, h2⟩ => ⟨h1, fun q _ => h2 q⟩, fun ⟨h1, h2⟩ => ⟨hx, h1, fun p hp => h2 p (hR.lt p x hp).1 hp⟩⟩
  have hs : ordTo M n (j + 1) = (frst s n).map fun a => (l ++ [a], ordStep M s a) := by
    show (ordTo M n j).bind _ = _
    rw [h]
    rfl
  rcases atTo_is M l n n (Nat.le_refl _) with ⟨h1, h2⟩ | ⟨a, h1, h2, h3, h4, h5⟩
  · left
    refine ⟨h1, ?_⟩
    rw [hs, frst_none.2 fun i hi h0 => ?_]
    · rfl
    · have := h2 i (by omega) hi
      rw [(hfr i hi).1 h0] at this
      cases this
  · right
    refine ⟨a, h2, h3, ?_⟩
    rw [hs, frst_some h2 ((hfr a h2).2 h4) fun i hi h0 => ?_]
    · rfl
    · have := h5 i (by omega) hi
      rw [(hfr i (by omega)).1 h0] at this
      cases this
end
open Go.RowKit

theorem rule_n (k : WkT) : RuleN (ruleM k) k.cuts.length := ⟨fun _ _ => ruleM_in, ruleM_same k⟩
theorem SeenN.grown {g n : Nat} {S : Nat → Bool} {W W' : World} {row : Option Nat} (h : SeenN g n S W) (hg : W.grownBy W' row) (hr : row = none ∨ row ≠ some g) : SeenN g n S W' := by
  have hne : some g ≠ row := by
    rcases hr with rfl | hr
    · exact fun e => by cases e
    · exact fun e => hr e.symm
  intro q hq
  obtain ⟨h1, h2⟩ := h q hq
  exact ⟨hg.cell h1 hne, by rw [← h2]; exact World.frozen?_of_block (hg.block g (cell_lt h1) hne)⟩
theorem seen_put {g n : Nat} {l : List Nat} {W : World} (h : SeenN g n (fun z => l.contains z) W) {a : Nat} (ha : a < n) : SeenN g n (fun z => (l ++ [a]).contains z) (W.setCell ⟨g, a, none⟩ (.bool true)) := by
  refine h.put ha fun z _ => ?_
  by_cases e : z = a
  · subst e
    rw [if_pos rfl]
    simp
  · rw [if_neg e, Bool.eq_iff_iff]
    simp only [List.contains_iff_mem, List.mem_append, List.mem_singleton]
    exact ⟨fun h => h.resolve_right e, .inl⟩

set_option maxRecDepth 100000 in
set_option maxHeartbeats 4000000 in
theorem refOrder_any (k : WkT) (v : Value) (w : World) (hI : CutsIs w v k.cuts) :
    Calls Try.prog 50 #[k.val v] w (RetEW intK w (orderL k) (orderE k)) := by
  have HW := Lib.hid fun (W : World) (x : Ext w W) => refWork_any k v W (hI.ext x)
  have HTB := Lib.hid fun (W : World) (x : Ext w W) (hb : workB k = true) => refTable_any k v W (hI.ext x) hb
  obtain ⟨A, c, rfl, -, ⟨hcl, hcm⟩, -⟩ := cutsIs_at hI
  unfold maxLen at hcm
  cases hb : workB k
  · have HR := Lib.hid (order_no hb)
    rw [hb] at HW
    clear hb hI hcl hcm
    go_enter Try.func50, Try.ntmps50
    go_wp2_with fail
    refine (HW.out _ (by (repeat' (first | with_reducible exact Ext.refl _ | with_reducible apply Ext.alloc | with_reducible apply Ext.drew | with_reducible apply Ext.drewN | with_reducible refine Ext.setCell ?_ ?_ _ | with_reducible apply Ext.step | with_reducible assumption | with_reducible exact Nat.le_refl _ | (simp; done) | (simp; omega))))).mono ?_
    rintro e W1 ⟨rfl, x1⟩
    have HX1 := Lib.hid (show Ext w W1 from Ext.trans (by (repeat' (first | with_reducible exact Ext.refl _ | with_reducible apply Ext.alloc | with_reducible apply Ext.drew | with_reducible apply Ext.drewN | with_reducible refine Ext.setCell ?_ ?_ _ | with_reducible apply Ext.step | with_reducible assumption | with_reducible exact Nat.le_refl _ | (simp; done) | (simp; omega)))) x1)
    clear x1
    go_wp2_with fail
    go_ret2
    exact retEW_mk (EK.Own.nil _ _) HR.out.1 HR.out.2 HX1.out
  replace HTB := Lib.hid fun W x => HTB.out W x hb
  obtain ⟨_, _, h16, _⟩ := workB_iff.1 hb
  have HRN := Lib.hid (rule_n k)
  have HONO := Lib.hid fun (j : Nat) (hj : j ≤ k.cuts.length) (h : ordTo (ruleM k) k.cuts.length j = none) => order_loop hb hj h
  have HOOK := Lib.hid fun (l : List Nat) (s : Nat → Int) (h : ordTo (ruleM k) k.cuts.length k.cuts.length = some (l, s)) => order_ok hb h
  rw [hb] at HW
  obtain ⟨n, hn⟩ : ∃ n, n = k.cuts.length := ⟨_, rfl⟩
  obtain ⟨M, hM⟩ : ∃ M, M = ruleM k := ⟨_, rfl⟩
  rw [← hn] at HW HTB HRN HONO HOOK h16 hcl ⊢
  rw [← hM] at HTB HRN HONO HOOK
  clear hb hn hI hM hcl hcm
  have hw1 : IntKind.i64.wrap ((n : Int) - 1) = (n : Int) - 1 := by apply IntWalk.i64_in <;> omega
  have hmk : ∀ w : World, (Instr.makeSlice 141 (.int .i64 (n : Int)) (.int .i64 (n : Int))).run Try.prog w = .ok (.slice (some ⟨w.heap.size, 0, none⟩) n n) (w.alloc (.cells (madeCells #[.bool false] n) 4)) := fun w =>
    run_make_row' (P := Try.prog) 141 4 (.bool false) 1 Try.underlying141 boolInfo rfl .i64 .i64 n (by omega) (by omega) w
  go_enter Try.func50, Try.ntmps50
  go_wp2_with fail
  refine (HW.out _ (by (repeat' (first | with_reducible exact Ext.refl _ | with_reducible apply Ext.alloc | with_reducible apply Ext.drew | with_reducible apply Ext.drewN | with_reducible refine Ext.setCell ?_ ?_ _ | with_reducible apply Ext.step | with_reducible assumption | with_reducible exact Nat.le_refl _ | (simp; done) | (simp; omega))))).mono ?_
  rintro e Wa ⟨rfl, xa⟩
  have HXa := Lib.hid (show Ext w Wa from Ext.trans (by (repeat' (first | with_reducible exact Ext.refl _ | with_reducible apply Ext.alloc | with_reducible apply Ext.drew | with_reducible apply Ext.drewN | with_reducible refine Ext.setCell ?_ ?_ _ | with_reducible apply Ext.step | with_reducible assumption | with_reducible exact Nat.le_refl _ | (simp; done) | (simp; omega)))) xa)
  have HWKa := Lib.hid ((WkAt.new k (.slice A n c) w).ext xa)
  obtain ⟨h0, h1, h2, h3, h4, h5, h6, h7, h8, h9, h10, h11, h12⟩ := HWKa.out
  have lh := cell_lt h12
  clear xa
  go_wp2_with fail
  refine (HTB.out _ HXa.out).mono ?_
  rintro e W0 ⟨tv, rfl, htab, x0⟩
  have HX0 := Lib.hid (HXa.out.trans x0)
  have HT0 := Lib.hid htab
  obtain ⟨At, ct, rfl, -⟩ := htab
  obtain ⟨-, -, -, -, -, -, -, -, -, -, -, -, g12⟩ := HWKa.out.ext x0
  have lg := cell_lt g12
  clear x0 h0 h1 h2 h3 h4 h5 h6 h7 h8 h9 h10 h11 h12 lh
  go_wp2_with fail
  refine lay_wp (fun W => SeenN W0.heap.size n (fun _ => false) W ∧ Ext W0 W ∧ W.heap.size = W0.heap.size + 1) ⟨SeenN.made W0 n, (Ext.refl _).alloc _, by simp⟩ ?_
  rintro W1 ⟨hse, hx1, hs1⟩
  have HSE := Lib.hid hse
  have HX1 := Lib.hid (HX0.out.trans hx1)
  have HT1 := Lib.hid (HT0.out.ext hx1)
  obtain ⟨g, hg⟩ : ∃ g, g = W0.heap.size := ⟨_, rfl⟩
  rw [← hg] at HSE hs1 ⊢
  have HG := Lib.hid (show W0.heap.size ≤ g from by rw [hg]; exact Nat.le_refl _)
  have HX01 := Lib.hid hx1
  have hsz1 := HX1.out.bel.size
  clear hse hx1 hg g12 lg
  go_loopw [7] (fun ov wr => ∃ (j : Nat) (l : List Nat) (s : Nat → Int), j ≤ n ∧ Hid (ordTo M n j = some (l, s)) ∧ intK.Own W1.heap.size wr ov (natsI l) ∧ SeenN g n (fun z => l.contains z) wr ∧ But [g] W1 wr) (fun ov _ => n - lenV ov)
  case atStart => exact ⟨0, [], wait0 M, by omega, Lib.hid rfl, EK.Own.nil _ _, by simpa using HSE.out, But.refl _ _⟩
  case round =>
    obtain ⟨j, l, s, hj, HO, hown, hse, hbt⟩ := hrel
    obtain ⟨wo, rfl⟩ : ∃ wo, wo = wr := ⟨wr, rfl⟩
    have HOW := Lib.hid hown
    have HS := Lib.hid hse
    have HB := Lib.hid hbt
    have HLJ := Lib.hid (ordTo_len HO.out).1
    obtain ⟨Ao, no, co, rfl, hno, -⟩ := hown.is.open_
    obtain rfl : no = j := by rw [← hno, natsI_len, HLJ.out]
    have HLL := Lib.hid (show (natsI l).length ≤ 1000000000 by rw [hno]; omega)
    have XT := Lib.hid (show Ext W0 wo from hbt.below HX01.out (fun d hd => by rw [List.mem_singleton] at hd; rw [hd]; exact HG.out))
    have HTW := Lib.hid (HT0.out.ext XT.out)
    clear hown hno
    by_cases hlt : no < n
    · have hwos := hbt.size
      have hji : (no : Int) < (n : Int) := by omega
      have HAT := Lib.hid (atTo_ord HRN.out h16 HO.out)
      clear hse hbt
      go_wp2_with fail
      go_loopw [8, 9] (fun av iv wr => ∃ (q : Nat) (z : Int), q ≤ n ∧ iv = .int .i64 z ∧ Hid (z = (q : Int) - 1) ∧ av = .int .i64 (atTo M l n (n - q)) ∧ wr = wo) (fun _ iv _ => (intOf iv + 1).toNat)
      case atStart => exact ⟨n, _, by omega, rfl, Lib.hid rfl, by rw [Nat.sub_self]; rfl, rfl⟩
      case round =>
        obtain ⟨q, z, hq, rfl, HZ, rfl, rfl⟩ := hrel
        rcases Nat.eq_zero_or_pos q with rfl | hq0
        · obtain rfl : z = -1 := by have := HZ.out; omega
          rw [Nat.sub_zero] at *
          rcases HAT.out with ⟨ha, hnone⟩ | ⟨a, ha, hat, hsome⟩
          · have HF := Lib.hid (HONO.out (no + 1) (by omega) hnone)
            rw [ha] at *
            clear ha hnone
            go_wp2_with fail
            go_ret2
            exact retEW_mk (EK.Own.nil _ _) HF.out.1 HF.out.2 (HX1.out.trans (Ext.refl _) |> fun _ => HX0.out.trans XT.out)
          · rw [hat] at *
            have hai : (a : Int) < (n : Int) := by omega
            obtain ⟨s0, s1⟩ := HS.out a ha
            have ls := cell_lt s0
            have HSM := Lib.hid hsome
            clear hat hsome
            go_wp2_with (at_builtin; refine EK.app (K := intK) (B := W1.heap.size) (xs := natsI l) rfl (.tmp 66) (.tmp 68) rfl wr.heap.size 1 (a : Int) rfl rfl (fun i u hu => cell_newS hu) ((HOW.out.oth (own_off HOW.out (by omega))).ext ((Ext.refl _).alloc _)) (by simp; omega) HLL.out ?_; intro v' w3 o3 b3 g3; obtain ⟨Av, kv, cv, rfl, hkv, -⟩ := o3.is.open_; have HKV := Lib.hid hkv; clear hkv; have HB3 := Lib.hid (show But [g] W1 w3 from ((HB.out.setCell (by simp) _).ext ((Ext.refl _).alloc _)).grown g3 (fun r e => .inr (HOW.out.lt r e).1)); have HO3 := Lib.hid o3; have HS3 := Lib.hid (SeenN.grown ((seen_put HS.out ha).ext ((Ext.refl _).alloc _)) g3 (own_off HOW.out (by omega))); clear o3 b3 g3)
            go_roundw
            case rel => exact ⟨no + 1, l ++ [a], ordStep M s a, by omega, HSM, by rw [natsI_snoc]; exact HO3.out, HS3.out, HB3.out⟩
            case measure =>
              have h1 := HKV.out
              rw [List.length_append, natsI_len, HLJ.out] at h1
              simp [lenV] at h1 ⊢
              omega
        · obtain ⟨i, rfl⟩ : ∃ i, q = i + 1 := ⟨q - 1, by omega⟩
          obtain rfl : z = (i : Int) := by have := HZ.out; omega
          have hin : i < n := by omega
          have hii : (i : Int) < (n : Int) := by omega
          have hg0 : decide ((0 : Int) ≤ (i : Int)) = true := by simp
          have HST := Lib.hid (atTo_step M l hin)
          obtain ⟨s0, s1⟩ := HS.out i hin
          simp only at s0
          have ls := cell_lt s0
          have HFZ := Lib.hid (show frTo M l i 0 = !l.contains i from rfl)
          generalize l.contains i = di at *
          generalize atTo M l n (n - (i + 1)) = at1 at *
          obtain ⟨wm, rfl⟩ : ∃ wm, wm = wr := ⟨wr, rfl⟩
          go_wp2_with fail
          go_loopw [10, 11] (fun fv kv wr => ∃ q : Nat, q ≤ n ∧ kv = .int .i64 (q : Int) ∧ fv = .bool (frTo M l i q) ∧ wr = wm) (fun _ kv _ => n - (intOf kv).toNat)
          case atStart => exact ⟨0, by omega, rfl, by rw [HFZ.out], rfl⟩
          case round =>
            obtain ⟨q, hq, rfl, rfl, rfl⟩ := hrel
            by_cases hqn : q < n
            · have hqi : (q : Int) < (n : Int) := by omega
              have HFS := Lib.hid (show frTo M l i (q + 1) = (frTo M l i q && (l.contains q || !M q i)) from rfl)
              obtain ⟨t0, t1⟩ := HS.out q hqn
              simp only at t0
              have lt := cell_lt t0
              obtain ⟨_, _, he, hta⟩ := HTW.out
              cases he
              obtain ⟨bt, ot, br, or, cr, rfl, u0, u1⟩ := hta q hqn
              replace u1 := u1 i hin
              have lu0 := cell_lt u0
              have lu1 := cell_lt u1
              clear hta
              generalize frTo M l i q = f0 at *
              generalize l.contains q = dq at *
              generalize M q i = mq at *
              clear s0 s1 ls
              cases f0
              · have HF := Lib.hid (show frTo M l i (q + 1) = false by rw [HFS.out, Bool.false_and])
                go_wp2_with fail
                go_roundw
                case rel => exact ⟨q + 1, by omega, by go_num, by rw [HF.out], trivial⟩
                case measure => simp [intOf]; omega
              cases dq
              · cases mq
                · have HF := Lib.hid (show frTo M l i (q + 1) = true by rw [HFS.out]; rfl)
                  go_wp2_with fail
                  go_roundw
                  case rel => exact ⟨q + 1, by omega, by go_num, by rw [HF.out], trivial⟩
                  case measure => simp [intOf]; omega
                · have HF := Lib.hid (show frTo M l i (q + 1) = false by rw [HFS.out]; rfl)
                  go_wp2_with fail
                  go_roundw
                  case rel => exact ⟨q + 1, by omega, by go_num, by rw [HF.out], trivial⟩
                  case measure => simp [intOf]; omega
              · have HF := Lib.hid (show frTo M l i (q + 1) = true by rw [HFS.out]; rfl)
                go_wp2_with fail
                go_roundw
                case rel => exact ⟨q + 1, by omega, by go_num, by rw [HF.out], trivial⟩
                case measure => simp [intOf]; omega
            · obtain rfl : q = n := by omega
              have hw2 : IntKind.i64.wrap ((i : Int) - 1) = (i : Int) - 1 := by apply IntWalk.i64_in <;> omega
              generalize frTo M l i q = f0 at *
              clear s0 s1 ls
              cases f0
              · have HF := Lib.hid (show atTo M l q (q - i) = at1 by rw [HST.out]; rfl)
                go_wp2_with fail
                go_roundw
                case rel => exact ⟨i, _, by omega, rfl, Lib.hid rfl, by rw [HF.out], trivial⟩
                case measure => simp [intOf] <;> omega
              · have HF := Lib.hid (show atTo M l q (q - i) = (i : Int) by rw [HST.out]; rfl)
                go_wp2_with fail
                go_roundw
                case rel => exact ⟨i, _, by omega, rfl, Lib.hid rfl, by rw [HF.out], trivial⟩
                case measure => simp [intOf] <;> omega
    · obtain rfl : no = n := by omega
      have HF := Lib.hid (HOOK.out l s HO.out)
      clear hse hbt
      go_wp2_with fail
      go_ret2
      exact retEW_mk (HOW.out.mono hsz1) HF.out.1 HF.out.2 (HX0.out.trans XT.out)
end
section
/- GRStp: The reference's steps. Condition: the table lies there. -/
section
/-- The cut k is reached from f in d steps, by way of cuts from f on. -/
def rchB (M : Nat → Nat → Bool) (f n : Nat) : Nat → Nat → Bool
  | 0, k => k == f
  | d + 1, k => decide (f ≤ k) && (List.range n).any fun i => rchB M f n d i && M i k
/-- .. as far as the first i cuts tell. -/
def nxB (M : Nat → Nat → Bool) (f n d i k : Nat) : Bool := decide (f ≤ k) && (List.range i).any fun i => rchB M f n d i && M i k
theorem nxB_zero (M : Nat → Nat → Bool) (f n d k : Nat) : nxB M f n d 0 k = false := by unfold nxB; simp
theorem nxB_succ (M : Nat → Nat → Bool) (f n d i : Nat) {k : Nat} (h : f ≤ k) : nxB M f n d (i + 1) k = (nxB M f n d i k || (rchB M f n d i && M i k)) := by
  unfold nxB
  rw [List.range_succ, List.any_append, decide_eq_true h, Bool.true_and, Bool.true_and]
  simp
theorem nxB_low (M : Nat → Nat → Bool) (f n d i : Nat) {k : Nat} (h : k < f) : nxB M f n d i k = false := by
  unfold nxB
  rw [decide_eq_false (by omega), Bool.false_and]
theorem rchB_iff {M : Nat → Nat → Bool} {f n : Nat} : ∀ {d k : Nat}, k < n → (rchB M f n d k = true ↔ Rch M f n d k)
  | 0, k, _ => by unfold rchB Rch; rw [beq_iff_eq]
  | d + 1, k, hk => by
    unfold rchB Rch
    rw [Bool.and_eq_true, decide_eq_true_eq, List.any_eq_true]
    constructor
    · rintro ⟨h1, i, hi, h2⟩
      rw [Bool.and_eq_true] at h2
      have hin := List.mem_range.1 hi
      exact ⟨⟨h1, hk⟩, i, hin, (rchB_iff hin).1 h2.1, h2.2⟩
    · rintro ⟨⟨h1, _⟩, i, hi, h2, h3⟩
      exact ⟨h1, i, List.mem_range.2 hi, by rw [Bool.and_eq_true]; exact ⟨(rchB_iff hi).2 h2, h3⟩⟩
end
open Go.RowKit

theorem SeenN.congr {g n : Nat} {S S' : Nat → Bool} {W : World} (h : SeenN g n S W) (e : ∀ q, q < n → S' q = S q) : SeenN g n S' W := fun q hq => by
  rw [e q hq]
  exact h q hq
theorem SeenN.putV {g n : Nat} {S S' : Nat → Bool} {W : World} (h : SeenN g n S W) {q : Nat} (hq : q < n) (v : Bool) (hS : ∀ z : Nat, z < n → S' z = if z = q then v else S z) : SeenN g n S' (W.setCell ⟨g, q, none⟩ (.bool v)) := by
  intro z hz
  obtain ⟨h1, h2⟩ := h z hz
  refine ⟨?_, by simp [h2]⟩
  rw [hS z hz]
  by_cases e : z = q
  · subst e
    rw [if_pos rfl]
    exact cell_set_same h1
  · rw [if_neg e]
    exact (cell_set_other (.inr e)).trans h1
theorem SeenN.but {g h n : Nat} {S : Nat → Bool} {W W' : World} (hs : SeenN g n S W) (hb : But [h] W W') (hne : g ≠ h) : SeenN g n S W' := fun q hq => by
  have hd : g ∉ [h] := by rw [List.mem_singleton]; exact hne
  exact ⟨hb.cell (hs q hq).1 hd, hb.frozen (hs q hq).1 (hs q hq).2 hd⟩

set_option maxRecDepth 100000 in
set_option maxHeartbeats 4000000 in
theorem refSteps_any (tv : Value) (f n : Nat) (M : Nat → Nat → Bool) (w : World) (hT : TabAt w tv n M) (hf : f < n) (hn : n ≤ 16) :
    Calls Try.prog 90 #[tv, .int .i64 (f : Int)] w fun e w' => ∃ r : Nat, e = .returned (.int .i64 (r : Int)) ∧ StepsIs M f n r ∧ Ext w w' := by
  have HT := Lib.hid hT
  obtain ⟨At, ct, rfl, -⟩ := hT
  have hmk : ∀ w : World, (Instr.makeSlice 141 (.int .i64 (n : Int)) (.int .i64 (n : Int))).run Try.prog w = .ok (.slice (some ⟨w.heap.size, 0, none⟩) n n) (w.alloc (.cells (madeCells #[.bool false] n) 4)) := fun w =>
    run_make_row' (P := Try.prog) 141 4 (.bool false) 1 Try.underlying141 boolInfo rfl .i64 .i64 n (by omega) (by omega) w
  have hfi : (f : Int) < (n : Int) := by omega
  have hm0 := SeenN.made w n
  have s1 := (hm0 f hf).2
  have s0 := (hm0 f hf).1
  simp only at s0
  have hm1 : SeenN w.heap.size n (rchB M f n 0) (w.alloc (.cells ((madeCells #[.bool false] n).setIfInBounds f (.bool true)) 4)) := by
    have h := hm0.putV (S' := rchB M f n 0) hf true (fun z _ => by unfold rchB; by_cases e : z = f <;> simp [e])
    rwa [World.setCell_alloc_new] at h
  go_enter Try.func90, Try.ntmps90
  go_wp2_with fail
  refine lay_wp (fun W => SeenN w.heap.size n (rchB M f n 0) W ∧ Ext w W ∧ W.heap.size = w.heap.size + 1) ⟨hm1, (Ext.refl w).alloc _, by simp⟩ ?_
  rintro W1 ⟨hse, hx1, hs1⟩
  have HSE := Lib.hid hse
  have HX1 := Lib.hid hx1
  clear hse hx1 hm0 hm1 s0 s1
  go_loopw [5, 6] (fun av nv wr => ∃ (d ga : Nat), d ≤ n ∧ nv = .int .i64 ((d : Int) + 1) ∧ av = .slice (some ⟨ga, 0, none⟩) n n ∧ SeenN ga n (rchB M f n d) wr ∧ Hid (∀ e, 1 ≤ e → e ≤ d → rchB M f n e f = false) ∧ Ext w wr) (fun _ nv _ => n + 1 - (intOf nv).toNat)
  case atStart => exact ⟨0, w.heap.size, by omega, rfl, rfl, HSE.out, Lib.hid (fun e h1 h2 => by omega), HX1.out⟩
  case round =>
    obtain ⟨d, ga, hd, rfl, rfl, hse, HN, hx⟩ := hrel
    obtain ⟨wo, rfl⟩ : ∃ wo, wo = wr := ⟨wr, rfl⟩
    have HSA := Lib.hid hse
    have HX := Lib.hid hx
    clear hse hx
    by_cases hlt : d < n
    · have hdi : (d : Int) + 1 ≤ (n : Int) := by omega
      have hga : ga < wo.heap.size := cell_lt (HSA.out f hf).1
      have HNX := Lib.hid (show ∀ k, rchB M f n (d + 1) k = nxB M f n d n k from fun k => rfl)
      go_wp2_with fail
      refine lay_wp (fun W => SeenN wo.heap.size n (fun k => nxB M f n d 0 k) W ∧ Ext wo W ∧ W.heap.size = wo.heap.size + 1) ⟨(SeenN.made wo n).congr (fun q _ => nxB_zero M f n d q), (Ext.refl _).alloc _, by simp⟩ ?_
      rintro W2 ⟨hse2, hx2, hs2⟩
      have HS2 := Lib.hid hse2
      have HX2 := Lib.hid hx2
      have HSA2 := Lib.hid (HSA.out.ext hx2)
      obtain ⟨g, hg⟩ : ∃ g, g = wo.heap.size := ⟨_, rfl⟩
      rw [← hg] at HS2 hs2 hga ⊢
      have HG := Lib.hid (show w.heap.size ≤ g by rw [hg]; exact HX.out.bel.size)
      have HGO := Lib.hid (show wo.heap.size ≤ g by rw [hg]; exact Nat.le_refl _)
      clear hse2 hx2 hg
      go_loopw [8] (fun iv wr => ∃ i : Nat, i ≤ n ∧ iv = .int .i64 (i : Int) ∧ SeenN g n (fun k => nxB M f n d i k) wr ∧ But [g] W2 wr) (fun iv _ => n - (intOf iv).toNat)
      case atStart => exact ⟨0, by omega, rfl, HS2.out, But.refl _ _⟩
      case round =>
        obtain ⟨i, hi, rfl, hse, hbt⟩ := hrel
        obtain ⟨wm, rfl⟩ : ∃ wm, wm = wr := ⟨wr, rfl⟩
        have HSM := Lib.hid hse
        have HBM := Lib.hid hbt
        clear hse hbt
        by_cases hin : i < n
        · have hii : (i : Int) < (n : Int) := by omega
          go_wp2_with fail
          go_loopw [9] (fun kv wr => ∃ k : Nat, (f ≤ k ∧ k ≤ n) ∧ kv = .int .i64 (k : Int) ∧ SeenN g n (fun q => if q < k then nxB M f n d (i + 1) q else nxB M f n d i q) wr ∧ But [g] W2 wr) (fun kv _ => n - (intOf kv).toNat)
          case atStart =>
            refine ⟨f, ⟨Nat.le_refl _, by omega⟩, rfl, HSM.out.congr (fun q _ => ?_), HBM.out⟩
            by_cases e : q < f
            · rw [if_pos e, nxB_low M f n d _ e, nxB_low M f n d _ e]
            · rw [if_neg e]
          case round =>
            obtain ⟨k, ⟨hfk, hk⟩, rfl, hse, hbt⟩ := hrel
            have HSK := Lib.hid hse
            have HBK := Lib.hid hbt
            clear hse hbt
            by_cases hkn : k < n
            · have hki : (k : Int) < (n : Int) := by omega
              have XT : Ext w wr := HBK.out.below (HX.out.trans HX2.out) (fun d hd => by rw [List.mem_singleton] at hd; rw [hd]; exact HG.out)
              obtain ⟨_, _, he, hta⟩ := HT.out.ext XT
              cases he
              obtain ⟨bt, ot, br, or, cr, rfl, u0, u1⟩ := hta i hin
              replace u1 := u1 k hkn
              have lu0 := cell_lt u0
              have lu1 := cell_lt u1
              obtain ⟨t0, t1⟩ := (HSA2.out.but HBK.out (by omega)) i hin
              obtain ⟨s0, s1⟩ := HSK.out k hkn
              simp only at s0
              rw [if_neg (Nat.lt_irrefl k)] at s0
              have ls := cell_lt s0
              have lt := cell_lt t0
              have HNS := Lib.hid (nxB_succ M f n d i hfk)
              have HPUT := Lib.hid fun (v : Bool) (hv : nxB M f n d (i + 1) k = v) => (show SeenN g n (fun q => if q < k + 1 then nxB M f n d (i + 1) q else nxB M f n d i q) (wr.setCell ⟨g, k, none⟩ (.bool v)) from HSK.out.putV hkn v (fun z _ => by
                by_cases e : z = k
                · subst e
                  rw [if_pos rfl, if_pos (by omega), hv]
                · rw [if_neg e]
                  by_cases e2 : z < k
                  · rw [if_pos e2, if_pos (by omega)]
                  · rw [if_neg e2, if_neg (by omega)]))
              have HBP := Lib.hid fun (v : Bool) => (show But [g] W2 (wr.setCell ⟨g, k, none⟩ (.bool v)) from HBK.out.setCell (by simp) _)
              clear hta XT
              generalize nxB M f n d i k = nk at *
              generalize rchB M f n d i = ai at *
              generalize M i k = mk at *
              cases nk
              · cases ai
                · have HF := Lib.hid (HPUT.out false (by rw [HNS.out]; rfl))
                  go_wp2_with fail
                  go_roundw
                  case rel => exact ⟨k + 1, ⟨by omega, by omega⟩, by go_num, HF.out, HBP.out _⟩
                  case measure => simp [intOf]; omega
                · have HF := Lib.hid (HPUT.out mk (by rw [HNS.out]; rfl))
                  go_wp2_with fail
                  go_roundw
                  case rel => exact ⟨k + 1, ⟨by omega, by omega⟩, by go_num, HF.out, HBP.out _⟩
                  case measure => simp [intOf]; omega
              · have HF := Lib.hid (HPUT.out true (by rw [HNS.out]; rfl))
                go_wp2_with fail
                go_roundw
                case rel => exact ⟨k + 1, ⟨by omega, by omega⟩, by go_num, HF.out, HBP.out _⟩
                case measure => simp [intOf]; omega
            · obtain rfl : k = n := by omega
              go_wp2_with fail
              go_roundw
              case rel => exact ⟨i + 1, by omega, by go_num, HSK.out.congr (fun q hq => (if_pos hq).symm), HBK.out⟩
              case measure => simp [intOf]; omega
        · obtain rfl : i = n := by omega
          obtain ⟨s0, s1⟩ := HSM.out f hf
          simp only at s0
          have ls := cell_lt s0
          have HNF := Lib.hid (HNX.out f)
          have XT := Lib.hid (show Ext w wm from HBM.out.below (HX.out.trans HX2.out) (fun d hd => by rw [List.mem_singleton] at hd; rw [hd]; exact HG.out))
          have HRB := Lib.hid fun e => (rchB_iff (M := M) (f := f) (n := i) (d := e) hf)
          generalize nxB M f i d i f = hit at *
          cases hit
          · have HN2 := Lib.hid (show ∀ e, 1 ≤ e → e ≤ d + 1 → rchB M f i e f = false from fun e h1 h2 => by
              rcases (by omega : e ≤ d ∨ e = d + 1) with h | rfl
              · exact HN.out e h1 h
              · rw [HNF.out])
            have HSF := Lib.hid (show SeenN g i (rchB M f i (d + 1)) wm from HSM.out.congr (fun q _ => HNX.out q))
            go_wp2_with fail
            go_roundw
            case rel => exact ⟨d + 1, g, by omega, by go_num, rfl, HSF.out, HN2, XT.out⟩
            case measure => simp [intOf]; omega
          · have HST := Lib.hid (show StepsIs M f i (d + 1) from .inr ⟨by omega, by omega, (HRB.out (d + 1)).1 HNF.out, fun e h1 h2 hr => by
              have := HN.out e h1 (by omega)
              rw [(HRB.out e).2 hr] at this
              cases this⟩)
            go_wp2_with fail
            go_ret
            exact ⟨d + 1, by simp, HST.out, XT.out⟩
    · obtain rfl : d = n := by omega
      have hdi : ¬ (d : Int) + 1 ≤ (d : Int) := by omega
      have HST := Lib.hid (show StepsIs M f d 0 from .inl ⟨rfl, fun e h1 h2 hr => by
        have := HN.out e h1 h2
        rw [(rchB_iff hf).2 hr] at this
        cases this⟩)
      go_wp2_with fail
      go_ret
      exact ⟨0, rfl, HST.out, HX.out⟩
end
section
/- GRAro: The reference's around. Condition: the table and the list lie there. -/
section
def aF (M : Nat → Nat → Bool) (n N u : Nat) (b : List Nat) (i : Nat) : Option (List Nat) := if b.head?.getD 0 < i ∧ i ∉ b ∧ M (b.getLast?.getD 0) i = true then arnd M n N u (b ++ [i]) else none
theorem arnd_succ (M : Nat → Nat → Bool) (n N u : Nat) (b : List Nat) : arnd M n N (u + 1) b = if b.length = N then (if M (b.getLast?.getD 0) (b.head?.getD 0) then some b else none) else (List.range n).findSome? (aF M n N u b) := rfl
theorem find_succ {α : Type} (F : Nat → Option α) {i : Nat} (h : (List.range i).findSome? F = none) : (List.range (i + 1)).findSome? F = F i := by
  rw [List.range_succ, List.findSome?_append, h]
  simp [List.findSome?_cons]
  cases F i <;> rfl
theorem find_le {α : Type} (F : Nat → Option α) {i : Nat} {r : α} (h : (List.range i).findSome? F = some r) : ∀ d, (List.range (i + d)).findSome? F = some r
  | 0 => h
  | d + 1 => by
    rw [← Nat.add_assoc, List.range_succ, List.findSome?_append, find_le F h d]
    rfl
end
open Go.RowKit

/-- What around answers. -/
def ArIs (w : World) (v : Value) : Option (List Nat) → Prop
  | none => v = .slice none 0 0
  | some r => IsI w v (natsI r) ∧ ∃ b o m c, v = .slice (some ⟨b, o, none⟩) m c

set_option maxRecDepth 100000 in
set_option maxHeartbeats 4000000 in
theorem refAround_any (n : Nat) (M : Nat → Nat → Bool) (tv : Value) (N : Nat) (hn : n ≤ 16) (hN16 : N ≤ 16) : ∀ (u : Nat) (b : List Nat) (bv : Value) (w : World) (_ : TabAt w tv n M) (_ : IsI w bv (natsI b)) (_ : b ≠ []) (_ : ∀ a ∈ b, a < n) (_ : b.length ≤ N) (_ : N + 1 ≤ b.length + u),
    Calls Try.prog 91 #[tv, bv, .int .i64 (N : Int)] w fun e w' => ∃ v, e = .returned v ∧ ArIs w' v (arnd M n N u b) ∧ Ext w w'
  | 0, b, bv, w, _, _, _, _, h1, h2 => by omega
  | u + 1, b, bv, w, hT, hI, hb, hlt, hbN, hu => by
    have IH := Lib.hid (refAround_any n M tv N hn hN16 u)
    have HT := Lib.hid hT
    have HI := Lib.hid hI
    obtain ⟨At, ct, rfl, -⟩ := hT
    obtain ⟨A, m, c, rfl, -, hr, hm⟩ := hI.open_
    have hlen : b.length = m := by rw [← hr.len, natsI_len]
    have hm1 : 1 ≤ m := by
      rcases Nat.eq_zero_or_pos m with h | h
      · exact absurd (List.length_eq_zero_iff.1 (hlen.trans h)) hb
      · exact h
    obtain ⟨bb, bo, rfl, -, -⟩ := hr.at_ 0 (by omega)
    have HC := Lib.hid (show ∀ i, i < m → w.cell? ⟨bb, bo + i, none⟩ = some (.int .i64 ((b[i]?.getD 0 : Nat) : Int)) from fun i hi => by
      obtain ⟨b', o', he, _, h⟩ := hr.at_ i hi
      cases he
      rw [h, natsI_at])
    have HB := Lib.hid (show ∀ i, i < m → b[i]?.getD 0 < n from fun i hi => by
      rw [List.getElem?_eq_getElem (by omega)]
      exact hlt _ (List.getElem_mem _))
    have HAR := Lib.hid (arnd_succ M n N u b)
    have HLA := Lib.hid (show b.getLast?.getD 0 = b[m - 1]?.getD 0 by rw [List.getLast?_eq_getElem?, hlen])
    have HHD := Lib.hid (show b.head?.getD 0 = b[0]?.getD 0 by rw [List.head?_eq_getElem?])
    have HLT := Lib.hid hlt
    have HLEN := Lib.hid hlen
    have c1 := HC.out (m - 1) (by omega)
    have c0 := HC.out 0 (by omega)
    have hl1 := HB.out (m - 1) (by omega)
    have hl0 := HB.out 0 (by omega)
    rw [HLEN.out] at hbN hu HAR
    simp only [Nat.add_zero] at c0
    have hnat : ((m - 1 : Nat) : Int) = (m : Int) - 1 := by omega
    have hg1 : (0 : Int) ≤ (m : Int) - 1 := by omega
    have hg2 : (m : Int) - 1 < (m : Int) := by omega
    have hw1 : IntKind.i64.wrap ((m : Int) - 1) = (m : Int) - 1 := by apply IntWalk.i64_in <;> omega
    have lc := cell_lt c0
    have HF := Lib.hid (show aF M n N u b = fun i => if b.head?.getD 0 < i ∧ i ∉ b ∧ M (b.getLast?.getD 0) i = true then arnd M n N u (b ++ [i]) else none from rfl)
    rw [HLA.out, HHD.out] at HAR HF
    generalize b[m - 1]?.getD 0 = la at *
    generalize b[0]?.getD 0 = hd at *
    clear hr hI hb hlt hlen
    by_cases hmN : m = N
    · rw [if_pos hmN] at HAR
      subst hmN
      have q1 : ((m : Int) == (m : Int)) = true := by simp
      obtain ⟨_, _, he, hta⟩ := HT.out
      cases he
      obtain ⟨bt, ot, br, or, cr, rfl, u0, u1⟩ := hta la hl1
      replace u1 := u1 hd hl0
      have lu0 := cell_lt u0
      have lu1 := cell_lt u1
      have hlai : (la : Int) < (n : Int) := by omega
      have hhdi : (hd : Int) < (n : Int) := by omega
      clear hta
      generalize M la hd = mb at *
      go_enter Try.func91, Try.ntmps91
      go_wp2_with fail
      try go_frame
      refine wp_region_bext (by kernel_rfl) (by kernel_rfl) ?_
      repeat (any_goals (go_big_quiet_step (fail)))
      all_goals refine wpQuiet_nil ?_
      all_goals rintro _ ⟨δ, rfl⟩
      have HX6 := Lib.hid (show Ext w δ.wd from ⟨δ, rfl⟩)
      generalize δ.wd = W6 at *
      cases mb
      · go_wp2_with fail
        go_ret
        exact ⟨_, rfl, by rw [HAR.out]; exact rfl, HX6.out⟩
      · go_wp2_with fail
        go_ret
        exact ⟨_, rfl, by rw [HAR.out]; exact ⟨HI.out.ext HX6.out, _, _, _, _, rfl⟩, HX6.out⟩
    have q1 : ((m : Int) == (N : Int)) = false := by simp; omega
    rw [if_neg hmN] at HAR
    have HMN := Lib.hid hmN
    clear hmN
    have hw2 : IntKind.i64.wrap ((hd : Int) + 1) = (hd : Int) + 1 := by apply IntWalk.i64_in <;> omega
    have hhdi : (hd : Int) < (n : Int) := by omega
    have HSP := Lib.hid (show ∀ i, i < n → (List.range i).findSome? (aF M n N u b) = none → ∀ r, aF M n N u b i = some r → (List.range n).findSome? (aF M n N u b) = some r from fun i hi h0 r hr => by
      have h1 := find_le _ ((find_succ _ h0).trans hr) (n - (i + 1))
      rwa [show i + 1 + (n - (i + 1)) = n by omega] at h1)
    go_enter Try.func91, Try.ntmps91
    go_wp2_with fail
    go_loopw [8] (fun iv wr => ∃ i : Nat, (hd < i ∧ i ≤ n) ∧ iv = .int .i64 (i : Int) ∧ Hid ((List.range i).findSome? (aF M n N u b) = none) ∧ Ext w wr) (fun iv _ => n - (intOf iv).toNat)
    case atStart =>
      refine ⟨hd + 1, ⟨by omega, by omega⟩, by go_num, Lib.hid ?_, Ext.refl _⟩
      rw [List.findSome?_eq_none_iff]
      intro x hx
      rw [HF.out]
      exact if_neg (fun h => by have := List.mem_range.1 hx; omega)
    case round =>
      obtain ⟨i, ⟨hdi, hi⟩, rfl, HN, hx⟩ := hrel
      obtain ⟨wm, rfl⟩ : ∃ wm, wm = wr := ⟨wr, rfl⟩
      have HX := Lib.hid hx
      clear hx
      by_cases hin : i < n
      · have hii : (i : Int) < (n : Int) := by omega
        have HNX := Lib.hid fun (h : aF M n N u b i = none) => (find_succ _ HN.out).trans h
        have HFI := Lib.hid (show aF M n N u b i = if hd < i ∧ i ∉ b ∧ M la i = true then arnd M n N u (b ++ [i]) else none by rw [HF.out])
        go_wp2_with fail
        go_loopw [9, 10] (fun uv kv wr => ∃ q : Nat, q ≤ m ∧ kv = .int .i64 (q : Int) ∧ uv = .bool ((b.take q).contains i) ∧ wr = wm) (fun _ kv _ => m - (intOf kv).toNat)
        case atStart => exact ⟨0, by omega, rfl, by simp, rfl⟩
        case round =>
          obtain ⟨q, hq, rfl, rfl, rfl⟩ := hrel
          by_cases hqm : q < m
          · have hqi : (q : Int) < (m : Int) := by omega
            have hc := HX.out.cell_some (HC.out q hqm)
            have lb := cell_lt hc
            have HTK := Lib.hid (show (b.take (q + 1)).contains i = ((b.take q).contains i || (b[q]?.getD 0 == i)) by
              rw [take_snoc (d := 0) (by rw [HLEN.out]; exact hqm), Bool.eq_iff_iff]
              simp only [List.contains_iff_mem, List.mem_append, List.mem_singleton, Bool.or_eq_true, beq_iff_eq]
              exact ⟨fun h => h.imp id Eq.symm, fun h => h.imp id Eq.symm⟩)
            generalize b[q]?.getD 0 = x at *
            generalize (b.take q).contains i = us at *
            cases us
            · by_cases hxi : x = i
              · subst hxi
                have q2 : ((x : Int) == (x : Int)) = true := by simp
                have HV := Lib.hid (show (b.take (q + 1)).contains x = true by rw [HTK.out]; simp)
                go_wp2_with fail
                go_roundw
                case rel => exact ⟨q + 1, by omega, by go_num, by rw [HV.out], trivial⟩
                case measure => simp [intOf]; omega
              · have q2 : ((x : Int) == (i : Int)) = false := by simp; omega
                have HV := Lib.hid (show (b.take (q + 1)).contains i = false by rw [HTK.out]; simp [hxi])
                go_wp2_with fail
                go_roundw
                case rel => exact ⟨q + 1, by omega, by go_num, by rw [HV.out], trivial⟩
                case measure => simp [intOf]; omega
            · have HV := Lib.hid (show (b.take (q + 1)).contains i = true by rw [HTK.out]; rfl)
              go_wp2_with fail
              go_roundw
              case rel => exact ⟨q + 1, by omega, by go_num, by rw [HV.out], trivial⟩
              case measure => simp [intOf]; omega
          · obtain rfl : q = m := by omega
            have HBT := Lib.hid (show b.take q = b from List.take_of_length_le (by rw [HLEN.out]; exact Nat.le_refl _))
            rw [HBT.out]
            obtain ⟨us, hus⟩ : ∃ us, us = b.contains i := ⟨_, rfl⟩
            have HUS := Lib.hid hus
            rw [← hus]
            clear hus
            cases us
            · obtain ⟨_, _, he, hta⟩ := HT.out.ext HX.out
              cases he
              obtain ⟨bt, ot, br, or, cr, rfl, u0, u1⟩ := hta la hl1
              replace u1 := u1 i hin
              have lu0 := cell_lt u0
              have lu1 := cell_lt u1
              have hlai : (la : Int) < (n : Int) := by omega
              have hni : i ∉ b := fun h => by
                have := HUS.out
                rw [List.contains_iff_mem.2 h] at this
                cases this
              obtain ⟨mb, hmb⟩ : ∃ mb, mb = M la i := ⟨_, rfl⟩
              rw [← hmb] at u1
              have HMB := Lib.hid hmb
              have HNI := Lib.hid hni
              clear hta hmb hni
              cases mb
              · have HN2 := Lib.hid (HNX.out (by rw [HFI.out, if_neg]; rintro ⟨_, _, h⟩; rw [← HMB.out] at h; cases h))
                go_wp2_with fail
                go_roundw
                case rel => exact ⟨i + 1, ⟨by omega, by omega⟩, by go_num, HN2, HX.out⟩
                case measure => simp [intOf]; omega
              · have HAF := Lib.hid (show aF M n N u b i = arnd M n N u (b ++ [i]) by rw [HFI.out, if_pos ⟨hdi, HNI.out, HMB.out.symm⟩])
                have HM := Lib.hid (OwnI.made wr.heap.size wr 0 (Nat.le_refl _) #[] (by decide) rfl)
                have HU0 := Lib.hid (HI.out.ext (HX.out.alloc (.cells #[] 3)))
                have HB0 := Lib.hid (show wr.heap.size ≤ (wr.alloc (.cells #[] 3)).heap.size by simp)
                have HZ0 := Lib.hid (show ([] : List Int).length + (natsI b).length ≤ 10000000000 by rw [List.length_nil, natsI_len, HLEN.out]; omega)
                have HZ1 := Lib.hid (show ([] ++ natsI b).length ≤ 1000000000 by rw [List.nil_append, natsI_len, HLEN.out]; omega)
                go_wp2_with (first
                  | (at_builtin; refine app_all rfl (.tmp 69) (.tmp 70) rfl rfl rfl HU0.out HM.out HB0.out HZ0.out ?_; intro v7 w7 o7 b7; have HO7 := Lib.hid o7; have HB7 := Lib.hid b7; have hs7 := b7.size; have HC7 := Lib.hid (show (w7.alloc (.cells #[.int .i64 (i : Int)] 3)).cell? ⟨w7.heap.size, 0, none⟩ = some (.int .i64 (i : Int)) from cell_new rfl); have HO8 := Lib.hid (HO7.out.ext ((Ext.refl w7).alloc (.cells #[.int .i64 (i : Int)] 3))); have HB8 := Lib.hid (show wr.heap.size ≤ (w7.alloc (.cells #[.int .i64 (i : Int)] 3)).heap.size by simp at hs7 ⊢; omega); clear o7 b7 hs7)
                  | (at_builtin; refine app_one rfl (.tmp 71) (.tmp 73) rfl _ _ _ rfl rfl HC7.out HO8.out HB8.out HZ1.out ?_; intro v8 w8 o8 b8; have HO9 := Lib.hid o8; have HB9 := Lib.hid b8; clear o8 b8))
                have HX9 := Lib.hid (show Ext wr w8 from ((((Ext.refl wr).alloc (.cells #[] 3)).below HB7.out (Nat.le_refl _)).alloc _).below HB9.out (Nat.le_refl _))
                have HI9 := Lib.hid (show IsI w8 v8 (natsI (b ++ [i])) from by
                  rw [natsI_snoc]
                  have := HO9.out.isI
                  rwa [List.nil_append] at this)
                refine (IH.out (b ++ [i]) v8 w8 (HT.out.ext (HX.out.trans HX9.out)) HI9.out (by simp) (fun a ha => by
                  rcases List.mem_append.1 ha with h | h
                  · exact HLT.out a h
                  · rw [List.mem_singleton.1 h]; exact hin) (by rw [List.length_append, HLEN.out]; have := HMN.out; simp; omega) (by rw [List.length_append, HLEN.out]; simp; omega)).mono ?_
                rintro e w9 ⟨v9, rfl, har, x9⟩
                have HX10 := Lib.hid (HX.out.trans (HX9.out.trans x9))
                clear x9
                cases hres : arnd M n N u (b ++ [i]) with
                | none =>
                  rw [hres] at har HAF
                  obtain rfl := har
                  have HN2 := Lib.hid (HNX.out HAF.out)
                  clear hres
                  go_wp2_with fail
                  go_roundw
                  case rel => exact ⟨i + 1, ⟨by omega, by omega⟩, by go_num, HN2, HX10.out⟩
                  case measure => simp [intOf]; omega
                | some r =>
                  rw [hres] at har HAF
                  obtain ⟨hri, b9, o9, m9, c9, rfl⟩ := har
                  have HRI := Lib.hid hri
                  have HRS := Lib.hid (HSP.out i hin HN.out r HAF.out)
                  clear hres hri
                  go_wp2_with fail
                  go_ret
                  exact ⟨_, rfl, by rw [HAR.out, HRS.out]; exact ⟨HRI.out, _, _, _, _, rfl⟩, HX10.out⟩
            · have HN2 := Lib.hid (HNX.out (by
                rw [HFI.out, if_neg]
                rintro ⟨_, h, _⟩
                exact h (List.contains_iff_mem.1 HUS.out.symm)))
              go_wp2_with fail
              go_roundw
              case rel => exact ⟨i + 1, ⟨by omega, by omega⟩, by go_num, HN2, HX.out⟩
              case measure => simp [intOf]; omega
      · obtain rfl : i = n := by omega
        go_wp2_with fail
        go_ret
        exact ⟨_, rfl, by rw [HAR.out, HN.out]; exact rfl, HX.out⟩
end
section
theorem pick_step (M : Nat → Nat → Bool) {n i : Nat} (hi : i < n) : pick M n (n - i) = if 0 < bkF M i n i ∧ ((pick M n (n - (i + 1))).1 = 0 ∨ bkF M i n i ≤ (pick M n (n - (i + 1))).1) then (bkF M i n i, i) else pick M n (n - (i + 1)) := by
  obtain ⟨t, ht⟩ : ∃ t, n - i = t + 1 := ⟨n - i - 1, by omega⟩
  rw [ht]
  unfold pick
  simp only
  rw [show n - (t + 1) = i by omega, show n - (i + 1) = t by omega]
  cases t <;> rfl
theorem loop_pick {M : Nat → Nat → Bool} {n : Nat} (hM : ∀ a, M a a = false) : ((pick M n n).1 = 0 ∧ lpTo M n n = none) ∨ ∃ r, (pick M n n).1 ≠ 0 ∧ (pick M n n).1 ≤ n ∧ (pick M n n).2 < n ∧ lpTo M n n = some r ∧ arnd M n (pick M n n).1 n [(pick M n n).2] = some r := by
  have hl := lpTo_pick (n := n) hM
  by_cases h0 : (pick M n n).1 = 0
  · rw [if_pos h0] at hl
    exact .inl ⟨h0, hl⟩
  · rw [if_neg h0] at hl
    right
    have h1 := pick_least M n n (Nat.le_refl _)
    rcases h1 with ⟨h, _⟩ | ⟨_, _, h2, h3, _⟩
    · exact absurd h h0
    · rcases lpTo_least (M := M) (n := n) (Nat.le_refl _) with ⟨_, h⟩ | ⟨f, _, _, hs, _⟩
      · have := h _ h2
        omega
      · exact ⟨_, h0, by have := bkF_le hM h2; omega, h2, hs, by rw [← hl]; exact hs⟩
end
open Go.RowKit

def RetIs (w : World) (zs : List Int) (er : Int) (e : Ending) (w' : World) : Prop := ∃ v, e = .returned (.tuple #[v, .int .i64 er]) ∧ IsI w' v zs ∧ Ext w w'
theorem retIs_mk {w W : World} {zs zs' : List Int} {v : Value} {er er' : Int} (ho : IsI W v zs) (hz : zs' = zs) (he : er' = er) (x : Ext w W) : RetIs w zs' er' (.returned (.tuple #[v, .int .i64 er])) W := by
  subst hz he
  exact ⟨v, rfl, ho, x⟩

set_option maxRecDepth 100000 in
set_option maxHeartbeats 4000000 in
theorem refLoop_any (k : WkT) (v : Value) (w : World) (hI : CutsIs w v k.cuts) :
    Calls Try.prog 52 #[k.val v] w (RetIs w (loopL k) (loopE k)) := by
  have HW := Lib.hid fun (W : World) (x : Ext w W) => refWork_any k v W (hI.ext x)
  have HTB := Lib.hid fun (W : World) (x : Ext w W) (hb : workB k = true) => refTable_any k v W (hI.ext x) hb
  obtain ⟨A, c, rfl, -, ⟨hcl, hcm⟩, -⟩ := cutsIs_at hI
  unfold maxLen at hcm
  have HNIL := Lib.hid fun W : World => (OwnI.nil 0 W).isI
  cases hb : workB k
  · have HR := Lib.hid (loop_no hb)
    rw [hb] at HW
    clear hb hI hcl hcm
    go_enter Try.func52, Try.ntmps52
    go_wp2_with fail
    refine (HW.out _ (by (repeat' (first | with_reducible exact Ext.refl _ | with_reducible apply Ext.alloc | with_reducible apply Ext.drew | with_reducible apply Ext.drewN | with_reducible refine Ext.setCell ?_ ?_ _ | with_reducible apply Ext.step | with_reducible assumption | with_reducible exact Nat.le_refl _ | (simp; done) | (simp; omega))))).mono ?_
    rintro e W1 ⟨rfl, x1⟩
    have HX1 := Lib.hid (show Ext w W1 from Ext.trans (by (repeat' (first | with_reducible exact Ext.refl _ | with_reducible apply Ext.alloc | with_reducible apply Ext.drew | with_reducible apply Ext.drewN | with_reducible refine Ext.setCell ?_ ?_ _ | with_reducible apply Ext.step | with_reducible assumption | with_reducible exact Nat.le_refl _ | (simp; done) | (simp; omega)))) x1)
    clear x1
    go_wp2_with fail
    go_ret2
    exact retIs_mk (HNIL.out _) HR.out.1 HR.out.2 HX1.out
  replace HTB := Lib.hid fun W x => HTB.out W x hb
  obtain ⟨_, _, h16, _⟩ := workB_iff.1 hb
  have HM := Lib.hid (ruleM_same k)
  have HNO := Lib.hid (fun h => loop_none hb h)
  have HOK := Lib.hid (fun (l : List Nat) h => loop_some hb (l := l) h)
  rw [hb] at HW
  obtain ⟨n, hn⟩ : ∃ n, n = k.cuts.length := ⟨_, rfl⟩
  obtain ⟨M, hM⟩ : ∃ M, M = ruleM k := ⟨_, rfl⟩
  rw [← hn] at HW HTB HNO HOK h16 hcl ⊢
  rw [← hM] at HTB HM HNO HOK
  clear hb hn hI hM hcl hcm
  have HLP := Lib.hid (loop_pick (n := n) HM.out)
  have hw1 : IntKind.i64.wrap ((n : Int) - 1) = (n : Int) - 1 := by apply IntWalk.i64_in <;> omega
  go_enter Try.func52, Try.ntmps52
  go_wp2_with fail
  refine (HW.out _ (by (repeat' (first | with_reducible exact Ext.refl _ | with_reducible apply Ext.alloc | with_reducible apply Ext.drew | with_reducible apply Ext.drewN | with_reducible refine Ext.setCell ?_ ?_ _ | with_reducible apply Ext.step | with_reducible assumption | with_reducible exact Nat.le_refl _ | (simp; done) | (simp; omega))))).mono ?_
  rintro e Wa ⟨rfl, xa⟩
  have HXa := Lib.hid (show Ext w Wa from Ext.trans (by (repeat' (first | with_reducible exact Ext.refl _ | with_reducible apply Ext.alloc | with_reducible apply Ext.drew | with_reducible apply Ext.drewN | with_reducible refine Ext.setCell ?_ ?_ _ | with_reducible apply Ext.step | with_reducible assumption | with_reducible exact Nat.le_refl _ | (simp; done) | (simp; omega)))) xa)
  have HWKa := Lib.hid ((WkAt.new k (.slice A n c) w).ext xa)
  obtain ⟨h0, h1, h2, h3, h4, h5, h6, h7, h8, h9, h10, h11, h12⟩ := HWKa.out
  have lh := cell_lt h12
  clear xa
  go_wp2_with fail
  refine (HTB.out _ HXa.out).mono ?_
  rintro e W0 ⟨tv, rfl, htab, x0⟩
  have HX0 := Lib.hid (HXa.out.trans x0)
  have HT0 := Lib.hid htab
  obtain ⟨At, ct, rfl, -⟩ := htab
  clear x0 h0 h1 h2 h3 h4 h5 h6 h7 h8 h9 h10 h11 h12 lh
  go_wp2_with fail
  go_loopw [5, 6, 7] (fun lv fv iv wr => ∃ (q : Nat) (z : Int), q ≤ n ∧ iv = .int .i64 z ∧ Hid (z = (q : Int) - 1) ∧ lv = .int .i64 ((pick M n (n - q)).1 : Nat) ∧ fv = .int .i64 ((pick M n (n - q)).2 : Nat) ∧ Ext W0 wr) (fun _ _ iv _ => (intOf iv + 1).toNat)
  case atStart => exact ⟨n, _, by omega, rfl, Lib.hid rfl, by rw [Nat.sub_self]; rfl, by rw [Nat.sub_self]; rfl, Ext.refl _⟩
  case round =>
    obtain ⟨q, z, hq, rfl, HZ, rfl, rfl, hx⟩ := hrel
    have HX := Lib.hid hx
    clear hx
    rcases Nat.eq_zero_or_pos q with rfl | hq0
    · obtain rfl : z = -1 := by have := HZ.out; omega
      rw [Nat.sub_zero]
      have hlp := HLP.out
      generalize pick M n n = pp at *
      obtain ⟨le, fi⟩ := pp
      simp only at hlp ⊢
      rcases hlp with ⟨rfl, hnone⟩ | ⟨r, h1, h2, h3, h4, h5⟩
      · have HF := Lib.hid (HNO.out hnone)
        clear hnone
        go_wp2_with fail
        go_ret2
        exact retIs_mk (HNIL.out _) HF.out.1 HF.out.2 (HX0.out.trans HX.out)
      · have HF := Lib.hid (HOK.out r h4)
        have HAN := Lib.hid h5
        have q1 : (((le : Nat) : Int) == 0) = false := by simp; omega
        have HAR := Lib.hid (refAround_any n M (.slice At n ct) le h16 (by omega) n [fi] (.slice (some ⟨wr.heap.size, 0, none⟩) 1 1) (wr.alloc (.cells #[.int .i64 (fi : Int)] 3)) (HT0.out.ext (HX.out.alloc _)) (IsI.of_row (by simp) (Nat.le_refl _) (by decide) (rowI_one (cell_new rfl))) (by simp) (fun a ha => by rw [List.mem_singleton.1 ha]; exact h3) (by simp; omega) (by simp; omega))
        rw [h5] at HAR
        clear h1 h4 h5
        go_wp2_with fail
        refine HAR.out.mono ?_
        rintro e w9 ⟨v9, rfl, har, x9⟩
        obtain ⟨hri, b9, o9, m9, c9, rfl⟩ := har
        have HRI := Lib.hid hri
        have HX9 := Lib.hid (show Ext wr w9 from Ext.trans ((Ext.refl wr).alloc _) x9)
        clear hri x9
        go_wp2_with fail
        go_ret2
        exact retIs_mk HRI.out HF.out.1 HF.out.2 (HX0.out.trans (HX.out.trans HX9.out))
    · obtain ⟨i, rfl⟩ : ∃ i, q = i + 1 := ⟨q - 1, by omega⟩
      obtain rfl : z = (i : Int) := by have := HZ.out; omega
      have hin : i < n := by omega
      have hg0 : decide ((0 : Int) ≤ (i : Int)) = true := by simp
      have hw2 : IntKind.i64.wrap ((i : Int) - 1) = (i : Int) - 1 := by apply IntWalk.i64_in <;> omega
      have HPS := Lib.hid (pick_step M hin)
      have HST := Lib.hid (refSteps_any (.slice At n ct) i n M wr (HT0.out.ext HX.out) hin h16)
      have HBK := Lib.hid fun r => (stepsIs_bkF (M := M) (f := i) (n := n) (r := r) HM.out hin)
      generalize pick M n (n - (i + 1)) = pp at *
      obtain ⟨le, fi⟩ := pp
      simp only
      go_wp2_with fail
      refine HST.out.mono ?_
      rintro e w9 ⟨r, rfl, hr, x9⟩
      have HX9 := Lib.hid (HX.out.trans x9)
      have HRB := Lib.hid (HBK.out r hr)
      rw [← HRB.out] at HPS
      clear hr x9 HST HBK
      by_cases hr0 : 0 < r
      · have q2 : decide ((0 : Int) < (r : Int)) = true := by simp; omega
        by_cases hle : le = 0
        · subst hle
          have q3 : (((0 : Nat) : Int) == 0) = true := by simp
          have HV := Lib.hid (show pick M n (n - i) = (r, i) by rw [HPS.out, if_pos ⟨hr0, .inl rfl⟩])
          go_wp2_with fail
          go_roundw
          case rel => exact ⟨i, _, by omega, rfl, Lib.hid rfl, by rw [HV.out], by rw [HV.out], HX9.out⟩
          case measure => simp [intOf] <;> omega
        · have q3 : (((le : Nat) : Int) == 0) = false := by simp; omega
          by_cases hrl : r ≤ le
          · have q4 : decide ((r : Int) ≤ (le : Int)) = true := by simp; omega
            have HV := Lib.hid (show pick M n (n - i) = (r, i) by rw [HPS.out, if_pos ⟨hr0, .inr hrl⟩])
            go_wp2_with fail
            go_roundw
            case rel => exact ⟨i, _, by omega, rfl, Lib.hid rfl, by rw [HV.out], by rw [HV.out], HX9.out⟩
            case measure => simp [intOf] <;> omega
          · have q4 : decide ((r : Int) ≤ (le : Int)) = false := by simp; omega
            have HV := Lib.hid (show pick M n (n - i) = (le, fi) by rw [HPS.out, if_neg (fun h => h.2.elim hle hrl)])
            go_wp2_with fail
            go_roundw
            case rel => exact ⟨i, _, by omega, rfl, Lib.hid rfl, by rw [HV.out], by rw [HV.out], HX9.out⟩
            case measure => simp [intOf] <;> omega
      · have q2 : decide ((0 : Int) < (r : Int)) = false := by simp; omega
        have HV := Lib.hid (show pick M n (n - i) = (le, fi) by rw [HPS.out, if_neg (fun h => hr0 h.1)])
        go_wp2_with fail
        go_roundw
        case rel => exact ⟨i, _, by omega, rfl, Lib.hid rfl, by rw [HV.out], by rw [HV.out], HX9.out⟩
        case measure => simp [intOf] <;> omega
end Go.Proofs.Ytgeapenglcohfaa
