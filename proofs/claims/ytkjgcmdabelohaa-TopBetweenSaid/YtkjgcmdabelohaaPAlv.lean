/- barleycorntop.alive09d, and barleycornref04.SameProgram of a program and itself. Condition: the programs' slices read as lists. -/
import Derived.Test.YtkjgcmdabelohaaRTurns2
import Derived.Test.YtkjgcmdabelohaaRGal
import Derived.Test.YtkjgcmdabelohaaPSimW
namespace Go.Proofs.Ytkjgcmdabelohaa
section
/- PBaseP: Which phases fit: in plain words. No program. Condition: readings without noise (fits_see). -/
section
/- PPer: Least periods, and lifts that turn with the rosette: plain (the parts of RPer and RPer2 that the top laws want). No program. -/

theorem mvL_neg_cancel {zs : List Int} (a b : Int) : mvL zs a = mvL zs b ↔ mvL zs (a - b) = zs := by
  constructor
  · intro h
    have h1 := mvL_add zs a (-b)
    rw [h, mvL_add, show b + -b = 0 by omega, mvL_zero] at h1
    rw [show a - b = a + -b by omega]
    exact h1.symm
  · intro h
    have h1 := mvL_add zs (a - b) b
    rw [h, show a - b + b = a by omega] at h1
    exact h1.symm

theorem search_least {P : Nat → Prop} (hd : ∀ t, P t ∨ ¬ P t) : ∀ m : Nat, (∃ t, 1 ≤ t ∧ t ≤ m ∧ P t ∧ ∀ s, 1 ≤ s → s < t → ¬ P s) ∨ (∀ s, 1 ≤ s → s ≤ m → ¬ P s)
  | 0 => .inr fun s h1 h2 => absurd h1 (by omega)
  | m + 1 => by
    rcases search_least hd m with ⟨t, h1, h2, h3, h4⟩ | h
    · exact .inl ⟨t, h1, by omega, h3, h4⟩
    · rcases hd (m + 1) with hp | hp
      · exact .inl ⟨m + 1, by omega, Nat.le_refl _, hp, fun s h1 h2 => h s h1 (by omega)⟩
      · refine .inr fun s h1 h2 => ?_
        rcases (by omega : s ≤ m ∨ s = m + 1) with h3 | rfl
        · exact h s h1 h3
        · exact hp
theorem exists_least {zs : List Int} (hn : 1 ≤ zs.length) : ∃ t, LeastT zs t ∧ t ≤ zs.length := by
  rcases search_least (P := fun t : Nat => mvL zs t = zs) (fun t => Classical.em _) zs.length with ⟨t, h1, h2, h3, h4⟩ | h
  · exact ⟨t, ⟨h1, h3, h4⟩, h2⟩
  · exact absurd (mvL_len_eq zs) (h _ hn (Nat.le_refl _))
section
variable {zs ys b : List Int} {t : Nat}
theorem LeastT.dvd (h : LeastT zs t) : zs.length % t = 0 := (least_iff h zs.length).1 (mvL_len_eq zs)
theorem LeastT.le (h : LeastT zs t) (hn : 1 ≤ zs.length) : t ≤ zs.length := Nat.le_of_dvd hn (Nat.dvd_of_mod_eq_zero h.dvd)
theorem LeastT.period (h : LeastT zs t) (hn : 1 ≤ zs.length) : periodOf zs = (t : Int) := by rw [periodOf, least_len h hn]
theorem LeastT.int (h : LeastT zs t) (hn : 1 ≤ zs.length) (a : Int) : mvL zs a = zs ↔ a % (t : Int) = 0 := by
  rw [← mvL_emod]
  obtain ⟨k, hk, hk2⟩ := emod_nat a hn
  rw [hk, least_iff h]
  have h1 : a % (t : Int) = ((k % t : Nat) : Int) := by
    have hd : (zs.length : Int) % (t : Int) = 0 := by have := h.dvd; omega
    have h2 := Int.emod_add_mul_ediv a (zs.length : Int)
    obtain ⟨q, hq⟩ := Int.dvd_of_emod_eq_zero hd
    rw [hk] at h2
    have h3 : a = (k : Int) + (t : Int) * (q * (a / (zs.length : Int))) := by rw [← Int.mul_assoc, ← hq]; exact h2.symm
    rw [h3, Int.add_mul_emod_self_left]
    omega
  omega
theorem LeastT.eq_iff (h : LeastT zs t) (hn : 1 ≤ zs.length) (a c : Int) : mvL zs a = mvL zs c ↔ (a - c) % (t : Int) = 0 := by rw [mvL_neg_cancel, h.int hn]

theorem lift_turn (f b : List Int) (hb : 1 ≤ b.length) (a : Int) : liftL (mvL f a) b = mvL (liftL f b) a := by
  refine list_ext (by rw [liftL_len, mvL_len, mvL_len, liftL_len]) fun i hi => ?_
  rw [liftL_len, mvL_len] at hi
  have hn : 1 ≤ f.length := by omega
  have e1 := Int.emod_nonneg ((i : Int) - a) (show (f.length : Int) ≠ 0 by omega)
  have e2 := Int.emod_lt_of_pos ((i : Int) - a) (show (0 : Int) < f.length by omega)
  rw [mvL_at (by rw [liftL_len]; exact hi), liftL_len]
  have hp : (((i : Int) - a) % (f.length : Int)).toNat < f.length := by omega
  have key : ∀ j, j < b.length → askOf (mvL f a) b b.length i j = askOf f b b.length (((i : Int) - a) % (f.length : Int)).toNat j := fun j hj => by
    rw [askOf_plc _ _ hj, askOf_plc _ _ hj, mvL_len, mvL_at (plc_lt hn), plc_cast hn]
    congr 3
    unfold plc
    rw [Int.toNat_of_nonneg e1, emod_sub_emod, Int.emod_add_emod]
    congr 2
    omega
  have h1 : ∀ M, (liftL (mvL f a) b)[i]?.getD 0 ≤ M ↔ (liftL f b)[(((i : Int) - a) % (f.length : Int)).toNat]?.getD 0 ≤ M := fun M => by
    rw [lift_le_iff hb (by rw [mvL_len]; exact hi), lift_le_iff hb hp]
    exact ⟨fun h j hj => by rw [← key j hj]; exact h j hj, fun h j hj => by rw [key j hj]; exact h j hj⟩
  exact Int.le_antisymm ((h1 _).2 (Int.le_refl _)) ((h1 _).1 (Int.le_refl _))
end
end

section
variable {L : List Int} {th : Int} {F : Int → List (Int × Int)}
/-- What a reading asks of a place. -/
def askB (L : List Int) (th : Int) (r : Int × Int × Int × Int) (x : Int) (ph : Nat) : Bool := inB (r.2.2.1 - highM L th r.2.1.toNat ph) (r.2.2.2 - highM L th r.2.1.toNat ph) x
theorem inB_up (s : Int × Int) (lo hi h x : Int) : inB (spanUp s lo hi h).1 (spanUp s lo hi h).2 x = (inB s.1 s.2 x && inB (lo - h) (hi - h) x) := by
  rw [Bool.eq_iff_iff, Bool.and_eq_true, inB_iff, inB_iff, inB_iff]
  simp only [spanUp]
  omega
theorem fit_up (r : Int × Int × Int × Int) (hF : ∀ d, F d = [] ∨ (F d).length = L.length) (hn : 1 ≤ L.length) {x d : Int} (hx : -1099511627776 ≤ x ∧ x ≤ 1099511627776) {ph : Nat} (hp : ph < L.length) :
    fitB (baseUp L th F r) x d ph = (fitB F x d ph && (!decide (r.1 = d) || askB L th r x ph)) := by
  unfold baseUp
  by_cases hd : r.1 = d
  · subst hd
    have h1 : ∀ xs : List (Int × Int), xs.length = L.length → (rowTo L th r xs L.length)[ph]?.getD (0, 0) = spanUp (xs[ph]?.getD (0, 0)) r.2.2.1 r.2.2.2 (highM L th r.2.1.toNat ph) := fun xs hxs => by
      simp [rowTo, hp]
    have h2 := addF_len r.1 hF
    have h3 : rowTo L th r (addF L.length F r.1 r.1) L.length ≠ [] := fun e => by
      have := congrArg List.length e
      rw [rowTo_len, List.length_nil] at this
      omega
    have h4 : fitB F x r.1 ph = inB ((addF L.length F r.1 r.1)[ph]?.getD (0, 0)).1 ((addF L.length F r.1 r.1)[ph]?.getD (0, 0)).2 x := by
      unfold fitB addF
      by_cases e : F r.1 = []
      · rw [if_pos e, upd_at, decide_eq_true e, Bool.true_or]
        have : (infS L.length)[ph]?.getD (0, 0) = (-1099511627776, 1099511627776) := by simp [infS, hp]
        rw [this]
        exact (inB_iff.2 hx).symm
      · rw [if_neg e, decide_eq_false e, Bool.false_or]
    rw [h4]
    unfold fitB
    rw [upd_at, decide_eq_false h3, h1 _ h2, inB_up, decide_eq_true rfl]
    rfl
  · have h1 : ∀ ys : List (Int × Int), updM' (addF L.length F r.1) r.1 ys d = F d := fun ys => by
      unfold updM'
      rw [if_neg (fun e => hd e.symm)]
      unfold addF
      split
      · unfold updM'
        rw [if_neg (fun e => hd e.symm)]
      · rfl
    unfold fitB
    rw [h1, decide_eq_false hd]
    simp
theorem up_ne (r : Int × Int × Int × Int) (hn : 1 ≤ L.length) (d : Int) : baseUp L th F r d ≠ [] ↔ F d ≠ [] ∨ r.1 = d := by
  unfold baseUp
  by_cases hd : r.1 = d
  · subst hd
    rw [upd_at]
    refine ⟨fun _ => .inr rfl, fun _ e => ?_⟩
    have := congrArg List.length e
    rw [rowTo_len, List.length_nil] at this
    omega
  · have : updM' (addF L.length F r.1) r.1 (rowTo L th r (addF L.length F r.1 r.1) L.length) d = F d := by
      unfold updM'
      rw [if_neg (fun e => hd e.symm)]
      unfold addF
      split
      · unfold updM'
        rw [if_neg (fun e => hd e.symm)]
      · rfl
    rw [this]
    exact ⟨fun h => .inl h, fun h => h.resolve_right hd⟩
end
theorem up_len {L : List Int} {th : Int} {F : Int → List (Int × Int)} (r : Int × Int × Int × Int) (hF : ∀ d, F d = [] ∨ (F d).length = L.length) : ∀ d, baseUp L th F r d = [] ∨ (baseUp L th F r d).length = L.length := fun d => by
  unfold baseUp
  by_cases hd : d = r.1
  · subst hd
    rw [upd_at]
    exact .inr (rowTo_len _ _ _ _ _)
  · unfold updM'
    rw [if_neg hd]
    unfold addF
    split
    · unfold updM'
      rw [if_neg hd]
      exact hF d
    · exact hF d
theorem fold_fit {L : List Int} {th : Int} (hn : 1 ≤ L.length) {x d : Int} (hx : -1099511627776 ≤ x ∧ x ≤ 1099511627776) {ph : Nat} (hp : ph < L.length) : ∀ (rd : List (Int × Int × Int × Int)) (F : Int → List (Int × Int)), (∀ d, F d = [] ∨ (F d).length = L.length) →
    fitB (rd.foldl (baseUp L th) F) x d ph = (fitB F x d ph && rd.all fun r => !decide (r.1 = d) || askB L th r x ph)
  | [], F, _ => by simp
  | r :: rd, F, hF => by
    rw [List.foldl_cons, fold_fit hn hx hp rd _ (up_len r hF), fit_up r hF hn hx hp, List.all_cons, Bool.and_assoc]
theorem fold_ne {L : List Int} {th : Int} (hn : 1 ≤ L.length) (d : Int) : ∀ (rd : List (Int × Int × Int × Int)) (F : Int → List (Int × Int)), rd.foldl (baseUp L th) F d ≠ [] ↔ F d ≠ [] ∨ ∃ r ∈ rd, r.1 = d
  | [], F => by simp
  | r :: rd, F => by
    rw [List.foldl_cons, fold_ne hn d rd, up_ne r hn, or_assoc]
    simp
theorem bases_fit {L : List Int} {th : Int} (hn : 1 ≤ L.length) {x d : Int} (hx : -1099511627776 ≤ x ∧ x ≤ 1099511627776) {ph : Nat} (hp : ph < L.length) (rd : List (Int × Int × Int × Int)) :
    fitB (basesF L th rd) x d ph = true ↔ ∀ r ∈ rd, r.1 = d → askB L th r x ph = true := by
  unfold basesF
  rw [fold_fit hn hx hp rd _ (fun _ => .inl rfl), Bool.and_eq_true, List.all_eq_true]
  constructor
  · rintro ⟨_, h⟩ r hr e
    have := h r hr
    rw [decide_eq_true e] at this
    simpa using this
  · intro h
    refine ⟨rfl, fun r hr => ?_⟩
    by_cases e : r.1 = d
    · rw [h r hr e, Bool.or_true]
    · rw [decide_eq_false e]; rfl
theorem bases_ne {L : List Int} {th : Int} (hn : 1 ≤ L.length) (d : Int) (rd : List (Int × Int × Int × Int)) : basesF L th rd d ≠ [] ↔ ∃ r ∈ rd, r.1 = d := by
  unfold basesF
  rw [fold_ne hn]
  simp
/-- The readings of the first cuts of a program. -/
theorem mem_see {p : PrT} {N : Int} {C : Nat} {r : Int × Int × Int × Int} : r ∈ seeL p N C ↔ ∃ j i : Nat, j < C ∧ i < p.ros.length ∧ r = ((j : Int), (i : Int), (cutL p j)[i]?.getD 0 - N, (cutL p j)[i]?.getD 0 + N) := by
  unfold seeL rowS
  rw [List.mem_flatMap]
  constructor
  · rintro ⟨j, hj, h⟩
    obtain ⟨i, hi, rfl⟩ := List.mem_map.1 h
    exact ⟨j, i, List.mem_range.1 hj, List.mem_range.1 hi, rfl⟩
  · rintro ⟨j, i, hj, hi, rfl⟩
    exact ⟨j, List.mem_range.2 hj, List.mem_map.2 ⟨i, List.mem_range.2 hi, rfl⟩⟩
theorem mul_eq_of {a b t : Int} (ht : 1 ≤ t) (h : t * a = t * b) : a = b := Int.eq_of_mul_eq_mul_left (by omega) h
/-- Without noise a phase fits a cut where the lift, turned by it, is the cut's shape. -/
theorem fit_see {p : PrT} (hg : Good p) {C : Nat} {c : Nat} (hc : c < C) (hC : C ≤ 12) {ph : Nat} (hp : ph < p.ros.length) :
    fitB (basesF (liftL p.ros p.rub) p.throw (seeL p 0 C)) (p.start + (c : Int) * p.adv) (c : Int) ph = true ↔ mvL (liftL p.ros p.rub) ph = mvL (liftL p.ros p.rub) (phaseZ p c) := by
  have hN := hg.nums
  have hll := liftL_len p.ros p.rub
  have hn := hN.n1
  have hb : -12000 ≤ (c : Int) * p.adv ∧ (c : Int) * p.adv ≤ 12000 := by
    have h1 := Int.mul_le_mul_of_nonneg_left hN.a.1 (show (0 : Int) ≤ c by omega)
    have h2 := Int.mul_le_mul_of_nonneg_left hN.a.2 (show (0 : Int) ≤ c by omega)
    omega
  have hs := hN.s
  rw [bases_fit (by omega) ⟨by omega, by omega⟩ (by omega)]
  have hat : ∀ i, i < p.ros.length → (mvL (liftL p.ros p.rub) ph)[i]?.getD 0 = (liftL p.ros p.rub)[(i + (liftL p.ros p.rub).length - ph) % (liftL p.ros p.rub).length]?.getD 0 := fun i hi => by
    rw [mvL_at (by omega)]
    congr 2
    rw [hll]
    have e : ((i : Int) - (ph : Int)) % (p.ros.length : Int) = (((i + p.ros.length - ph) % p.ros.length : Nat) : Int) := by
      rw [Int.natCast_emod, show ((i + p.ros.length - ph : Nat) : Int) = (i : Int) - ph + p.ros.length by omega, Int.add_emod_right]
    rw [e, Int.toNat_natCast]
  have hcut : ∀ i, i < p.ros.length → (cutL p c)[i]?.getD 0 = p.start + (c : Int) * p.adv + p.throw * (mvL (liftL p.ros p.rub) (phaseZ p c))[i]?.getD 0 := fun i hi => by
    rw [cutL_at hi, mvL_at (by omega), hll]
  constructor
  · intro h
    refine list_ext (by rw [mvL_len, mvL_len]) fun i hi => ?_
    rw [mvL_len] at hi
    have hi' : i < p.ros.length := by omega
    have h1 := h _ (mem_see.2 ⟨c, i, hc, hi', rfl⟩) rfl
    unfold askB highM at h1
    simp only [Int.toNat_natCast] at h1
    rw [inB_iff, ← hat i hi', hcut i hi'] at h1
    exact mul_eq_of hN.t.1 (by omega)
  · intro h r hr e
    obtain ⟨j, i, hj, hi, rfl⟩ := mem_see.1 hr
    simp only at e
    obtain rfl : j = c := by omega
    unfold askB highM
    simp only [Int.toNat_natCast]
    rw [inB_iff, ← hat i hi, hcut i hi, h]
    omega
theorem see_ne {p : PrT} (hg : Good p) {N : Int} {C : Nat} {th : Int} (d : Int) : basesF (liftL p.ros p.rub) th (seeL p N C) d ≠ [] ↔ ∃ c : Nat, d = (c : Int) ∧ c < C := by
  have hN := hg.nums
  have hll := liftL_len p.ros p.rub
  have hn := hN.n1
  rw [bases_ne (by omega)]
  constructor
  · rintro ⟨r, hr, rfl⟩
    obtain ⟨j, i, hj, hi, rfl⟩ := mem_see.1 hr
    exact ⟨j, rfl, hj⟩
  · rintro ⟨c, rfl, hc⟩
    exact ⟨_, mem_see.2 ⟨c, 0, hc, by omega, rfl⟩, rfl⟩
/-- The table of what fits the first cuts of a program. -/
def shapeB (p : PrT) (C : Nat) : List (List Bool) := (List.range C).map fun c : Nat => (List.range p.ros.length).map fun ph : Nat => decide (mvL (liftL p.ros p.rub) ph = mvL (liftL p.ros p.rub) (phaseZ p c))
theorem fits_shape {p : PrT} (hg : Good p) {C : Nat} (hC : C ≤ 12) : fitsB (basesF (liftL p.ros p.rub) p.throw (seeL p 0 C)) p.ros.length p.start p.adv C = shapeB p C := by
  unfold fitsB shapeB
  refine List.map_congr_left fun c hc => List.map_congr_left fun ph hp => ?_
  rw [Bool.eq_iff_iff, fit_see hg (List.mem_range.1 hc) hC (List.mem_range.1 hp), decide_eq_true_iff]
theorem fit_some {p : PrT} (hg : Good p) {C : Nat} (hC : C ≤ 12) {c : Nat} (hc : c < C) : fitTo (basesF (liftL p.ros p.rub) p.throw (seeL p 0 C)) (p.start + (c : Int) * p.adv) (c : Int) p.ros.length ≠ [] := by
  obtain ⟨h1, h2⟩ := phaseZ_bd hg.nums (c : Int)
  obtain ⟨k, hk⟩ : ∃ k : Nat, phaseZ p c = (k : Int) := ⟨(phaseZ p c).toNat, by omega⟩
  have hk2 : k < p.ros.length := by omega
  intro e
  have : (k : Int) ∈ fitTo (basesF (liftL p.ros p.rub) p.throw (seeL p 0 C)) (p.start + (c : Int) * p.adv) (c : Int) p.ros.length := by
    unfold fitTo
    refine List.mem_map.2 ⟨k, List.mem_filter.2 ⟨List.mem_range.2 hk2, ?_⟩, rfl⟩
    rw [fit_see hg hc hC hk2, hk]
  rw [e] at this
  cases this
end
open Go.RowKit

set_option maxRecDepth 100000 in
set_option maxHeartbeats 4000000 in
theorem sameProg_eq (p : PrT) (u v : PrV) (w : World) (hu : PrIs w u p) (hv : PrIs w v p) :
    Calls Try.prog 26 #[p.val u, p.val v] w fun e w' => e = .returned (.bool true) ∧ Ext w w' := by
  have H1 := Lib.hid fun (W : World) (x : Ext w W) => same_any u.r v.r p.ros p.ros W (hu.ros.ext x) (hv.ros.ext x)
  have H2 := Lib.hid fun (W : World) (x : Ext w W) => same_any u.b v.b p.rub p.rub W (hu.rub.ext x) (hv.rub.ext x)
  have H3 := Lib.hid fun (W : World) (x : Ext w W) => same_any u.s v.s p.sh p.sh W (hu.sh.ext x) (hv.sh.ext x)
  have e1 : (p.ros == p.ros) = true := beq_self_eq_true _
  have e2 : (p.rub == p.rub) = true := beq_self_eq_true _
  have e3 : (p.sh == p.sh) = true := beq_self_eq_true _
  rw [e1] at H1
  rw [e2] at H2
  rw [e3] at H3
  clear e1 e2 e3
  obtain ⟨ur, ub, us⟩ := u
  obtain ⟨vr, vb, vs⟩ := v
  obtain ⟨ros, rub, st, th, ad, sh⟩ := p
  obtain ⟨A1, n1, c1, rfl, -⟩ := hu.ros.open_
  obtain ⟨A2, n2, c2, rfl, -⟩ := hu.rub.open_
  obtain ⟨A3, n3, c3, rfl, -⟩ := hu.sh.open_
  obtain ⟨A4, n4, c4, rfl, -⟩ := hv.ros.open_
  obtain ⟨A5, n5, c5, rfl, -⟩ := hv.rub.open_
  obtain ⟨A6, n6, c6, rfl, -⟩ := hv.sh.open_
  simp only at H1 H2 H3 ⊢
  clear hu hv
  go_enter Try.func26, Try.ntmps26
  go_wp2_with fail
  refine lay_calls (fun W => BoxAt w.heap.size #[.slice A1 n1 c1, .slice A2 n2 c2, .int .i64 st, .int .i64 th, .int .i64 ad, .slice A3 n3 c3] 24 W ∧ BoxAt (w.heap.size + 1) #[.slice A4 n4 c4, .slice A5 n5 c5, .int .i64 st, .int .i64 th, .int .i64 ad, .slice A6 n6 c6] 24 W ∧ Ext w W) ⟨(BoxAt.new w _ _).ext ((Ext.refl _).alloc _), ?_, by (repeat' (first | with_reducible exact Ext.refl _ | with_reducible apply Ext.alloc | with_reducible apply Ext.drew | with_reducible apply Ext.drewN | with_reducible refine Ext.setCell ?_ ?_ _ | with_reducible apply Ext.step | with_reducible assumption | with_reducible exact Nat.le_refl _ | (simp; done) | (simp; omega)))⟩ ?_
  · have := BoxAt.new (w.alloc (.cells #[.slice A1 n1 c1, .slice A2 n2 c2, .int .i64 st, .int .i64 th, .int .i64 ad, .slice A3 n3 c3] 24)) #[.slice A4 n4 c4, .slice A5 n5 c5, .int .i64 st, .int .i64 th, .int .i64 ad, .slice A6 n6 c6] 24
    simpa using this
  rintro W0 ⟨b0, b1, x0⟩
  refine (H1.out _ x0).mono ?_
  rintro e W1 ⟨rfl, x1⟩
  have HB1 := Lib.hid (b0.ext x1)
  have HB2 := Lib.hid (b1.ext x1)
  have HX1 := Lib.hid (x0.trans x1)
  clear b0 b1 x0 x1
  have p1 := HB1.out.cell (i := 1) rfl
  have q1 := HB2.out.cell (i := 1) rfl
  have lp := cell_lt p1
  have lq := cell_lt q1
  go_wp2_with fail
  refine (H2.out _ HX1.out).mono ?_
  rintro e W2 ⟨rfl, x2⟩
  have HB3 := Lib.hid (HB1.out.ext x2)
  have HB4 := Lib.hid (HB2.out.ext x2)
  have HX2 := Lib.hid (HX1.out.trans x2)
  clear x2 p1 q1 lp lq
  have p1 := HB3.out.cell (i := 5) rfl
  have q1 := HB4.out.cell (i := 5) rfl
  have lp := cell_lt p1
  have lq := cell_lt q1
  go_wp2_with fail
  refine (H3.out _ HX2.out).mono ?_
  rintro e W3 ⟨rfl, x3⟩
  have HB5 := Lib.hid (HB3.out.ext x3)
  have HB6 := Lib.hid (HB4.out.ext x3)
  have HX3 := Lib.hid (HX2.out.trans x3)
  clear x3 p1 q1 lp lq
  have p2 := HB5.out.cell (i := 2) rfl
  have q2 := HB6.out.cell (i := 2) rfl
  have p3 := HB5.out.cell (i := 3) rfl
  have q3 := HB6.out.cell (i := 3) rfl
  have p4 := HB5.out.cell (i := 4) rfl
  have q4 := HB6.out.cell (i := 4) rfl
  have lp := cell_lt p2
  have lq := cell_lt q2
  go_wp2_with fail
  go_ret
  exact ⟨by simp, HX3.out⟩

def aliveP : PrT := ⟨[0, 3, 0, 0, 3, 0], [0], 100, 2, 10, [1]⟩
theorem aliveP_good : Good aliveP := ⟨by decide, by decide, by decide⟩
def aliveO : OneT := ⟨[0, 3, 0, 0, 3, 0], [0], 2, 10, seeL aliveP 0 2⟩
theorem aliveO_ok : OneOk aliveO := by
  refine ⟨aliveP_good.fine, by decide, by decide, by decide, ?_⟩
  have : ∀ r ∈ seeL aliveP 0 2, (0 ≤ r.1 ∧ r.1 ≤ 11) ∧ (0 ≤ r.2.1 ∧ r.2.1 ≤ ((6 : Nat) : Int) - 1) ∧ -300000 ≤ r.2.2.1 ∧ r.2.2.1 ≤ r.2.2.2 ∧ r.2.2.2 ≤ 300000 := by decide
  exact this
theorem aliveS : SimIs (shapeB aliveP 2) 6 1 0 [1] := by
  refine ⟨by decide, by decide, by decide, by decide, fun f h => by omega, fun s h1 h2 => by omega⟩
theorem aliveM : mvL [0, 3, 0, 0, 3, 0] ((0 : Nat) : Int) = [0, 3, 0, 0, 3, 0] := by decide

set_option maxRecDepth 100000 in
set_option maxHeartbeats 8000000 in
theorem alive09d_any (w : World) : Calls Try.prog 6 #[] w fun e w' => e = .returned (.bool true) ∧ Ext w w' := by
  have HSE := Lib.hid fun (v : PrV) (W : World) (h : PrIs W v aliveP) => see_any aliveP v 2 0 W h aliveP_good (by decide) (by decide) (by decide)
  have HSI := Lib.hid fun (hb hc : Nat) (va vb rv : Value) (W : World) (h : OneAt W hb 0 va vb rv aliveO) => (show Calls Try.prog 20 #[oneV hb 0 hc rv 2 10, .agg #[.int .i64 0, .int .i64 2, .int .i64 10, .int .i64 100, .int .i64 100], .int .i64 100] W (SimRet aliveP W) from by
    have hf := fits_shape aliveP_good (C := 2) (by decide)
    have := sim_one hb 0 hc va vb rv aliveO 100 1 W h aliveO_ok (by decide) _ rfl ((see_ne aliveP_good (C := 2) _).2 ⟨1, rfl, by decide⟩) (fun d hd => by
      obtain ⟨c, rfl, hc⟩ := (see_ne aliveP_good (C := 2) _).1 hd
      omega) (by decide) (fun c hc => fit_some aliveP_good (C := 2) (by decide) (by omega)) 1 0 [1] (by
        have e : fitsB (basesF (liftL aliveO.ros aliveO.rub) aliveO.th aliveO.rd) aliveO.ros.length 100 aliveO.ad (1 + 1) = shapeB aliveP 2 := hf
        rw [e]
        exact aliveS)
    rw [show mvL aliveO.ros ((0 : Nat) : Int) = [0, 3, 0, 0, 3, 0] from aliveM] at this
    exact this)
  have HSP := Lib.hid fun (u v : PrV) (W : World) (hu : PrIs W u aliveP) (hv : PrIs W v aliveP) => sameProg_eq aliveP u v W hu hv
  go_enter Try.func6, Try.ntmps6
  go_wp2_with fail
  refine lay_calls (fun W => BoxAt (w.heap.size + 1 + 1 + 1) #[.slice (some ⟨w.heap.size, 0, none⟩) 6 6, .slice (some ⟨w.heap.size + 1, 0, none⟩) 1 1, .int .i64 100, .int .i64 2, .int .i64 10, .slice (some ⟨w.heap.size + 1 + 1, 0, none⟩) 1 1] 24 W ∧
    PrIs W ⟨.slice (some ⟨w.heap.size, 0, none⟩) 6 6, .slice (some ⟨w.heap.size + 1, 0, none⟩) 1 1, .slice (some ⟨w.heap.size + 1 + 1, 0, none⟩) 1 1⟩ aliveP ∧ Ext w W) ⟨?_, ⟨?_, ?_, ?_⟩, by (repeat' (first | with_reducible exact Ext.refl _ | with_reducible apply Ext.alloc | with_reducible apply Ext.drew | with_reducible apply Ext.drewN | with_reducible refine Ext.setCell ?_ ?_ _ | with_reducible apply Ext.step | with_reducible assumption | with_reducible exact Nat.le_refl _ | (simp; done) | (simp; omega)))⟩ ?_
  · have := BoxAt.new (((w.alloc (.cells #[.int .i64 0, .int .i64 3, .int .i64 0, .int .i64 0, .int .i64 3, .int .i64 0] 3)).alloc (.cells #[.int .i64 0] 3)).alloc (.cells #[.int .i64 1] 3)) #[.slice (some ⟨w.heap.size, 0, none⟩) 6 6, .slice (some ⟨w.heap.size + 1, 0, none⟩) 1 1, .int .i64 100, .int .i64 2, .int .i64 10, .slice (some ⟨w.heap.size + 1 + 1, 0, none⟩) 1 1] 24
    simp only [World.size_alloc] at this
    exact this
  · have := EK.Own.lit (K := intK) (B := w.heap.size) w #[.int .i64 0, .int .i64 3, .int .i64 0, .int .i64 0, .int .i64 3, .int .i64 0] [0, 3, 0, 0, 3, 0] rfl (Nat.le_refl _) (by decide)
    exact (intK_own.1 this).isI.ext (((Ext.refl _).alloc _).alloc _ |>.alloc _)
  · have := EK.Own.lit (K := intK) (B := w.heap.size) (w.alloc (.cells #[.int .i64 0, .int .i64 3, .int .i64 0, .int .i64 0, .int .i64 3, .int .i64 0] 3)) #[.int .i64 0] [0] rfl (by simp) (by decide)
    simp only [World.size_alloc] at this
    exact (intK_own.1 this).isI.ext (((Ext.refl _).alloc _).alloc _)
  · have := EK.Own.lit (K := intK) (B := w.heap.size) ((w.alloc (.cells #[.int .i64 0, .int .i64 3, .int .i64 0, .int .i64 0, .int .i64 3, .int .i64 0] 3)).alloc (.cells #[.int .i64 0] 3)) #[.int .i64 1] [1] rfl (by simp; omega) (by decide)
    simp only [World.size_alloc] at this
    exact (intK_own.1 this).isI.ext ((Ext.refl _).alloc _)
  rintro W0 ⟨b0, pr0, x0⟩
  refine (HSE.out _ _ pr0).mono ?_
  rintro e W1 ⟨rv, rfl, own1, x1⟩
  obtain ⟨A1, n1, c1, rfl⟩ := own1.shape
  have HX1 := Lib.hid (x0.trans x1)
  have HB1 := Lib.hid (b0.ext x1)
  have HP1 := Lib.hid (pr0.ext x1)
  have HO1 := Lib.hid own1
  have p0 := HB1.out.cell (i := 0) rfl
  have p1 := HB1.out.cell (i := 1) rfl
  have lp := cell_lt p0
  clear x0 b0 pr0 x1 own1
  go_wp2_with fail
  refine lay_calls (fun W => BoxAt W1.heap.size #[.slice (some ⟨w.heap.size, 0, none⟩) 6 6, .slice (some ⟨w.heap.size + 1, 0, none⟩) 1 1] 62 W ∧ Ext W1 W) ⟨(BoxAt.new W1 _ _).ext ((Ext.refl _).alloc _), by (repeat' (first | with_reducible exact Ext.refl _ | with_reducible apply Ext.alloc | with_reducible apply Ext.drew | with_reducible apply Ext.drewN | with_reducible refine Ext.setCell ?_ ?_ _ | with_reducible apply Ext.step | with_reducible assumption | with_reducible exact Nat.le_refl _ | (simp; done) | (simp; omega)))⟩ ?_
  rintro W2 ⟨b2, x2⟩
  have HX2 := Lib.hid x2
  refine (HSI.out W1.heap.size 1 _ _ _ W2 ⟨b2.cell (i := 0) rfl, b2.cell (i := 1) rfl, HP1.out.ros.ext x2, HP1.out.rub.ext x2, HO1.out.is.ext x2⟩).mono ?_
  rintro e W3 ⟨v3, rfl, pr3, x3⟩
  have HX3 := Lib.hid (x2.trans x3)
  have HP3 := Lib.hid pr3
  obtain ⟨vr, vb, vs⟩ := v3
  obtain ⟨Ar, nr, cr, rfl, -⟩ := pr3.ros.open_
  obtain ⟨Ab, nb, cb, rfl, -⟩ := pr3.rub.open_
  obtain ⟨As, ns, cs, rfl, -⟩ := pr3.sh.open_
  clear b2 x2 x3 pr3 p0 p1 lp
  have hb3 := HB1.out.ext HX3.out
  have HB3 := Lib.hid hb3
  have p0 := hb3.cell (i := 0) rfl
  have p1 := hb3.cell (i := 1) rfl
  have p2 := hb3.cell (i := 2) rfl
  have p3 := hb3.cell (i := 3) rfl
  have p4 := hb3.cell (i := 4) rfl
  have p5 := hb3.cell (i := 5) rfl
  have lp := cell_lt p0
  clear hb3
  unfold PrT.val
  go_wp2_with fail
  refine (HSP.out ⟨.slice Ar nr cr, .slice Ab nb cb, .slice As ns cs⟩ ⟨_, _, _⟩ _ (HP3.out.ext ((Ext.refl _).alloc _)) (HP1.out.ext (HX3.out.alloc _))).mono ?_
  rintro e W4 ⟨rfl, x4⟩
  have HX4 := Lib.hid (HX1.out.trans ((HX3.out.alloc _).trans x4))
  clear x4 p0 p1 p2 p3 p4 p5 lp
  go_wp2_with fail
  go_ret
  exact ⟨rfl, HX4.out⟩
end Go.Proofs.Ytkjgcmdabelohaa
