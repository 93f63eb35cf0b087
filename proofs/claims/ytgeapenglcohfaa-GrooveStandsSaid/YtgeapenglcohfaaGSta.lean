/- GrooveStands: the law's near; a work's spots, changed one by one. No condition. -/
import Derived.Test.YtgeapenglcohfaaGTwinP
import Derived.Test.YtgeapenglcohfaaGWorP
namespace Go.Proofs.Ytgeapenglcohfaa
open Go.RowKit

def nearV (k n : Int) : Int := min (max k (-n)) n
set_option maxHeartbeats 1000000 in
theorem lawNear_any (k n : Int) (w : World) (h0 : 0 ≤ n) (h1 : n ≤ 1000000) : Calls Try.prog 58 #[.int .i64 k, .int .i64 n] w fun e w' => e = .returned (.int .i64 (nearV k n)) ∧ Ext w w' := by
  have hw : IntKind.i64.wrap (-n) = -n := IntWalk.i64_in _ (by omega)
  go_enter Try.func58, Try.ntmps58
  go_wp2_with fail
  all_goals go_ret
  all_goals exact ⟨ret_i (by unfold nearV; omega), Ext.refl _⟩
theorem near_sym {xs ys : List (Int × Int)} {r : Int} (h : nearB xs ys r = false) : nearB ys xs r = false := by
  cases hn : nearB ys xs r with
  | false => rfl
  | true =>
    exfalso
    unfold nearB at h hn
    rw [decide_eq_false_iff_not] at h
    rw [decide_eq_true_eq] at hn
    have hl := far_le (xs := xs) (ys := ys) (xs' := ys) (ys' := xs) fun x y u v hx hy => ⟨u, v, x, y, hy, hx, by rw [szQ_sym]; exact Rat.le_refl⟩
    have p1 := far_pos xs ys
    have p2 := far_pos ys xs
    apply h
    have h1 := Int.mul_lt_mul_of_pos_right hn p1
    have h2 : (farL xs ys).1 * (farL ys xs).2 < r * r * (farL xs ys).2 * (farL ys xs).2 := by
      have e : r * r * (farL ys xs).2 * (farL xs ys).2 = r * r * (farL xs ys).2 * (farL ys xs).2 := by grind
      omega
    exact Int.lt_of_mul_lt_mul_right h2 (by omega)
/-- A spot that is wrong by at most p, and a spot still. -/
def WrS (p : Int) (a b : Int × Int) : Prop := ((a.1 - p ≤ b.1 ∧ b.1 ≤ a.1 + p) ∧ a.2 - p ≤ b.2 ∧ b.2 ≤ a.2 + p) ∧ spotOk b = true
theorem nearV_wr {x e p : Int} (hx : -10000 ≤ x ∧ x ≤ 10000) (hp : 0 ≤ p) : (x - p ≤ nearV (x + nearV e p) 10000 ∧ nearV (x + nearV e p) 10000 ≤ x + p) ∧ -10000 ≤ nearV (x + nearV e p) 10000 ∧ nearV (x + nearV e p) 10000 ≤ 10000 := by
  unfold nearV
  omega
theorem wrS_near {p x y e f : Int} (h : spotOk (x, y) = true) (hp : 0 ≤ p) : WrS p (x, y) (nearV (x + nearV e p) 10000, nearV (y + nearV f p) 10000) := by
  unfold spotOk at h
  rw [Bool.and_eq_true, inB_iff, inB_iff] at h
  obtain ⟨a1, a2⟩ := nearV_wr (e := e) h.1 hp
  obtain ⟨b1, b2⟩ := nearV_wr (e := f) h.2 hp
  refine ⟨⟨a1, b1⟩, ?_⟩
  unfold spotOk
  rw [Bool.and_eq_true, inB_iff, inB_iff]
  exact ⟨a2, b2⟩
/-- The spots that were come by are wrong by the machine's play at most; the others are as they were. -/
structure ChgIs (k : WkT) (cs : List CutT) (i m : Nat) : Prop where
  len : cs.length = k.cuts.length
  rest : ∀ q (h : q < cs.length) (h' : q < k.cuts.length), cs[q].2 = k.cuts[q].2 ∧ cs[q].1.length = k.cuts[q].1.length
  at_ : ∀ q (h : q < cs.length) (h' : q < k.cuts.length) t (a : t < cs[q].1.length) (b : t < k.cuts[q].1.length), ((q < i ∨ (q = i ∧ t < m)) → WrS k.play k.cuts[q].1[t] cs[q].1[t]) ∧ (¬ (q < i ∨ (q = i ∧ t < m)) → cs[q].1[t] = k.cuts[q].1[t])
theorem ChgIs.start (k : WkT) : ChgIs k k.cuts 0 0 := ⟨rfl, fun _ _ _ => ⟨rfl, rfl⟩, fun _ _ _ _ _ _ => ⟨fun h => by omega, fun _ => rfl⟩⟩
theorem cut_spot {k : WkT} (hb : workB k = true) {q : Nat} (h : q < k.cuts.length) {t : Nat} (b : t < k.cuts[q].1.length) : spotOk k.cuts[q].1[t] = true := by
  have := (workB_iff.1 hb).2.2.2 _ (List.getElem_mem h)
  have h1 := cutB_line this
  unfold lineB at h1
  rw [Bool.and_eq_true, List.all_eq_true] at h1
  exact h1.1 _ (List.getElem_mem b)
theorem cut_len {k : WkT} (hb : workB k = true) {q : Nat} (h : q < k.cuts.length) : 1 ≤ k.cuts[q].1.length ∧ k.cuts[q].1.length ≤ 12 := by
  have := (workB_iff.1 hb).2.2.2 _ (List.getElem_mem h)
  have h1 := (lineB_iff.1 (cutB_line this)).2
  omega
theorem play_nn {k : WkT} (hb : workB k = true) : 0 ≤ k.play ∧ k.play ≤ 100 := by
  obtain ⟨_, h, _⟩ := fields_bd (workB_iff.1 hb).2.1
  exact h
theorem ChgIs.skip {k : WkT} {cs : List CutT} {i m : Nat} (hb : workB k = true) (h : ChgIs k cs i m) : ChgIs k cs i (m + 1) := by
  refine ⟨h.len, h.rest, fun q a b t c d => ⟨fun hv => ?_, fun hv => (h.at_ q a b t c d).2 (by omega)⟩⟩
  by_cases hw : q < i ∨ (q = i ∧ t < m)
  · exact (h.at_ q a b t c d).1 hw
  · rw [(h.at_ q a b t c d).2 hw]
    have := (play_nn hb).1
    exact ⟨⟨⟨by omega, by omega⟩, by omega, by omega⟩, cut_spot hb b d⟩
theorem ChgIs.put {k : WkT} {cs : List CutT} {i m : Nat} (h : ChgIs k cs i m) (hi : i < cs.length) (hi' : i < k.cuts.length) (_ : m < cs[i].1.length) (hm' : m < k.cuts[i].1.length) (y : Int × Int) (hy : WrS k.play k.cuts[i].1[m] y) : ChgIs k (cs.set i (cs[i].1.set m y, cs[i].2)) i (m + 1) := by
  have hat : ∀ q (a : q < (cs.set i (cs[i].1.set m y, cs[i].2)).length), (cs.set i (cs[i].1.set m y, cs[i].2))[q] = if i = q then (cs[i].1.set m y, cs[i].2) else cs[q]'(by simpa using a) := fun q a => List.getElem_set ..
  refine ⟨by simpa using h.len, fun q a b => ?_, fun q a b t c d => ?_⟩
  · rw [hat]
    split
    · rename_i e
      subst e
      simpa using h.rest i hi hi'
    · exact h.rest q (by simpa using a) b
  · by_cases e : i = q
    · subst e
      have hg : ∀ (c' : t < (cs[i].1.set m y).length), (cs[i].1.set m y)[t] = if m = t then y else cs[i].1[t]'(by simpa using c') := fun c' => List.getElem_set ..
      have hc' : t < (cs[i].1.set m y).length := by
        have := c
        simp only [hat, if_true] at this
        exact this
      have e2 : (cs.set i (cs[i].1.set m y, cs[i].2))[i].1[t] = (cs[i].1.set m y)[t] := by simp only [hat, if_true]
      rw [e2, hg]
      by_cases em : m = t
      · subst em
        rw [if_pos rfl]
        exact ⟨fun _ => hy, fun hv => by omega⟩
      · rw [if_neg em]
        exact ⟨fun hv => (h.at_ i hi hi' t (by simpa using hc') d).1 (by omega), fun hv => (h.at_ i hi hi' t (by simpa using hc') d).2 (by omega)⟩
    · have e2 : (cs.set i (cs[i].1.set m y, cs[i].2))[q] = cs[q]'(by simpa using a) := by rw [hat, if_neg e]
      have hc' : t < (cs[q]'(by simpa using a)).1.length := by rw [← e2]; exact c
      have e3 : (cs.set i (cs[i].1.set m y, cs[i].2))[q].1[t] = (cs[q]'(by simpa using a)).1[t] := by simp only [e2]
      rw [e3]
      exact ⟨fun hv => (h.at_ q (by simpa using a) b t hc' d).1 (by omega), fun hv => (h.at_ q (by simpa using a) b t hc' d).2 (by omega)⟩
theorem ChgIs.next {k : WkT} {cs : List CutT} {i m : Nat} (h : ChgIs k cs i m) (hm : ∀ (h' : i < k.cuts.length), k.cuts[i].1.length ≤ m) : ChgIs k cs (i + 1) 0 := by
  refine ⟨h.len, h.rest, fun q a b t c d => ?_⟩
  have key : q = i → t < m := fun e => by
    subst e
    have := hm b
    omega
  exact ⟨fun hv => (h.at_ q a b t c d).1 (by omega), fun hv => (h.at_ q a b t c d).2 (by omega)⟩
theorem ChgIs.wrong {k : WkT} {cs : List CutT} (h : ChgIs k cs k.cuts.length 0) {q : Nat} (hq : q < k.cuts.length) : Wrong k.play (cutAt k q).1 (cs[q]'(by rw [h.len]; exact hq)).1 := by
  rw [cutAt_eq hq]
  have hq' : q < cs.length := by rw [h.len]; exact hq
  exact ⟨(h.rest q hq' hq).2.symm, fun t a b => ((h.at_ q hq' hq t b a).1 (.inl hq)).1⟩
theorem ChgIs.line {k : WkT} {cs : List CutT} (hb : workB k = true) (h : ChgIs k cs k.cuts.length 0) {q : Nat} (hq : q < k.cuts.length) : lineB (cs[q]'(by rw [h.len]; exact hq)).1 = true := by
  have hq' : q < cs.length := by rw [h.len]; exact hq
  have hl := (h.rest q hq' hq).2
  have h12 := cut_len hb hq
  unfold lineB
  rw [Bool.and_eq_true, List.all_eq_true, inB_iff]
  refine ⟨fun s hs => ?_, by omega, by omega⟩
  obtain ⟨t, ht, rfl⟩ := List.mem_iff_getElem.1 hs
  exact ((h.at_ q hq' hq t ht (by omega)).1 (.inl hq)).2
/-- Of two cuts that may not cross, the changed lines are apart. -/
theorem ChgIs.apart {k : WkT} {cs : List CutT} (hb : workB k = true) (h0 : wallsL k = []) (h : ChgIs k cs k.cuts.length 0) {i j : Nat} (hji : j < i) (hi : i < k.cuts.length) (hc : ((cutAt k i).2.2 && (cutAt k j).2.2) = false) :
    apE (cs[i]'(by rw [h.len]; exact hi)).1 (cs[j]'(by rw [h.len]; omega)).1 (reachK k (cutAt k i) + reachK k (cutAt k j) + k.wall) = 0 ∧ apB (cs[i]'(by rw [h.len]; exact hi)).1 (cs[j]'(by rw [h.len]; omega)).1 (reachK k (cutAt k i) + reachK k (cutAt k j) + k.wall) = true := by
  have hj : j < k.cuts.length := by omega
  obtain ⟨_, c1, c2⟩ := cutAt_bd hb hi
  obtain ⟨_, d1, d2⟩ := cutAt_bd hb hj
  obtain ⟨q1, q2⟩ := reachK_bd hb c1 c2
  obtain ⟨r1, r2⟩ := reachK_bd hb d1 d2
  obtain ⟨⟨w1, w2⟩, _⟩ := fields_bd (workB_iff.1 hb).2.1
  have hin : inB 0 30000 (reachK k (cutAt k i) + reachK k (cutAt k j) + k.wall) = true := inB_iff.2 ⟨by omega, by omega⟩
  have hs := stands hb h0 hji hi (by rw [Bool.and_comm]; exact hc) (h.wrong hj) (h.wrong hi)
  have hs2 := near_sym hs
  rw [show reachK k (cutAt k j) + reachK k (cutAt k i) + k.wall = reachK k (cutAt k i) + reachK k (cutAt k j) + k.wall by omega] at hs2
  unfold apE apB
  rw [h.line hb hi, h.line hb hj, hin, hs2]
  exact ⟨rfl, rfl⟩
end Go.Proofs.Ytgeapenglcohfaa
