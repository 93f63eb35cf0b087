/- barleycornref03.weight and touched. Condition: slices read as lists, a rosette and a rubber. -/
import Derived.Test.YtaaceadcnnfngaaRAll
import Derived.Test.YtaaceadcnnfngaaRRef
namespace Go.Proofs.Ytaaceadcnnfngaa
open Go.RowKit

theorem weight_any (g : Int) (h : Bool) (w : World) : Calls Try.prog 97 #[.int .i64 g, .bool h] w fun e w' => e = .returned (.int .i64 (if h then 1 else g)) ∧ w = w' := by
  cases h
  all_goals
    go_enter Try.func97, Try.ntmps97
    go_wp2
    go_ret
    exact ⟨rfl, rfl⟩

/-- One of the high steps is touched. -/
def hitH (gs ls ys : List Int) (q hi j : Nat) : Bool := hi.testBit j && decide (askOf gs ys ys.length (midAt ls ys q) j = ls[midAt ls ys q]?.getD 0)
def tchB (gs ls ys : List Int) (q hi : Nat) : Bool := (List.range ys.length).any (hitH gs ls ys q hi)

set_option maxRecDepth 100000 in
set_option maxHeartbeats 4000000 in
theorem refTouched_any (u v x : Value) (ls ys gs : List Int) (q hi : Nat) (w : World) (hu : IsI w u ls) (hv : IsI w v ys) (hx : IsI w x gs) (hf : Fine ls ys) (hg : Fine gs ys) (hl : gs.length = ls.length) (hq : q ≤ 1000) (hh : hi < 2 ^ 8) :
    Calls Try.prog 98 #[u, v, x, .int .i64 ((q : Int) - ((ys.length : Int) - 1) / 2), .int .i64 hi] w fun e w' => e = .returned (.bool (tchB gs ls ys q hi)) ∧ Ext w w' := by
  obtain ⟨A, n, c, rfl, hc0, hr, hn⟩ := hu.open_
  obtain ⟨A', m, c', rfl, hd0, hs, hm⟩ := hv.open_
  obtain ⟨A2, n2, c2, rfl, hd2, ht, hm2⟩ := hx.open_
  have HLX := Lib.hid hr.len
  have HLY := Lib.hid hs.len
  obtain rfl : n = n2 := by rw [← ht.len, hl, HLX.out]
  have f1 := hf.lo
  have f2 := hf.hi
  have f3 := hf.odd
  have f4 := hf.le31
  rw [HLX.out] at f1 f2
  rw [HLY.out] at f3 f4
  have HLG := Lib.hid hl
  have HF := Lib.hid hf
  have HFG := Lib.hid hg
  have HR := Lib.hid hr
  have HS := Lib.hid hs
  have HT := Lib.hid ht
  have m2 : 0 ≤ (m : Int) / 2 := by omega
  have m3 : (m : Int) / 2 ≤ 15 := by omega
  have HM := Lib.hid (show (m : Int) = 2 * ((m : Int) / 2) + 1 by omega)
  obtain ⟨p, hp⟩ : ∃ p : Int, (q : Int) - ((ys.length : Int) - 1) / 2 = p := ⟨_, rfl⟩
  have hp1 : -1000 ≤ p ∧ p ≤ 1000 := by rw [HLY.out] at hp; omega
  obtain ⟨hp1, hp2⟩ := hp1
  obtain ⟨mid, hmid, hmn⟩ := emod_nat p (n := n) (by omega)
  have HMID := Lib.hid (show midAt ls ys q = mid by unfold midAt; rw [hp, HLX.out, hmid]; rfl)
  rw [hp]
  have HMD := Lib.hid hmid
  have HA0 := Lib.hid fun W => refAround_any p n W (by omega) (by omega)
  rw [hmid] at HA0
  obtain ⟨bm, om, rfl, _, hcm⟩ := HR.out.at_ mid hmn
  have HCM := Lib.hid hcm
  have ⟨l1, l2⟩ := HF.out.hx mid
  clear hu hv hx hr hs ht hf hg f3 hp hmid hcm
  go_enter Try.func98, Try.ntmps98
  go_wp2_with fail
  generalize hW : (m : Int) / 2 = W2 at *
  have HW := Lib.hid hW
  clear hW
  go_loopw [13] (fun jj W => ∃ (k : Nat) (J : Int), k ≤ m ∧ jj = .int .i64 J ∧ Hid (J = (k : Int) - W2) ∧ -W2 ≤ J ∧ J ≤ m - W2 ∧ Ext w W ∧ Hid (∀ k', k' < k → hitH gs ls ys q hi k' = false)) (fun jj _ => ((m : Int) - W2 - intOf jj).toNat)
  case atStart => exact ⟨0, -W2, by omega, rfl, Lib.hid (by omega), by omega, by omega, Ext.refl _, Lib.hid fun k' h => absurd h (by omega)⟩
  case round =>
    obtain ⟨k, J, hk, rfl, HJ, hJ1, hJ2, hxw, HN⟩ := hrel
    have HX := Lib.hid hxw
    clear hxw
    by_cases hlk : k < m
    · have hJ3 : J ≤ W2 := by have := HJ.out; have := HM.out; omega
      obtain ⟨i, hi', hin⟩ := emod_nat (p + J) (n := n) (by omega)
      have HA1 := Lib.hid fun W => refAround_any (p + J) n W (by omega) (by omega)
      rw [hi'] at HA1
      have hask : askOf gs ys ys.length mid k = gs[i]?.getD 0 - ys[k]?.getD 0 := by
        rw [askOf_plc gs ys (by rw [HLY.out]; exact hlk)]
        have : plc gs.length mid ((k : Int) - (ys.length : Int) / 2) = i := by
          unfold plc
          rw [HLG.out, HLX.out, ← HMD.out, Int.emod_add_emod, HLY.out, HW.out, ← HJ.out, hi']
          rfl
        rw [this]
      have HHIT := Lib.hid (show hitH gs ls ys q hi k = (hi.testBit k && decide (gs[i]?.getD 0 - ys[k]?.getD 0 = ls[mid]?.getD 0)) by rw [hitH, HMID.out, hask])
      obtain ⟨b1, o1, rfl, _, hc1⟩ := HT.out.at_ i hin
      obtain ⟨b2, o2, rfl, _, hc2⟩ := HS.out.at_ k hlk
      have c1' := HX.out.cell_some hc1
      have c2' := HX.out.cell_some hc2
      have c3' := HX.out.cell_some HCM.out
      have hwj : W2 + J = (k : Int) := by have := HJ.out; omega
      have ⟨g1, g2⟩ := HFG.out.hx i
      have ⟨y1, y2⟩ := HFG.out.hy k
      have s5 : IntKind.u64.wrap (k : Int) = (k : Int) := by rw [IntKind.wrap_u64]; omega
      obtain ⟨fq, hfq⟩ : ∃ fq, hi / 2 ^ k = fq := ⟨_, rfl⟩
      have hfl : fq < 256 := by rw [← hfq]; exact Nat.lt_of_le_of_lt (Nat.div_le_self _ _) hh
      have s7 : (hi : Int) / 2 ^ k = (fq : Int) := by rw [← hfq, Int.natCast_ediv]; simp
      have HBT := Lib.hid (show hi.testBit k = decide (fq % 2 = 1) by rw [Nat.testBit_eq_decide_div_mod_eq, hfq])
      rw [HBT.out] at HHIT
      clear hi' hask hc1 hc2 hfq
      generalize gs[i]?.getD 0 = gi at *
      generalize ys[k]?.getD 0 = yk at *
      generalize ls[mid]?.getD 0 = lm at *
      by_cases hb : fq % 2 = 1
      · have hb1 : ((fq : Int) % 2 == 1) = true := by simp; omega
        by_cases hd : gi - yk = lm
        · have hd1 : (gi - yk == lm) = true := by simpa using hd
          have HT1 := Lib.hid (show tchB gs ls ys q hi = true by
            rw [tchB, List.any_eq_true]
            exact ⟨k, List.mem_range.2 (by rw [HLY.out]; exact hlk), by rw [HHIT.out, decide_eq_true hb, decide_eq_true hd]; rfl⟩)
          clear hd hb
          go_wp2_with fail
          go_quiet ((first | (go_at_call 91; with_reducible exact quiet_same (HA1.out _)) | (go_at_call 91; with_reducible exact quiet_same (HA0.out _))))
          go_wp2_with fail
          go_ret
          exact ⟨ret_b HT1.out.symm, HX.out.drewN _⟩
        · have hd1 : (gi - yk == lm) = false := by simpa using hd
          have HDD := Lib.hid hd
          clear hd hb
          go_wp2_with fail
          go_quiet ((first | (go_at_call 91; with_reducible exact quiet_same (HA1.out _)) | (go_at_call 91; with_reducible exact quiet_same (HA0.out _))))
          go_wp2_with fail
          go_roundw
          case rel =>
            refine ⟨k + 1, J + 1, by omega, rfl, Lib.hid (by have := HJ.out; omega), by omega, by omega, HX.out.drewN _, Lib.hid fun k' h => ?_⟩
            rcases Nat.eq_or_lt_of_le (Nat.le_of_lt_succ h) with rfl | h
            · rw [HHIT.out]; rw [decide_eq_false HDD.out, Bool.and_false]
            · exact HN.out k' h
          case measure => simp [intOf]; omega
      · have hb1 : ((fq : Int) % 2 == 1) = false := by simp; omega
        have HBB := Lib.hid hb
        clear hb
        go_wp2_with fail
        go_quiet ((first | (go_at_call 91; with_reducible exact quiet_same (HA1.out _)) | (go_at_call 91; with_reducible exact quiet_same (HA0.out _))))
        go_wp2_with fail
        go_roundw
        case rel =>
          refine ⟨k + 1, J + 1, by omega, rfl, Lib.hid (by have := HJ.out; omega), by omega, by omega, HX.out.drewN _, Lib.hid fun k' h => ?_⟩
          rcases Nat.eq_or_lt_of_le (Nat.le_of_lt_succ h) with rfl | h
          · rw [HHIT.out]; rw [decide_eq_false HBB.out, Bool.false_and]
          · exact HN.out k' h
        case measure => simp [intOf]; omega
    · obtain rfl : k = m := by omega
      have hJ3 : ¬ J ≤ W2 := by have := HJ.out; have := HM.out; omega
      have HT1 := Lib.hid (show tchB gs ls ys q hi = false by
        rw [tchB, List.any_eq_false]
        intro k' h
        rw [HN.out k' (by have := List.mem_range.1 h; rw [HLY.out] at this; exact this)]
        decide)
      go_wp2_with fail
      go_ret
      exact ⟨ret_b HT1.out.symm, HX.out⟩
end Go.Proofs.Ytaaceadcnnfngaa
