/- rosette.Count's function value: a count is added to what a window leads to. Condition: a rosette and a rubber; the map lies in memory as a list says. -/
import Derived.Test.YtaaceadcnnfngaaCMapP
namespace Go.Proofs.Ytaaceadcnnfngaa
open Go.RowKit Go.ChangeMaps

/-- Which drops touch, by bits, where the rubber's middle is half the rubber before q. -/
def midAt (ls ys : List Int) (q : Nat) : Nat := (((q : Int) - ((ys.length : Int) - 1) / 2) % (ls.length : Int)).toNat
def tbAt (gs ls ys : List Int) (q : Nat) : Nat := touchB gs ys (midAt ls ys q) (ls[midAt ls ys q]?.getD 0)
def bitsX (m h lb : Nat) : Nat := lb ||| h * 2 ^ m
def stepA (m q h fa : Nat) : Nat := if q < m then fa ||| h * 2 ^ q else fa
def stepB (m h lb : Nat) : Nat := bitsX m h lb / 2
def okX (gs ls ys : List Int) (q h lb : Nat) : Bool := !(decide (ys.length - 1 ≤ q) && (tbAt gs ls ys q &&& bitsX (ys.length - 1) h lb) == 0)
def addE (gs ls ys : List Int) (q h fa lb : Nat) (c : Int) (clock : Nat) (es : List ME) : List ME :=
  if okX gs ls ys q h lb then setE (stepA (ys.length - 1) q h fa) (stepB (ys.length - 1) h lb) ((lookE (stepA (ys.length - 1) q h fa) (stepB (ys.length - 1) h lb) es + c) % 1000000007) clock es else es

/-- What the call leaves: the map with the count added; all else as it was. -/
def AddPost (M : Nat) (es' : List ME) (K : Nat) (w : World) (e : Ending) (w' : World) : Prop :=
  e = .returned (.tuple #[]) ∧ w.grownBy w' (some M) ∧ ∃ clock', w'.heap[M]? = some (.map (entriesOf es') clock') ∧ MapOk K es' clock'

structure AddBoxes (w : World) (bm bg bb bn bl bx : Nat) (gs ls ys : List Int) (vg vb vl : Value) (M : Nat) : Prop where
  hm : w.cell? ⟨bm, 0, none⟩ = some (.int .i64 ((ys.length - 1 : Nat) : Int))
  hg : w.cell? ⟨bg, 0, none⟩ = some vg
  hb : w.cell? ⟨bb, 0, none⟩ = some vb
  hn : w.cell? ⟨bn, 0, none⟩ = some (.int .i64 (ls.length : Int))
  hl : w.cell? ⟨bl, 0, none⟩ = some vl
  hx : w.cell? ⟨bx, 0, none⟩ = some (.map (some M))
  ig : IsI w vg gs
  ib : IsI w vb ys
  il : IsI w vl ls

theorem add_end {w W5 : World} {M K ck : Nat} {es' : List ME} (X5 : Ext w W5) (hMl : M < w.heap.size) (hok : MapOk K es' ck) : AddPost M es' K w (.returned (.tuple #[])) (setBlock W5.drew M (.map (entriesOf es') ck)) := by
  have hb := X5.bel
  have hlt : M < W5.drew.heap.size := Nat.lt_of_lt_of_le hMl hb.size
  refine ⟨rfl, ⟨hb.os, hb.tape, hb.output, ?_, fun i hi hne => ?_⟩, ck, ?_, hok⟩
  · show w.heap.size ≤ (W5.heap.setIfInBounds M _).size
    rw [Array.size_setIfInBounds]; exact hb.size
  · show (W5.heap.setIfInBounds M _)[i]? = _
    rw [Array.getElem?_setIfInBounds_ne (fun e => hne (by rw [e]))]; exact hb.block i hi
  · show (W5.heap.setIfInBounds M _)[M]? = _
    exact Array.getElem?_setIfInBounds_self_of_lt hlt
theorem add_none {w w' : World} {M K clock : Nat} {es : List ME} (X : Ext w w') (hM : w.heap[M]? = some (.map (entriesOf es) clock)) (hok : MapOk K es clock) : AddPost M es K w (.returned (.tuple #[])) w' := by
  have hb := X.bel
  exact ⟨rfl, X.grow _, clock, (hb.block M (Array.getElem?_eq_some_iff.1 hM).1).trans hM, hok⟩

set_option maxRecDepth 100000 in
set_option maxHeartbeats 4000000 in
theorem add_any (w : World) (bm bg bb bn bl bx M : Nat) (gs ls ys : List Int) (vg vb vl : Value) (B : AddBoxes w bm bg bb bn bl bx gs ls ys vg vb vl M) (hf : Fine gs ys) (hgl : gs.length = ls.length) (h7 : ys.length ≤ 7)
    (es : List ME) (clock : Nat) (hM : w.heap[M]? = some (.map (entriesOf es) clock)) (hok : MapOk (2 ^ (ys.length - 1)) es clock) (fa lb h q : Nat) (c : Int) (hfa : fa < 2 ^ (ys.length - 1)) (hlb : lb < 2 ^ (ys.length - 1)) (hh : h ≤ 1) (hq : q ≤ 1000) (hc0 : 0 ≤ c) (hc1 : c < 1000000007) :
    Calls Try.prog 81 #[keyV fa lb, .int .u64 (h : Int), .int .i64 (q : Int), .int .i64 c, .pointer (some ⟨bm, 0, none⟩), .pointer (some ⟨bg, 0, none⟩), .pointer (some ⟨bb, 0, none⟩), .pointer (some ⟨bn, 0, none⟩), .pointer (some ⟨bl, 0, none⟩), .pointer (some ⟨bx, 0, none⟩)] w
      (AddPost M (addE gs ls ys q h fa lb c clock es) (2 ^ (ys.length - 1)) w) := by
  obtain ⟨k1, k2, k3, k4, k5, k6, ig, ib, il⟩ := B
  have l1 := cell_lt k1
  have l2 := cell_lt k2
  have l3 := cell_lt k3
  have l4 := cell_lt k4
  have l5 := cell_lt k5
  have l6 := cell_lt k6
  have hMl : M < w.heap.size := (Array.getElem?_eq_some_iff.1 hM).1
  have hodd := hf.odd
  have hlo := hf.lo
  have hhi := hf.hi
  rw [hgl] at hlo hhi
  obtain ⟨m, hm⟩ : ∃ m, ys.length - 1 = m := ⟨_, rfl⟩
  have hm6 : m ≤ 6 := by omega
  have hYM : (((ys.length : Int) - 1) / 2) = (m : Int) / 2 := by omega
  unfold addE okX
  rw [hm] at k1 hok hfa hlb ⊢
  obtain ⟨p, hp, hpn⟩ := emod_nat ((q : Int) - (m : Int) / 2) (n := ls.length) (by omega)
  have hmid : midAt ls ys q = p := by unfold midAt; rw [hYM, hp]; rfl
  have htb : tbAt gs ls ys q = touchB gs ys p (ls[p]?.getD 0) := by rw [tbAt, hmid]
  have htl := touchB_lt gs ys p (ls[p]?.getD 0)
  have hAR := Lib.hid fun W => around_any ((q : Int) - (m : Int) / 2) ls.length W (by omega) (by omega)
  rw [hp] at hAR
  have hTT := Lib.hid fun (W : World) (x : Ext w W) => touches_any vg vb gs ys p (ls[p]?.getD 0) W (ig.ext x) (ib.ext x) hf (by rw [hgl]; exact hpn)
  obtain ⟨AL, nL, cL, rfl, hL0, hrL, hnL⟩ := il.open_
  obtain ⟨bl', ol', rfl, hbl', hcl⟩ := hrL.at_ p (by rw [← hrL.len]; exact hpn)
  have hnl := hrL.len
  have HMM := Lib.hid hm
  rw [htb]
  have hY7 : 2 ^ ys.length ≤ 2 ^ 7 := Nat.pow_le_pow_right (by decide) h7
  obtain ⟨tb, htb'⟩ : ∃ tb, touchB gs ys p (ls[p]?.getD 0) = tb := ⟨_, rfl⟩
  rw [htb'] at htl hTT ⊢
  obtain ⟨X, hX⟩ : ∃ X, h * 2 ^ m = X := ⟨_, rfl⟩
  have p1 : 2 ^ m ≤ 2 ^ 6 := Nat.pow_le_pow_right (by decide) hm6
  have hX2 : X ≤ 64 := by rw [← hX]; exact Nat.le_trans (Nat.mul_le_mul_right _ hh) (by omega)
  have hX3 : X < 2 ^ (m + 1) := by rw [← hX, Nat.pow_succ]; exact Nat.lt_of_le_of_lt (Nat.mul_le_mul_right _ hh) (by have := Nat.two_pow_pos m; omega)
  obtain ⟨bt, hbt⟩ : ∃ bt, lb ||| X = bt := ⟨_, rfl⟩
  have hbt2 : bt < 2 ^ (m + 1) := by rw [← hbt]; exact Nat.or_lt_two_pow (Nat.lt_of_lt_of_le hlb (Nat.pow_le_pow_right (by decide) (by omega))) hX3
  have p2 : 2 ^ (m + 1) ≤ 2 ^ 7 := Nat.pow_le_pow_right (by decide) (by omega)
  obtain ⟨an, han⟩ : ∃ an, tb &&& bt = an := ⟨_, rfl⟩
  obtain ⟨b2, hb2⟩ : ∃ b2, bt / 2 = b2 := ⟨_, rfl⟩
  have hb2lt : b2 < 2 ^ m := by rw [Nat.pow_succ] at hbt2; omega
  have s1 : IntKind.u64.wrap ((h : Int) * 2 ^ m) = (X : Int) := by
    have : ((h : Int) * 2 ^ m) = ((h * 2 ^ m : Nat) : Int) := by simp
    rw [IntKind.wrap_u64, this, hX]
    omega
  have s2 : bits .or .u64 (lb : Int) (X : Int) = (bt : Int) := by rw [u64_or_nat lb X (by omega) (by omega), hbt]
  have s3 : bits .and .u64 (tb : Int) (bt : Int) = (an : Int) := by rw [u64_and_nat tb bt (by omega) (by omega), han]
  have s6 : (bt : Int) / 2 = (b2 : Int) := by omega
  have HB2 : stepB m h lb = b2 := by rw [stepB, bitsX, hX, hbt, hb2]
  rw [HB2, bitsX, hX, hbt, han]
  have HOK := Lib.hid hok
  have HLK := Lib.hid (lookE_bd hok)
  clear htb htb' hX hX3 hbt hbt2 han hb2 hnL hL0 htl hmid hok hYM hgl hf ig ib il hrL HB2
  rw [hnl] at k4 hAR
  have hW0 := Lib.hid (Ext.refl w)
  by_cases hmq : m ≤ q
  · have hd : decide (m ≤ q) = true := by simpa using hmq
    have hd' : decide ((m : Int) ≤ q) = true := by simpa using hmq
    rw [hd, Bool.true_and]
    have hsA : stepA m q h fa = fa := by rw [stepA, if_neg (by omega)]
    rw [hsA]
    clear hsA
    cases hz : (an == 0)
    · have hz' : ((an : Int) == 0) = false := by simp at hz ⊢; omega
      clear hz
      simp only [Bool.not_false, if_true]
      unfold keyV
      go_enter Try.func81, Try.ntmps81
      go_wp2
      go_quiet (fail)
      go_wp2
      refine lay_wp (fun W => Ext w W ∧ W.heap.size = w.heap.size + 1 ∧ W.cell? ⟨w.heap.size, 0, none⟩ = some (.int .u64 fa) ∧ W.cell? ⟨w.heap.size, 1, none⟩ = some (.int .u64 lb) ∧ W.frozen? ⟨w.heap.size, 0, none⟩ = false ∧ W.frozen? ⟨w.heap.size, 1, none⟩ = false) ⟨by (repeat' (first | with_reducible exact Ext.refl _ | with_reducible apply Ext.alloc | with_reducible apply Ext.drew | with_reducible apply Ext.drewN | with_reducible refine Ext.setCell ?_ ?_ _ | with_reducible apply Ext.step | with_reducible assumption | with_reducible exact Nat.le_refl _ | (simp; done) | (simp; omega))), by simp, by go_cell, by go_cell, by go_simp, by go_simp⟩ ?_
      rintro W1 ⟨X1, hs1, x0, x1, y0, y1⟩
      have e1 := X1.cell_some k1
      have e2 := X1.cell_some k2
      have e3 := X1.cell_some k3
      have e4 := X1.cell_some k4
      have e5 := X1.cell_some k5
      have e6 := X1.cell_some k6
      have ecl := X1.cell_some hcl
      have HX1 := Lib.hid X1
      clear X1
      refine wp_region_bext (by kernel_rfl) (by kernel_rfl) ?_
      repeat (any_goals (go_big_quiet_step (first | (go_at_call 73; exact bext_same (hAR.out _)) | (go_at_call 82; exact bext_call (hTT.out _ (HX1.out.step _))))))
      refine wpQuiet_nil ?_
      rintro _ ⟨δ, rfl⟩
      have hlt1 := cell_lt x0
      go_wp2
      refine lay_wp (fun W => Ext w W ∧ W.cell? ⟨w.heap.size, 0, none⟩ = some (.int .u64 fa) ∧ W.cell? ⟨w.heap.size, 1, none⟩ = some (.int .u64 b2)) ⟨(HX1.out.step δ).setCell (Nat.le_refl _) _, by go_cell, by go_cell⟩ ?_
      rintro W5 ⟨X5, z0, z1⟩
      have z6 := X5.cell_some k6
      have zM : W5.drew.heap[M]? = some (.map (entriesOf es) clock) := (X5.bel.block M hMl).trans hM
      have HX5 := Lib.hid X5
      have hlk := run_lookupW (w := W5.drew) zM fa b2
      have hlb := HLK.out fa b2
      obtain ⟨lk, elk⟩ : ∃ lk, lookE fa b2 es = lk := ⟨_, rfl⟩
      rw [elk] at hlk hlb ⊢
      obtain ⟨hlb1, hlb2⟩ := hlb
      obtain ⟨ck, hup, hck⟩ := run_mapUpdateW (w := W5.drew) zM fa b2 ((lk + c) % 1000000007)
      have HCK := Lib.hid hck
      have HELK := Lib.hid elk
      unfold keyV at hlk hup
      clear hck elk X5 zM
      have hs : 0 ≤ (lk + c) % 1000000007 := Int.emod_nonneg _ (by decide)
      have hs2 : (lk + c) % 1000000007 < 1000000007 := Int.emod_lt_of_pos _ (by decide)
      refine wp_region_still_tail 8 (by kernel_rfl) (by kernel_rfl) ?_
      simp only [List.take_succ_cons, List.take_zero, List.drop_succ_cons, List.drop_zero]
      repeat (refine wpStill_step (fun K hK => ?_); go_simp; (try go_bits); refine hK _ ?_; clear hK K)
      refine wpStill_nil ?_
      change wpList _ _ _ _ _ W5.drew
      go_wp2_with fail
      go_end0
      have HS := And.intro hs hs2
      clear hs hs2 hlk hup hlb1 hlb2
      rw [← HELK.out] at HS ⊢
      exact add_end HX5.out hMl (by rw [HCK.out]; exact setE_ok HOK.out hfa hb2lt HS)
    · have hz' : ((an : Int) == 0) = true := by simp at hz ⊢; omega
      clear hz
      simp only [Bool.not_true, Bool.false_eq_true, if_false]
      unfold keyV
      go_enter Try.func81, Try.ntmps81
      go_wp2
      go_quiet (fail)
      go_wp2
      refine lay_wp (fun W => Ext w W ∧ W.heap.size = w.heap.size + 1 ∧ W.cell? ⟨w.heap.size, 0, none⟩ = some (.int .u64 fa) ∧ W.cell? ⟨w.heap.size, 1, none⟩ = some (.int .u64 lb) ∧ W.frozen? ⟨w.heap.size, 0, none⟩ = false ∧ W.frozen? ⟨w.heap.size, 1, none⟩ = false) ⟨by (repeat' (first | with_reducible exact Ext.refl _ | with_reducible apply Ext.alloc | with_reducible apply Ext.drew | with_reducible apply Ext.drewN | with_reducible refine Ext.setCell ?_ ?_ _ | with_reducible apply Ext.step | with_reducible assumption | with_reducible exact Nat.le_refl _ | (simp; done) | (simp; omega))), by simp, by go_cell, by go_cell, by go_simp, by go_simp⟩ ?_
      rintro W1 ⟨X1, hs1, x0, x1, y0, y1⟩
      have e1 := X1.cell_some k1
      have e2 := X1.cell_some k2
      have e3 := X1.cell_some k3
      have e4 := X1.cell_some k4
      have e5 := X1.cell_some k5
      have e6 := X1.cell_some k6
      have ecl := X1.cell_some hcl
      have HX1 := Lib.hid X1
      clear X1
      refine wp_region_bext (by kernel_rfl) (by kernel_rfl) ?_
      repeat (any_goals (go_big_quiet_step (first | (go_at_call 73; exact bext_same (hAR.out _)) | (go_at_call 82; exact bext_call (hTT.out _ (HX1.out.step _))))))
      refine wpQuiet_nil ?_
      rintro _ ⟨δ, rfl⟩
      go_wp2
      go_end0
      exact add_none (HX1.out.step δ) hM HOK.out
  · have hd : decide (m ≤ q) = false := by simpa using hmq
    have hd' : decide ((m : Int) ≤ q) = false := by simp; omega
    have hd2 : decide ((q : Int) < m) = true := by simp; omega
    rw [hd, Bool.false_and, Bool.not_false, if_pos rfl]
    obtain ⟨Y, hY⟩ : ∃ Y, h * 2 ^ q = Y := ⟨_, rfl⟩
    have p3 : 2 ^ q < 2 ^ m := Nat.pow_lt_pow_right (by decide) (by omega)
    have hY3 : Y < 2 ^ m := by rw [← hY]; exact Nat.lt_of_le_of_lt (Nat.mul_le_mul_right _ hh) (by omega)
    obtain ⟨f2, hf2'⟩ : ∃ f2, fa ||| Y = f2 := ⟨_, rfl⟩
    have hf2 : f2 < 2 ^ m := by rw [← hf2']; exact Nat.or_lt_two_pow hfa hY3
    have s4 : IntKind.u64.wrap ((h : Int) * 2 ^ q) = (Y : Int) := by
      have : ((h : Int) * 2 ^ q) = ((h * 2 ^ q : Nat) : Int) := by simp
      rw [IntKind.wrap_u64, this, hY]
      omega
    have s5 : bits .or .u64 (fa : Int) (Y : Int) = (f2 : Int) := by rw [u64_or_nat fa Y (by omega) (by omega), hf2']
    have hsA : stepA m q h fa = f2 := by rw [stepA, if_pos (by omega), hY, hf2']
    rw [hsA]
    clear hsA hY hf2'
    unfold keyV
    go_enter Try.func81, Try.ntmps81
    go_wp2
    go_quiet (fail)
    go_wp2
    go_quiet (fail)
    go_wp2
    refine lay_wp (fun W => Ext w W ∧ W.cell? ⟨w.heap.size, 0, none⟩ = some (.int .u64 fa) ∧ W.cell? ⟨w.heap.size, 1, none⟩ = some (.int .u64 lb) ∧ W.frozen? ⟨w.heap.size, 0, none⟩ = false ∧ W.frozen? ⟨w.heap.size, 1, none⟩ = false) ⟨by (repeat' (first | with_reducible exact Ext.refl _ | with_reducible apply Ext.alloc | with_reducible apply Ext.drew | with_reducible apply Ext.drewN | with_reducible refine Ext.setCell ?_ ?_ _ | with_reducible apply Ext.step | with_reducible assumption | with_reducible exact Nat.le_refl _ | (simp; done) | (simp; omega))), by go_cell, by go_cell, by go_simp, by go_simp⟩ ?_
    rintro W1 ⟨X1, x0, x1, y0, y1⟩
    refine wp_region_still_tail 7 (by kernel_rfl) (by kernel_rfl) ?_
    simp only [List.take_succ_cons, List.take_zero, List.drop_succ_cons, List.drop_zero]
    repeat (refine wpStill_step (fun K hK => ?_); go_simp; (try go_bits); refine hK _ ?_; clear hK K)
    refine wpStill_nil ?_
    change wpList _ _ _ _ _ W1.drew
    go_wp2_with fail
    refine lay_wp (fun W => Ext w W ∧ W.cell? ⟨w.heap.size, 0, none⟩ = some (.int .u64 f2) ∧ W.cell? ⟨w.heap.size, 1, none⟩ = some (.int .u64 b2)) ⟨by (repeat' (first | with_reducible exact Ext.refl _ | with_reducible apply Ext.alloc | with_reducible apply Ext.drew | with_reducible apply Ext.drewN | with_reducible refine Ext.setCell ?_ ?_ _ | with_reducible apply Ext.step | with_reducible assumption | with_reducible exact Nat.le_refl _ | (simp; done) | (simp; omega))), by go_cell, by go_cell⟩ ?_
    rintro W5 ⟨X5, z0, z1⟩
    have z6 := X5.cell_some k6
    have zM : W5.drew.heap[M]? = some (.map (entriesOf es) clock) := (X5.bel.block M hMl).trans hM
    have HX5 := Lib.hid X5
    have hlk := run_lookupW (w := W5.drew) zM f2 b2
    have hlb := HLK.out f2 b2
    obtain ⟨lk, elk⟩ : ∃ lk, lookE f2 b2 es = lk := ⟨_, rfl⟩
    rw [elk] at hlk hlb ⊢
    obtain ⟨hlb1, hlb2⟩ := hlb
    obtain ⟨ck, hup, hck⟩ := run_mapUpdateW (w := W5.drew) zM f2 b2 ((lk + c) % 1000000007)
    have HCK := Lib.hid hck
    have HELK := Lib.hid elk
    unfold keyV at hlk hup
    clear hck elk X5 zM
    have hs : 0 ≤ (lk + c) % 1000000007 := Int.emod_nonneg _ (by decide)
    have hs2 : (lk + c) % 1000000007 < 1000000007 := Int.emod_lt_of_pos _ (by decide)
    refine wp_region_still_tail 8 (by kernel_rfl) (by kernel_rfl) ?_
    simp only [List.take_succ_cons, List.take_zero, List.drop_succ_cons, List.drop_zero]
    repeat (refine wpStill_step (fun K hK => ?_); go_simp; (try go_bits); refine hK _ ?_; clear hK K)
    refine wpStill_nil ?_
    change wpList _ _ _ _ _ W5.drew
    go_wp2_with fail
    go_end0
    have HS := And.intro hs hs2
    clear hs hs2 hlk hup hlb1 hlb2
    rw [← HELK.out] at HS ⊢
    exact add_end HX5.out hMl (by rw [HCK.out]; exact setE_ok HOK.out hf2 hb2lt HS)

end Go.Proofs.Ytaaceadcnnfngaa
