/- read.Fits: which phases fit each cut. Condition: a valid picture with one head; each cut up to the last one that was read has a phase that fits. -/
import Derived.Test.YtkjgcmdabelohaaGreatMKind
import Derived.Test.YtkjgcmdabelohaaGreatPSee
import Derived.Test.YtkjgcmdabelohaaGreatPMnt
namespace Go.Proofs.YtkjgcmdabelohaaGreat
section
/- PTab: A table made beforehand, one row of which grows. No condition. -/
open Go.RowKit

section
variable {α : Type} {K : EK α} {O : EK RowH}
/-- Row q lies in blocks from Bi on, the other rows and the table below. -/
structure TabG (O : EK RowH) (K : EK α) (B Bi : Nat) (w : World) (v : Value) (Ts : List RowH) (xss : List (List α)) (q : Nat) : Prop where
  tab : TabM O K B w v Ts xss
  le : B ≤ Bi ∧ Bi ≤ w.heap.size
  row : ∀ (h : q < Ts.length) (h' : q < xss.length), K.Own Bi w (rowH Ts[q]) xss[q]
  oth : ∀ p (h : p < Ts.length), p ≠ q → ∀ r, (rowH Ts[p]).ownBlock = some r → r < Bi
theorem TabG.grow {B Bi q g c N : Nat} {w w1 w2 : World} {Ts : List RowH} {xss : List (List α)} {ys : List α} (h : TabG O K B Bi w (.slice (some ⟨g, 0, none⟩) N c) Ts xss q) (hN : Ts.length = N) (hk : O.k = 1) (he : ∀ T, O.enc T = [rowH T]) (hq : q < Ts.length) (hne : K.ty ≠ O.ty) (T1 : RowH)
    (x : Ext w w1) (gr : w1.grownBy w2 (rowH Ts[q]).ownBlock) (o2 : K.Own Bi w2 (rowH T1) ys) :
    TabG O K B Bi (w2.setCell ⟨g, q, none⟩ (rowH T1)) (.slice (some ⟨g, 0, none⟩) N c) (Ts.set q T1) (xss.set q ys) q := by
  have hl := h.tab.len
  have hq' : q < xss.length := by omega
  have e : ∀ p (hp : p < (Ts.set q T1).length), (Ts.set q T1)[p] = if q = p then T1 else Ts[p]'(by simpa using hp) := fun p hp => List.getElem_set ..
  have e' : ∀ p (hp : p < (xss.set q ys).length), (xss.set q ys)[p] = if q = p then ys else xss[p]'(by simpa using hp) := fun p hp => List.getElem_set ..
  have ho1 := (h.tab.own.ext x).kept gr (own_ne (h.tab.own.ext x) ((h.tab.row q hq hq').ext x) (Ne.symm hne))
  have hn : ∀ {B' : Nat} {v : Value} {xs : List α}, K.Own B' w2 v xs → K.Own B' (w2.setCell ⟨g, q, none⟩ (rowH T1)) v xs := fun {B' v xs} hs => hs.oth (by
    have := own_ne hs ho1 hne
    simpa [Value.ownBlock] using this)
  have key : ∀ r, (rowH T1).ownBlock = some r → Bi ≤ r := fun r hr => (o2.lt r hr).1
  refine ⟨⟨ho1.put1N hN (by omega) hk T1 _ (he T1), by simpa using hl, fun p a b => ?_, fun p p2 a b hpq => ?_⟩, ⟨h.le.1, ?_⟩, fun a b => ?_, fun p a hp r hr => ?_⟩
  · rw [e, e']
    split
    · exact (hn o2).mono h.le.1
    · rename_i hqp
      exact hn (((h.tab.row p (by simpa using a) (by simpa using b)).ext x).kept gr (h.tab.dist p q (by simpa using a) hq (fun e => hqp e.symm)))
  · have ha : p < Ts.length := by simpa using a
    have hb : p2 < Ts.length := by simpa using b
    rw [e, e]
    by_cases hp : q = p
    · rw [if_pos hp, if_neg (by omega)]
      cases hr : (rowH T1).ownBlock with
      | none => exact .inl rfl
      | some r =>
        refine .inr fun h1 => ?_
        have h2 := key r hr
        have h3 := h.oth p2 hb (by omega) r h1.symm
        omega
    · rw [if_neg hp]
      by_cases hp2 : q = p2
      · rw [if_pos hp2]
        cases hr : (rowH Ts[p]).ownBlock with
        | none => exact .inl rfl
        | some r =>
          refine .inr fun h1 => ?_
          have h2 := key r h1.symm
          have h3 := h.oth p ha (by omega) r hr
          omega
      · rw [if_neg hp2]
        exact h.tab.dist p p2 ha hb hpq
  · have h1 := x.bel.size
    have h2 := gr.size
    have h3 := h.le.2
    simp
    omega
  · rw [e, e', if_pos rfl, if_pos rfl]
    exact hn o2
  · rw [e, if_neg (fun e => hp e.symm)] at hr
    exact h.oth p (by simpa using a) hp r hr
/-- A row begins. -/
theorem TabM.begin {B q : Nat} {w : World} {v : Value} {Ts : List RowH} {xss : List (List α)} (h : TabM O K B w v Ts xss) (hB : B ≤ w.heap.size) (hq : ∀ (h : q < Ts.length), rowH Ts[q] = .slice none 0 0) (hx : ∀ (h : q < xss.length), xss[q] = []) : TabG O K B w.heap.size w v Ts xss q :=
  ⟨h, ⟨hB, Nat.le_refl _⟩, fun a b => by rw [hq a, hx b]; exact EK.Own.nil _ _, fun p a _ r hr => ((h.row p a (by have := h.len; omega)).lt r hr).2⟩
theorem TabG.ext {B Bi q : Nat} {w w' : World} {v : Value} {Ts : List RowH} {xss : List (List α)} (h : TabG O K B Bi w v Ts xss q) (x : Ext w w') : TabG O K B Bi w' v Ts xss q :=
  ⟨h.tab.ext x, ⟨h.le.1, Nat.le_trans h.le.2 x.bel.size⟩, fun a b => (h.row a b).ext x, h.oth⟩
end
end
section
/- PVal: read.valid, Check: a picture with one head is valid. Condition: its slices read as lists. -/
open Go.RowKit

/-- A picture with one head, one throw and one advance. -/
structure OneT where
  ros : List Int
  rub : List Int
  th : Int
  ad : Int
  rd : List (Int × Int × Int × Int)
abbrev oneV (hb ho hc : Nat) (rv : Value) (th ad : Int) : Value := .agg #[.slice (some ⟨hb, ho, none⟩) 1 hc, .int .i64 th, .int .i64 th, .int .i64 ad, .int .i64 ad, rv]
structure OneAt (w : World) (hb ho : Nat) (va vb rv : Value) (p : OneT) : Prop where
  h0 : w.cell? ⟨hb, ho, none⟩ = some va
  h1 : w.cell? ⟨hb, ho + 1, none⟩ = some vb
  ros : IsI w va p.ros
  rub : IsI w vb p.rub
  rd : readK.Is w rv p.rd
theorem OneAt.ext {w w' : World} {hb ho : Nat} {va vb rv : Value} {p : OneT} (h : OneAt w hb ho va vb rv p) (x : Ext w w') : OneAt w' hb ho va vb rv p :=
  ⟨x.cell_some h.h0, x.cell_some h.h1, h.ros.ext x, h.rub.ext x, h.rd.ext x⟩
def ReadOk (n : Nat) (r : Int × Int × Int × Int) : Prop := (0 ≤ r.1 ∧ r.1 ≤ 11) ∧ (0 ≤ r.2.1 ∧ r.2.1 ≤ (n : Int) - 1) ∧ -300000 ≤ r.2.2.1 ∧ r.2.2.1 ≤ r.2.2.2 ∧ r.2.2.2 ≤ 300000
structure OneOk (p : OneT) : Prop where
  fine : Fine p.ros p.rub
  th : 1 ≤ p.th ∧ p.th ≤ 16
  ad : -1000 ≤ p.ad ∧ p.ad ≤ 1000
  len : 1 ≤ p.rd.length ∧ p.rd.length ≤ 60
  rd : ∀ r ∈ p.rd, ReadOk p.ros.length r
theorem fine_checkP {f b : List Int} (h : Fine f b) : checkE f = 0 ∧ rubberE b f.length = 0 := by
  have h1 := fine_iff.2 h
  unfold bothE at h1
  by_cases e : checkB f = true
  · rw [if_pos e] at h1
    refine ⟨by unfold checkE; rw [if_pos e], ?_⟩
    exact h1
  · rw [if_neg e] at h1; omega

set_option maxRecDepth 100000 in
set_option maxHeartbeats 8000000 in
theorem valid_one (hb ho hc : Nat) (va vb rv : Value) (p : OneT) (w : World) (h : OneAt w hb ho va vb rv p) (hk : OneOk p) :
    Calls Tryz.prog 35 #[oneV hb ho hc rv p.th p.ad] w fun e w' => e = .returned (.bool true) ∧ Ext w w' := by
  obtain ⟨zs, rs, th, ad, rd⟩ := p
  obtain ⟨h0, h1, hf, hr, hrd⟩ := h
  obtain ⟨hF, ⟨t1, t2⟩, ⟨a1, a2⟩, ⟨l1, l2⟩, hok⟩ := hk
  simp only at h0 h1 hf hr hrd hF t1 t2 a1 a2 l1 l2 hok
  obtain ⟨Av, n, cv, rfl, _, hzr, hzm⟩ := hf.open_
  obtain ⟨Aw, nw, cw, rfl, _, _, _⟩ := hr.open_
  have hln := hzr.len
  have hlo : 3 ≤ n := by rw [← hln]; exact hF.lo
  have hhi : n ≤ 96 := by rw [← hln]; exact hF.hi
  obtain ⟨AR, nr, cr, rfl, hrn, hrA, hrR, hrm⟩ := hrd.open_
  rw [hrn] at l1 l2
  have HW := Lib.hid fun (x lo hi : Int) (W : World) (hx : inB lo hi x = true) => (show Calls Tryz.prog 37 #[.int .i64 x, .int .i64 lo, .int .i64 hi] W fun e w' => e = .returned (.bool true) ∧ W = w' from by
    have := readWithin_any x lo hi W
    rwa [hx] at this)
  have HC := Lib.hid fun (W : World) (x : Ext w W) => (show Calls Tryz.prog 22 #[.slice Av n cv] W fun e w' => e = .returned (.int .i64 0) ∧ W = w' from by
    have := check_any _ zs W (hf.ext x)
    rwa [(fine_checkP hF).1] at this)
  have HR := Lib.hid fun (W : World) (x : Ext w W) => (show Calls Tryz.prog 23 #[.slice Aw nw cw, .int .i64 (n : Int)] W fun e w' => e = .returned (.int .i64 0) ∧ W = w' from by
    have := checkRubber_any _ rs (n : Int) W (hr.ext x)
    rw [← hln] at this
    rwa [(fine_checkP hF).2, hln] at this)
  have HRN := Lib.hid hrn
  have HRR := Lib.hid hrR
  have HOK := Lib.hid (show ∀ q (hq : q < rd.length), ReadOk n rd[q] from fun q hq => hln ▸ hok _ (List.getElem_mem hq))
  have lh := cell_lt h0
  have n1 : (1 : Int) ≤ (nr : Int) := by omega
  have n2 : (nr : Int) ≤ 60 := by omega
  clear hf hr hrd hF hok hrn hrA hrR hzr hln
  go_enter Tryz.func35, Tryz.ntmps35
  go_wp2_with (go_at_call 37; refine (HW.out _ _ _ _ (by rw [inB_iff]; omega)).mono ?_; rintro e w' ⟨rfl, rfl⟩)
  refine lay_wp (fun W => BoxAt w.heap.size #[.slice (some ⟨hb, ho, none⟩) 1 hc, .int .i64 th, .int .i64 th, .int .i64 ad, .int .i64 ad, .slice AR nr cr] 28 W ∧ Ext w W) ⟨BoxAt.new w _ _, (Ext.refl _).alloc _⟩ ?_
  rintro W1 ⟨b1, x1⟩
  have HB1 := Lib.hid b1
  have HX1 := Lib.hid x1
  have HH := Lib.hid (And.intro h0 h1)
  clear b1 x1 h0 h1 lh
  go_loopw [29] (fun iv W => ∃ i : Nat, i ≤ 1 ∧ iv = .int .i64 (i : Int) ∧ Ext W1 W) (fun iv _ => 1 - (intOf iv).toNat)
  case atStart => exact ⟨0, by omega, rfl, Ext.refl _⟩
  case round =>
    obtain ⟨i, hi, rfl, hx⟩ := hrel
    have HX := Lib.hid hx
    by_cases hi0 : i = 0
    · have h0 : wr.cell? ⟨hb, ho + i * 2, none⟩ = some (.slice Av n cv) := by rw [hi0]; exact (HX1.out.trans hx).cell_some HH.out.1
      have h1 : wr.cell? ⟨hb, ho + i * 2 + 1, none⟩ = some (.slice Aw nw cw) := by rw [hi0]; exact (HX1.out.trans hx).cell_some HH.out.2
      have lh := cell_lt h0
      have hlt : (i : Int) < 1 := by omega
      have HI := Lib.hid hi0
      clear hx hi0
      go_wp2_with (first
        | (go_at_call 22; refine (HC.out _ (((HX1.out.trans HX.out)).alloc _)).mono ?_; rintro e w' ⟨rfl, rfl⟩)
        | (go_at_call 23; refine (HR.out _ (((HX1.out.trans HX.out)).alloc _)).mono ?_; rintro e w' ⟨rfl, rfl⟩))
      go_roundw
      case rel => exact ⟨i + 1, by omega, by go_num, HX.out.alloc _⟩
      case measure => simp [intOf]; omega
    · have hlt : ¬ (i : Int) < 1 := by omega
      have q1 := (HB1.out.ext hx).cell (i := 1) rfl
      have q2 := (HB1.out.ext hx).cell (i := 2) rfl
      have q3 := (HB1.out.ext hx).cell (i := 3) rfl
      have q4 := (HB1.out.ext hx).cell (i := 4) rfl
      have q5 := (HB1.out.ext hx).cell (i := 5) rfl
      have lq := cell_lt q1
      clear hx
      have e1 : ¬ th < 1 := by omega
      have e2 : ¬ 16 < th := by omega
      have e3 : ¬ ad < -1000 := by omega
      have e4 : ¬ 1000 < ad := by omega
      go_wp2_with fail
      go_loopw [93] (fun iv W => ∃ q : Nat, q ≤ nr ∧ iv = .int .i64 (q : Int) ∧ Ext wr W) (fun iv _ => nr - (intOf iv).toNat)
      case atStart => exact ⟨0, by omega, rfl, Ext.refl _⟩
      case round =>
        obtain ⟨q, hq, rfl, hy⟩ := hrel
        have HY := Lib.hid hy
        by_cases hqn : q < nr
        · obtain ⟨hpl, -⟩ := (show q < rd.length ∧ True from ⟨by rw [HRN.out]; exact hqn, trivial⟩)
          obtain ⟨⟨k1, k2⟩, ⟨k3, k4⟩, k5, k6, k7⟩ := HOK.out q hpl
          obtain ⟨b2, o2, rfl, _, hcs⟩ := HRR.out q hpl
          obtain ⟨rr, hrr⟩ : ∃ z, z = rd[q] := ⟨_, rfl⟩
          rw [← hrr] at k1 k2 k3 k4 k5 k6 k7 hcs
          obtain ⟨cu, st, lo, hv⟩ := rr
          simp only at k1 k2 k3 k4 k5 k6 k7
          have xw := HX1.out.trans (HX.out.trans hy)
          have c0 := xw.cell_some (hcs 0 _ rfl)
          have c1 := xw.cell_some (hcs 1 _ rfl)
          have c2 := xw.cell_some (hcs 2 _ rfl)
          have c3 := xw.cell_some (hcs 3 _ rfl)
          simp only [readK, Nat.add_zero] at c0 c1 c2 c3
          have lc := cell_lt c0
          have hqq : (q : Int) < (nr : Int) := by omega
          have w1 : IntKind.i64.wrap ((n : Int) - 1) = (n : Int) - 1 := IntWalk.i64_in _ (by omega)
          have g1 : ¬ lo < -300000 := by omega
          have g2 : ¬ hv < lo := by omega
          have g3 : ¬ 300000 < hv := by omega
          clear hrr hcs xw hy hpl q1 q2 q3 q4 q5 lq e1 e2 e3 e4
          go_wp2_with (go_at_call 37; refine (HW.out _ _ _ _ (by rw [inB_iff]; omega)).mono ?_; rintro e w' ⟨rfl, rfl⟩)
          go_roundw
          case rel => exact ⟨q + 1, by omega, by go_num, HY.out.alloc _⟩
          case measure => simp [intOf]; omega
        · obtain rfl : nr = q := by omega
          clear hy
          go_wp2_with fail
          go_ret
          exact ⟨rfl, HX1.out.trans (HX.out.trans HY.out)⟩
theorem checkPic_one (hb ho hc : Nat) (va vb rv : Value) (p : OneT) (w : World) (h : OneAt w hb ho va vb rv p) (hk : OneOk p) :
    Calls Tryz.prog 13 #[oneV hb ho hc rv p.th p.ad] w fun e w' => e = .returned (.int .i64 0) ∧ Ext w w' := by
  have HV := Lib.hid fun (W : World) (x : Ext w W) => valid_one hb ho hc va vb rv p W (h.ext x) hk
  obtain ⟨AR, nr, cr, rfl, _, _, _, _⟩ := h.rd.open_
  clear h hk
  go_enter Tryz.func13, Tryz.ntmps13
  go_wp2_with fail
  refine (HV.out _ ((Ext.refl _).alloc _)).mono ?_
  rintro e w1 ⟨rfl, x1⟩
  have HX := Lib.hid (((Ext.refl w).alloc _).trans x1)
  clear x1
  go_wp2_with fail
  go_ret
  exact ⟨rfl, HX.out⟩
end
open Go.RowKit Go.ChangeMaps

def rowsIK : EK RowH := ⟨22, 85, 1, fun x => [.slice x.1 x.2.1 x.2.2], .slice none 0 0, 24, Tryz.underlying85, by kernel_rfl, rfl, by decide, by decide, fun _ => rfl, by simp [Value.oneCell']⟩
theorem rowsI_ne : rowsIK.ty ≠ intK.ty := by decide
theorem ext_iterM {a b c : World} {r : Nat} (x : Ext a b) (g : b.grownBy c (some r)) (hr : a.heap.size ≤ r) : Ext a c :=
  x.below ((Below.refl a.heap.size b).grown g x.bel.size (fun j e => by cases e; exact hr)) (Nat.le_refl _)
theorem rowIInfo : (Tryz.prog.info? 22).map (fun i => (i.zero, i.size, i.bytes)) = some (some (.slice none 0 0), 1, 24) := by kernel_rfl
/-- A table of empty rows. -/
theorem tab_new (W : World) (B K : Nat) (hB : B ≤ W.heap.size) (hK : K ≤ 1000) : TabM rowsIK intK B (W.alloc (.cells (madeCells #[.slice none 0 0] K) 22)) (.slice (some ⟨W.heap.size, 0, none⟩) K K) (List.replicate K (none, 0, 0)) (List.replicate K []) := by
  have := EK.Own.lit (K := rowsIK) (B := B) W (madeCells #[.slice none 0 0] K) (List.replicate K (none, 0, 0)) (by
    rw [toList_madeCells_one]
    induction K with
    | zero => rfl
    | succ K ih => rw [List.replicate_succ, List.replicate_succ, List.flatMap_cons, ← ih (by omega)]; rfl) hB (by simp [maxLen]; omega)
  rw [List.length_replicate] at this
  refine ⟨this, by simp, fun q a b => ?_, fun p q a b _ => .inl ?_⟩
  · rw [List.getElem_replicate, List.getElem_replicate]
    exact EK.Own.nil _ _
  · rw [List.getElem_replicate]
    rfl
def fitB (F : Int → List (Int × Int)) (x c : Int) (ph : Nat) : Bool := decide (F c = []) || inB ((F c)[ph]?.getD (0, 0)).1 ((F c)[ph]?.getD (0, 0)).2 x
def fitTo (F : Int → List (Int × Int)) (x c : Int) (k : Nat) : List Int := ((List.range k).filter (fitB F x c)).map fun ph : Nat => (ph : Int)
theorem fitTo_succ (F : Int → List (Int × Int)) (x c : Int) (k : Nat) : fitTo F x c (k + 1) = fitTo F x c k ++ if fitB F x c k then [(k : Int)] else [] := by
  unfold fitTo
  rw [List.range_succ, List.filter_append, List.map_append]
  cases h : fitB F x c k <;> simp [h]
def fitsL (F : Int → List (Int × Int)) (n : Nat) (start ad : Int) (m : Nat) : List (List Int) := (List.range m).map fun c : Nat => fitTo F (start + (c : Int) * ad) (c : Int) n

/-- The table while it is filled: rows below q are whole, row q has looked at k phases. -/
def rowsTo (F : Int → List (Int × Int)) (n : Nat) (start ad : Int) (K q k : Nat) : List (List Int) :=
  (List.range K).map fun c : Nat => if c < q then fitTo F (start + (c : Int) * ad) (c : Int) n else if c = q then fitTo F (start + (c : Int) * ad) (c : Int) k else []
section
variable {F : Int → List (Int × Int)} {n : Nat} {start ad : Int} {K q k : Nat}
theorem rowsTo_len : (rowsTo F n start ad K q k).length = K := by simp [rowsTo]
theorem fitTo_zero (x c : Int) : fitTo F x c 0 = [] := rfl
theorem rowsTo_zero : rowsTo F n start ad K 0 0 = List.replicate K [] := by
  apply List.ext_getElem
  · simp [rowsTo]
  · intro i h1 h2
    simp only [rowsTo, List.getElem_map, List.getElem_range, List.getElem_replicate, Nat.not_lt_zero, if_false]
    split <;> first | rfl | exact fitTo_zero _ _
theorem rowsTo_next : rowsTo F n start ad K q n = rowsTo F n start ad K (q + 1) 0 := by
  unfold rowsTo
  refine List.map_congr_left fun c _ => ?_
  rcases Nat.lt_trichotomy c q with h | h | h
  · rw [if_pos h, if_pos (by omega)]
  · rw [if_neg (by omega), if_pos h, if_pos (by omega)]
  · rw [if_neg (by omega), if_neg (by omega), if_neg (by omega)]
    split
    · exact (fitTo_zero _ _).symm
    · rfl
theorem rowsTo_all : rowsTo F n start ad K K 0 = fitsL F n start ad K := by
  unfold rowsTo fitsL
  refine List.map_congr_left fun c hc => ?_
  rw [if_pos (List.mem_range.1 hc)]
theorem rowsTo_at (hq : q < K) : (rowsTo F n start ad K q k)[q]'(by rw [rowsTo_len]; exact hq) = fitTo F (start + (q : Int) * ad) (q : Int) k := by
  simp [rowsTo]
theorem rowsTo_set (_ : q < K) : (rowsTo F n start ad K q k).set q (fitTo F (start + (q : Int) * ad) (q : Int) (k + 1)) = rowsTo F n start ad K q (k + 1) := by
  apply List.ext_getElem
  · rw [List.length_set, rowsTo_len, rowsTo_len]
  · intro i h1 h2
    rw [List.getElem_set]
    simp only [rowsTo, List.getElem_map, List.getElem_range]
    by_cases e : q = i
    · subst e; rw [if_pos rfl, if_neg (by omega), if_pos rfl]
    · rw [if_neg e]
      by_cases h : i < q
      · rw [if_pos h, if_pos h]
      · rw [if_neg h, if_neg h, if_neg (fun h => e h.symm), if_neg (fun h => e h.symm)]
theorem rowsTo_skip (hq : q < K) (h : fitB F (start + (q : Int) * ad) (q : Int) k = false) : rowsTo F n start ad K q (k + 1) = rowsTo F n start ad K q k := by
  rw [← rowsTo_set hq, fitTo_succ, h]
  simp only [Bool.false_eq_true, if_false, List.append_nil]
  rw [← rowsTo_at (n := n) (K := K) hq, List.set_getElem_self]
end

/-- A row has grown by one phase, and its slice is stored. -/
theorem fitsGrow {F : Int → List (Int × Int)} {n K q k B Bi g : Nat} {start ad : Int} {w w1 w2 : World} {Ts : List RowH} {T0 T1 : RowH} (h : TabG rowsIK intK B Bi w (.slice (some ⟨g, 0, none⟩) K K) Ts (rowsTo F n start ad K q k) q) (hl : Ts.length = K) (hq : q < Ts.length) (hqK : q < K)
    (hf : fitB F (start + (q : Int) * ad) (q : Int) k = true) (h0 : T0 = Ts[q]) (x : Ext w w1) (gr : w1.grownBy w2 (rowH T0).ownBlock) (o2 : intK.Own Bi w2 (rowH T1) (fitTo F (start + (q : Int) * ad) (q : Int) k ++ [(k : Int)])) :
    TabG rowsIK intK B Bi (w2.setCell ⟨g, q, none⟩ (rowH T1)) (.slice (some ⟨g, 0, none⟩) K K) (Ts.set q T1) (rowsTo F n start ad K q (k + 1)) q ∧ w2.cell? ⟨g, q, none⟩ = some (rowH T0) ∧ g < w2.heap.size ∧ w2.frozen? ⟨g, q, none⟩ = false := by
  subst h0
  refine ⟨?_, ?_⟩
  · have := h.grow hl rfl (fun _ => rfl) hq (Ne.symm rowsI_ne) T1 x gr o2
    have e : fitTo F (start + (q : Int) * ad) (q : Int) k ++ [(k : Int)] = fitTo F (start + (q : Int) * ad) (q : Int) (k + 1) := by rw [fitTo_succ, hf, if_pos rfl]
    rwa [e, rowsTo_set hqK] at this
  · have ho := (h.tab.own.ext x).kept gr (own_ne (h.tab.own.ext x) ((h.row hq (by rw [rowsTo_len]; exact hqK)).ext x) rowsI_ne)
    obtain ⟨g', cg, hge, _, hgl, hgc, hgf⟩ := ho.slot (j := q) hq
    simp only [Value.slice.injEq, Option.some.injEq, Addr.mk.injEq] at hge
    obtain ⟨⟨rfl, -⟩, -, -⟩ := hge
    have g0 := hgc 0 _ rfl
    simp only [rowsIK, Nat.mul_one, Nat.add_zero] at g0
    exact ⟨g0, hgl, hgf q⟩

set_option maxRecDepth 100000 in
set_option maxHeartbeats 16000000 in
theorem fits_one (hb ho hc : Nat) (va vb rv : Value) (p : OneT) (start : Int) (la : Nat) (w : World) (h : OneAt w hb ho va vb rv p) (hk : OneOk p) (hs : 0 ≤ start ∧ start ≤ 10000)
    (F : Int → List (Int × Int)) (hF : F = basesF (liftL p.ros p.rub) p.th p.rd) (hla : F (la : Int) ≠ []) (hle : ∀ d, F d ≠ [] → 0 ≤ d ∧ d ≤ (la : Int)) (hl11 : la ≤ 11)
    (hne : ∀ c : Nat, c ≤ la → fitTo F (start + (c : Int) * p.ad) (c : Int) p.ros.length ≠ []) :
    Calls Tryz.prog 38 #[oneV hb ho hc rv p.th p.ad, .agg #[.int .i64 0, .int .i64 p.th, .int .i64 p.ad, .int .i64 start, .int .i64 start], .int .i64 start] w fun e w' =>
      ∃ v Ts, e = .returned (.tuple #[v, .int .i64 0]) ∧ TabM rowsIK intK w.heap.size w' v Ts (fitsL F p.ros.length start p.ad (la + 1)) ∧ Ext w w' := by
  have HCK := Lib.hid fun (W : World) (x : Ext w W) => checkPic_one hb ho hc va vb rv p W (h.ext x) hk
  have HMT := Lib.hid fun (W : World) (x : Ext w W) => (show Calls Tryz.prog 65 #[oneV hb ho hc rv p.th p.ad, .int .i64 0, .int .i64 p.th] W fun e w' =>
      ∃ M, e = .returned (.agg #[.int .i64 0, .int .i64 p.th, .map (some M)]) ∧ W.heap.size ≤ M ∧ BasesAt p.ros.length W.heap.size F M w' ∧ Ext W w' from by
    have hx := h.ext x
    rw [hF]
    exact mntd_any hb ho 1 hc 0 rv va vb p.th p.th p.ad p.ad p.th p.ros p.rub p.rd W (by omega) (by simpa using hx.h0) (by simpa using hx.h1) hx.ros hx.rub hk.fine hx.rd
      (fun r hr => by obtain ⟨a, b, c, d, e⟩ := hk.rd r hr; exact ⟨⟨a.1, by omega⟩, ⟨b.1, by omega⟩, ⟨by omega, by omega⟩, ⟨by omega, by omega⟩⟩) hk.len.2 hk.th)
  have HW := Lib.hid fun (x lo hi : Int) (W : World) (hx : inB lo hi x = true) => (show Calls Tryz.prog 37 #[.int .i64 x, .int .i64 lo, .int .i64 hi] W fun e w' => e = .returned (.bool true) ∧ W = w' from by
    have := readWithin_any x lo hi W
    rwa [hx] at this)
  obtain ⟨zs, rs, th, ad, rd⟩ := p
  simp only at HCK HMT hne ⊢
  obtain ⟨AR, nr, cr, rfl, -, -, -, -⟩ := h.rd.open_
  obtain ⟨hF1, ⟨t1, t2⟩, ⟨a1, a2⟩, -, -⟩ := hk
  simp only at hF1 t1 t2 a1 a2
  obtain ⟨Av, n, cv, rfl, -, hzr, -⟩ := h.ros.open_
  have hln := hzr.len
  simp only at hln
  have hlo : 3 ≤ n := by rw [← hln]; exact hF1.lo
  have hhi : n ≤ 96 := by rw [← hln]; exact hF1.hi
  rw [hln] at HMT hne ⊢
  have HH := Lib.hid h.h0
  have HFL := Lib.hid (show ∀ d, F d = [] ∨ (F d).length = n from fun d => by
    rw [hF]
    have := basesF_len (liftL zs rs) th rd d
    rwa [liftL_len, hln] at this)
  obtain ⟨s1, s2⟩ := hs
  have HLA := Lib.hid hla
  have HLE := Lib.hid hle
  have HNE := Lib.hid hne
  clear h hF1 hzr hln hF hla hle hne
  go_enter Tryz.func38, Tryz.ntmps38
  go_wp2_with fail
  refine lay_calls (fun W => BoxAt w.heap.size #[.slice (some ⟨hb, ho, none⟩) 1 hc, .int .i64 th, .int .i64 th, .int .i64 ad, .int .i64 ad, .slice AR nr cr] 28 W ∧ BoxAt (w.heap.size + 1) #[.int .i64 0, .int .i64 th, .int .i64 ad, .int .i64 start, .int .i64 start] 57 W ∧ Ext w W) ⟨?_, ?_, ((Ext.refl w).alloc _).alloc _⟩ ?_
  · exact (BoxAt.new w _ _).ext ((Ext.refl _).alloc _)
  · have := BoxAt.new (w.alloc (.cells #[.slice (some ⟨hb, ho, none⟩) 1 hc, .int .i64 th, .int .i64 th, .int .i64 ad, .int .i64 ad, .slice AR nr cr] 28)) #[.int .i64 0, .int .i64 th, .int .i64 ad, .int .i64 start, .int .i64 start] 57
    simpa using this
  rintro W0 ⟨bp, bf, x0⟩
  refine (HCK.out _ x0).mono ?_
  rintro e W1 ⟨rfl, x1⟩
  have HX1 := Lib.hid (x0.trans x1)
  have HBP := Lib.hid (bp.ext x1)
  have HBF := Lib.hid (bf.ext x1)
  have p0 := HBP.out.cell (i := 0) rfl
  have p1 := HBP.out.cell (i := 1) rfl
  have p2 := HBP.out.cell (i := 2) rfl
  have p3 := HBP.out.cell (i := 3) rfl
  have p4 := HBP.out.cell (i := 4) rfl
  have p5 := HBP.out.cell (i := 5) rfl
  have f0 := HBF.out.cell (i := 0) rfl
  have f1 := HBF.out.cell (i := 1) rfl
  have f2 := HBF.out.cell (i := 2) rfl
  have f3 := HBF.out.cell (i := 3) rfl
  have f4 := HBF.out.cell (i := 4) rfl
  have lp := cell_lt p0
  have lf := cell_lt f0
  clear x0 x1 bp bf
  go_wp2_with (first
    | (go_at_call 37; refine (HW.out _ _ _ _ (by rw [inB_iff]; omega)).mono ?_; rintro e w' ⟨rfl, rfl⟩))
  refine (HMT.out _ HX1.out).mono ?_
  rintro e W2 ⟨M, rfl, hM, ba, x2⟩
  have HX2 := Lib.hid (HX1.out.trans x2)
  have HBP2 := Lib.hid (HBP.out.ext x2)
  have HBF2 := Lib.hid (HBF.out.ext x2)
  have HBA := Lib.hid ba
  have HML := Lib.hid ba.lt
  obtain ⟨f, hpt, hnn, hfo, -⟩ := ba.ex
  have HNN := Lib.hid hnn
  have HFO := Lib.hid hfo
  have HPT := Lib.hid hpt
  clear p0 p1 p2 p3 p4 p5 f0 f1 f2 f3 f4 lp lf x2 ba hpt hnn hfo HBP HBF
  go_upto_region 7 with fail
  refine lay_wp (fun W => BoxAt W2.heap.size #[.int .i64 0, .int .i64 th, .map (some M)] 119 W ∧ Ext W2 W) ⟨BoxAt.new W2 _ _, (Ext.refl _).alloc _⟩ ?_
  rintro W3 ⟨b3, x3⟩
  have HX3 := Lib.hid x3
  have HPT3 := Lib.hid (HPT.out.ext x3)
  obtain ⟨bm, hbm⟩ : ∃ b, b = W2.heap.size := ⟨_, rfl⟩
  rw [← hbm] at b3 ⊢
  have HBM := Lib.hid hbm
  have HB3 := Lib.hid b3
  have m2 := b3.cell (i := 2) rfl
  have lm := cell_lt m2
  clear b3 x3 hbm
  go_wp2_with (at_range; refine wpList_rangeM (G := basesK n) rfl _ rfl rfl HPT3.out ?_; intro W5 X5 R5 s5)
  go_frame
  obtain ⟨r, hr⟩ : ∃ r, W3.heap.size = r := ⟨_, rfl⟩
  rw [hr] at R5 ⊢
  have HR := Lib.hid hr
  have HR5 := Lib.hid R5
  have HX5 := Lib.hid X5
  clear X5 R5 s5 hr m2 lm
  go_loopw [10] (fun iv W => ∃ (l : Nat) (S : Int → Bool), l ≤ la ∧ iv = .int .i64 (l : Int) ∧ (basesK n).Rg M r f S W ∧ (∀ d, S d = true → f d ≠ none → d ≤ (l : Int)) ∧ Ext W3 W) (fun _ W => W.rangeLeft M r)
  case atStart => exact ⟨0, fun _ => false, by omega, rfl, HR5.out, fun d e => (by cases e), HX5.out⟩
  case round =>
    obtain ⟨l, S, hl, rfl, hR, hS, hx⟩ := hrel
    have HRG := Lib.hid hR
    have HS := Lib.hid hS
    have HXW := Lib.hid hx
    clear hR hS hx
    go_wp2_with (at_next; refine wpList_nextM (G := basesK n) rfl _ rfl rfl HRG.out ?_ ?_)
    · intro hall
      have hle : l = la := by
        have h1 : f (la : Int) ≠ none := fun e => HLA.out ((HNN.out _).1 e)
        have := HS.out _ (hall _ h1) h1
        omega
      have HL := Lib.hid hle
      have HXA := Lib.hid (HX2.out.trans (HX3.out.trans HXW.out))
      have w1 : IntKind.i64.wrap ((l : Int) + 1) = (l : Int) + 1 := IntWalk.i64_in _ (by omega)
      have w2 : (0 : Int) ≤ (l : Int) + 1 := by omega
      have w3 : ((l : Int) + 1).toNat = l + 1 := by omega
      obtain ⟨K, hK⟩ : ∃ K, K = l + 1 := ⟨_, rfl⟩
      have hKi : (l : Int) + 1 = (K : Int) := by omega
      rw [hKi] at w1 w2 w3
      have HKL := Lib.hid hK
      have hK12 : K ≤ 12 := by omega
      have hmk : ∀ W : World, (Instr.makeSlice 85 (.int .i64 ((l : Int) + 1)) (.int .i64 ((l : Int) + 1))).run Tryz.prog W = .ok (.slice (some ⟨W.heap.size, 0, none⟩) K K) (W.alloc (.cells (madeCells #[.slice none 0 0] K) 22)) := fun W => by
        rw [hKi]
        exact run_make_row' (P := Tryz.prog) 85 22 (.slice none 0 0) 24 Tryz.underlying85 rowIInfo rfl .i64 .i64 K (by omega) (by omega) W
      clear hall hle hK hKi w1 w2 w3
      have w1 : IntKind.i64.wrap ((l : Int) + 1) = (l : Int) + 1 := IntWalk.i64_in _ (by omega)
      go_wp2_with fail
      refine lay_wp (fun W => TabM rowsIK intK wr.heap.size W (.slice (some ⟨wr.heap.size, 0, none⟩) K K) (List.replicate K (none, 0, 0)) (rowsTo F n start ad K 0 0) ∧ Ext wr W) ⟨by rw [rowsTo_zero]; exact tab_new wr _ K (Nat.le_refl _) (by omega), (Ext.refl _).alloc _⟩ ?_
      rintro W7 ⟨tb, x7⟩
      obtain ⟨g, hg⟩ : ∃ g, g = wr.heap.size := ⟨_, rfl⟩
      rw [← hg] at tb ⊢
      have HG := Lib.hid hg
      have HTB := Lib.hid tb
      have HX7 := Lib.hid x7
      have HRP := Lib.hid HRG.out.pt
      obtain ⟨wo, rfl⟩ : ∃ wo, wo = wr := ⟨_, rfl⟩
      clear hmk w1 hg tb x7 HRG HS
      go_loopw [82] (fun iv W => ∃ (q : Nat) (Ts : List RowH), q ≤ K ∧ iv = .int .i64 (q : Int) ∧ TabM rowsIK intK g W (.slice (some ⟨g, 0, none⟩) K K) Ts (rowsTo F n start ad K q 0) ∧ (∀ p (h : p < Ts.length), q ≤ p → rowH Ts[p] = .slice none 0 0) ∧ Ext wo W) (fun iv _ => K - (intOf iv).toNat)
      case atStart => exact ⟨0, _, by omega, rfl, HTB.out, fun p h _ => by rw [List.getElem_replicate]; rfl, HX7.out⟩
      case round =>
        obtain ⟨q, Ts, hq, rfl, ht, hnil, hx⟩ := hrel
        have HNL := Lib.hid hnil
        clear hnil
        have HT := Lib.hid ht
        have HXT := Lib.hid hx
        by_cases hqK : q < K
        · have hqq : (q : Int) < (K : Int) := by omega
          have hlk0 := (HRP.out.ext hx).lookOk (q : Int)
          have hlk : (Instr.lookup 117 (.map (some M)) (.int .i64 (q : Int)) true).run Tryz.prog wr = .ok (.tuple #[baseV n (f q), .bool (decide (f q ≠ none))]) wr := hlk0
          have hxx := HX3.out.trans (HXW.out.trans hx)
          have p0 := (HBP2.out.ext hxx).cell (i := 0) rfl
          have m2 := (HB3.out.ext (HXW.out.trans hx)).cell (i := 2) rfl
          have z0 := (HX2.out.trans hxx).cell_some HH.out
          have l0 := cell_lt p0
          have l1 := cell_lt m2
          have l2 := cell_lt z0
          obtain ⟨bv, hbv⟩ : ∃ bv, bv = baseV n (f q) := ⟨_, rfl⟩
          obtain ⟨rb, hrb⟩ : ∃ rb, rb = decide (f q ≠ none) := ⟨_, rfl⟩
          rw [← hbv, ← hrb] at hlk
          have HBV := Lib.hid (And.intro hbv hrb)
          clear ht hx hlk0 hxx hbv hrb
          go_wp2_with fail
          obtain ⟨wq, rfl⟩ : ∃ wq, wq = wr := ⟨_, rfl⟩
          clear hlk p0 m2 z0 l0 l1 l2
          go_loopw [98] (fun iv W => ∃ (k : Nat) (Ts : List RowH), k ≤ n ∧ iv = .int .i64 (k : Int) ∧ TabG rowsIK intK g wq.heap.size W (.slice (some ⟨g, 0, none⟩) K K) Ts (rowsTo F n start ad K q k) q ∧ (∀ p (h : p < Ts.length), q < p → rowH Ts[p] = .slice none 0 0) ∧ Ext wo W) (fun iv _ => n - (intOf iv).toNat)
          case atStart => exact ⟨0, Ts, by omega, rfl, HT.out.begin (by rw [HG.out]; exact HXT.out.bel.size) (fun h => HNL.out q h (Nat.le_refl _)) (fun h => by rw [rowsTo_at hqK]; exact fitTo_zero _ _), fun p h hp => HNL.out p h (by omega), HXT.out⟩
          case round =>
            obtain ⟨k, Ts2, hk, rfl, hg2, hnil2, hx2⟩ := hrel
            have HT2 := Lib.hid hg2
            have HN2 := Lib.hid hnil2
            have ht2 := hg2.tab
            clear hg2 hnil2
            have HX2' := Lib.hid hx2
            by_cases hkn : k < n
            · have hki : (k : Int) < (n : Int) := by omega
              have hxx := HX3.out.trans (HXW.out.trans hx2)
              have f2 := (HBF2.out.ext hxx).cell (i := 2) rfl
              have lf := cell_lt f2
              have y2 := But.cells (D := []) f2 (by simp)
              obtain ⟨hbv, hrb⟩ := HBV.out
              have hTl : Ts2.length = K := by rw [ht2.len, rowsTo_len]
              have hqT : q < Ts2.length := by omega
              have HTL := Lib.hid (And.intro hTl hqT)
              rcases hfq : f q with _ | ⟨g1, k1⟩
              case none =>
                have hFq := (HNN.out q).1 hfq
                rw [hfq] at hbv hrb
                subst hbv
                have hrb' : rb = false := by rw [hrb]; rfl
                subst hrb'
                have HFB := Lib.hid (show fitB F (start + (q : Int) * ad) (q : Int) k = true by unfold fitB; rw [decide_eq_true hFq]; rfl)
                clear hfq hFq hrb ht2 hx2 hxx f2 hTl hqT lf
                go_wp2_with fail
                refine (wpIn_wide (n := 3)).1 ?_
                refine wpIn_region_steps [] 20 [(0, true), (1, true), (2, true), (3, true), (4, true), (5, true), (6, true), (7, true), (8, true), (9, true), (10, true), (11, true), (12, true), (13, true), (14, true), (15, true), (16, true), (17, true), (18, true), (19, true)] (by kernel_rfl) (by decide +kernel) ?_
                iterate 20 (refine wpSD_q (by rfl) (fun _ _ _ => trivial) (fun K hK => ?_); go_simp; refine hK _ ?_; clear hK K)
                refine wpSD_nil ?_
                intro W8 x8
                have HX8 := Lib.hid x8
                clear x8 y2
                simp only [List.drop_succ_cons, List.drop_zero]
                gi_wp2
                have HT8 := Lib.hid (HT2.out.ext HX8.out)
                obtain ⟨g', cg, hge, _, hgl, hgc, hgf⟩ := HT8.out.tab.own.slot (j := q) HTL.out.2
                simp only [Value.slice.injEq, Option.some.injEq, Addr.mk.injEq] at hge
                obtain ⟨⟨rfl, -⟩, -, -⟩ := hge
                have g0 := hgc 0 _ rfl
                simp only [rowsIK, Nat.mul_one, Nat.add_zero] at g0
                have HRW := Lib.hid (HT8.out.row HTL.out.2 (by rw [rowsTo_len]; exact hqK))
                rw [rowsTo_at hqK] at HRW
                obtain ⟨T0, hT0⟩ : ∃ T, T = Ts2[q]'HTL.out.2 := ⟨_, rfl⟩
                rw [← hT0] at g0 HRW
                have HT0 := Lib.hid hT0
                obtain ⟨ra, rn, rc⟩ := T0
                have HFL2 := Lib.hid (show (fitTo F (start + (q : Int) * ad) (q : Int) k).length ≤ 1000000000 by
                  unfold fitTo
                  have := List.length_filter_le (fitB F (start + (q : Int) * ad) (q : Int)) (List.range k)
                  rw [List.length_range] at this
                  rw [List.length_map]; omega)
                clear hgc hgf hT0
                go_wp2_with (at_builtin; refine EK.app (K := intK) (B := wq.heap.size) (xs := fitTo F (start + (q : Int) * ad) (q : Int) k) (v := rowH (ra, rn, rc)) rfl (.tmp 127) (.tmp 129) rfl W8.heap.size 1 (k : Int) rfl rfl (fun ii u hu => cell_new hu) (HRW.out.ext ((Ext.refl _).alloc _)) (Nat.le_trans HT8.out.le.2 ((Ext.refl _).alloc _).bel.size) HFL2.out ?_; intro v' w3 o3 b3 g3; obtain ⟨Av3, kv3, cv3, rfl⟩ := o3.shape; have HTG := Lib.hid (fitsGrow (T1 := (Av3, kv3, cv3)) HT8.out HTL.out.1 HTL.out.2 hqK HFB.out HT0.out ((Ext.refl _).alloc (.cells #[.int .i64 (k : Int)] 3)) g3 o3); have HX3' := Lib.hid (show Ext wo w3 from ((HX2'.out.trans HX8.out).alloc (.cells #[.int .i64 (k : Int)] 3)).below (b3.mono (by rw [← HG.out]; exact HT8.out.le.1)) (Nat.le_refl _)); obtain ⟨c3, l3, n3⟩ := HTG.out.2; clear o3 b3 g3)
                go_roundw
                case rel => exact ⟨k + 1, _, by omega, by go_num, HTG.out.1, fun p h hp => by rw [List.getElem_set_ne (by omega)]; exact HN2.out p (by simpa using h) hp, HX3'.out.setCell (p := ⟨g, q, none⟩) (by rw [HG.out]; exact Nat.le_refl _) _⟩
                case measure => simp [intOf]; omega
              case some =>
                have hFq : F (q : Int) ≠ [] := fun e => by have := (HNN.out q).2 e; rw [hfq] at this; cases this
                have hl : (F (q : Int)).length = n := (HFL.out q).resolve_left hFq
                rw [hfq] at hbv hrb
                simp only [baseV] at hbv
                subst hbv
                have hrb' : rb = true := by rw [hrb]; rfl
                subst hrb'
                have ho := (HFO.out q g1 k1 hfq).ext hxx
                obtain ⟨g', cg, hge, _, hgl, hgc, -⟩ := ho.slot (j := k) (by omega)
                simp only [Value.slice.injEq, Option.some.injEq, Addr.mk.injEq] at hge
                obtain ⟨⟨rfl, -⟩, -, -⟩ := hge
                have g0 := hgc 0 _ rfl
                have g2 := hgc 1 _ rfl
                simp only [spanK, Nat.add_zero] at g0 g2
                obtain ⟨sp, hsp⟩ : ∃ z, z = (F (q : Int))[k] := ⟨_, rfl⟩
                rw [← hsp] at g0 g2
                obtain ⟨s0, s3⟩ := sp
                simp only at g0 g2
                have y0 := But.cells (D := []) g0 (by simp)
                have y1 := But.cells (D := []) g2 (by simp)
                have lg := cell_lt g0
                have hm : -11000 ≤ (q : Int) * ad ∧ (q : Int) * ad ≤ 11000 := by
                  have h1 := Int.mul_le_mul_of_nonneg_left a1 (show (0 : Int) ≤ q by omega)
                  have h2 := Int.mul_le_mul_of_nonneg_left a2 (show (0 : Int) ≤ q by omega)
                  omega
                obtain ⟨m1, m2⟩ := hm
                have w1 : IntKind.i64.wrap ((q : Int) * ad) = (q : Int) * ad := IntWalk.i64_in _ (by omega)
                have w2 : IntKind.i64.wrap (start + (q : Int) * ad) = start + (q : Int) * ad := IntWalk.i64_in _ (by omega)
                obtain ⟨fb, hfb⟩ : ∃ z, z = inB s0 s3 (start + (q : Int) * ad) := ⟨_, rfl⟩
                have HWI := Lib.hid fun W : World => (show Calls Tryz.prog 37 #[.int .i64 (start + (q : Int) * ad), .int .i64 s0, .int .i64 s3] W fun e w' => e = .returned (.bool fb) ∧ Ext W w' from by
                  rw [hfb]
                  exact (readWithin_any (start + (q : Int) * ad) s0 s3 W).mono (by rintro e w' ⟨h1, rfl⟩; exact ⟨h1, Ext.refl _⟩))
                have HFBE := Lib.hid (show fitB F (start + (q : Int) * ad) (q : Int) k = fb by
                  unfold fitB
                  rw [decide_eq_false hFq, List.getElem?_eq_getElem (by omega), Option.getD_some, ← hsp, hfb]
                  rfl)
                clear hfq hFq hl hrb ht2 hx2 hxx f2 ho hgc hsp g0 g2 hfb m1 m2 hTl hqT lf
                go_wp2_with fail
                refine (wpIn_wide (n := 3)).1 ?_
                refine wpIn_region_steps [] 20 [(0, true), (1, true), (2, true), (3, true), (4, true), (5, true), (6, true), (7, true), (8, true), (9, true), (10, true), (11, true), (12, true), (13, true), (14, true), (15, true), (16, true), (17, true), (18, true), (19, true)] (by kernel_rfl) (by decide +kernel) ?_
                iterate 19 (refine wpSD_q (by rfl) (fun _ _ _ => trivial) (fun K hK => ?_); go_simp; refine hK _ ?_; clear hK K)
                refine wpSD_q (by rfl) (fun _ _ _ => trivial) (fun K hK => ?_)
                go_simp
                refine ⟨.bool fb, fun δ => callsIn_wide.2 (HWI.out δ.wd), hK _ ?_⟩
                clear hK K
                refine wpSD_nil ?_
                intro W8 x8
                have HX8 := Lib.hid x8
                clear x8 y2 y0 y1 w1 w2 lg
                simp only [List.drop_succ_cons, List.drop_zero]
                gi_wp2
                cases fb
                · go_wp2_with fail
                  go_roundw
                  case rel => exact ⟨k + 1, Ts2, by omega, by go_num, by rw [rowsTo_skip hqK HFBE.out]; exact HT2.out.ext HX8.out, fun p h hp => HN2.out p h hp, HX2'.out.trans HX8.out⟩
                  case measure => simp [intOf]; omega
                · have HFB := HFBE
                  have HT8 := Lib.hid (HT2.out.ext HX8.out)
                  obtain ⟨g', cg, hge, _, hgl, hgc, hgf⟩ := HT8.out.tab.own.slot (j := q) HTL.out.2
                  simp only [Value.slice.injEq, Option.some.injEq, Addr.mk.injEq] at hge
                  obtain ⟨⟨rfl, -⟩, -, -⟩ := hge
                  have g0 := hgc 0 _ rfl
                  simp only [rowsIK, Nat.mul_one, Nat.add_zero] at g0
                  have HRW := Lib.hid (HT8.out.row HTL.out.2 (by rw [rowsTo_len]; exact hqK))
                  rw [rowsTo_at hqK] at HRW
                  obtain ⟨T0, hT0⟩ : ∃ T, T = Ts2[q]'HTL.out.2 := ⟨_, rfl⟩
                  rw [← hT0] at g0 HRW
                  have HT0 := Lib.hid hT0
                  obtain ⟨ra, rn, rc⟩ := T0
                  have HFL2 := Lib.hid (show (fitTo F (start + (q : Int) * ad) (q : Int) k).length ≤ 1000000000 by
                    unfold fitTo
                    have := List.length_filter_le (fitB F (start + (q : Int) * ad) (q : Int)) (List.range k)
                    rw [List.length_range] at this
                    rw [List.length_map]; omega)
                  clear hgc hgf hT0
                  go_wp2_with (at_builtin; refine EK.app (K := intK) (B := wq.heap.size) (xs := fitTo F (start + (q : Int) * ad) (q : Int) k) (v := rowH (ra, rn, rc)) rfl (.tmp 127) (.tmp 129) rfl W8.heap.size 1 (k : Int) rfl rfl (fun ii u hu => cell_new hu) (HRW.out.ext ((Ext.refl _).alloc _)) (Nat.le_trans HT8.out.le.2 ((Ext.refl _).alloc _).bel.size) HFL2.out ?_; intro v' w3 o3 b3 g3; obtain ⟨Av3, kv3, cv3, rfl⟩ := o3.shape; have HTG := Lib.hid (fitsGrow (T1 := (Av3, kv3, cv3)) HT8.out HTL.out.1 HTL.out.2 hqK HFB.out HT0.out ((Ext.refl _).alloc (.cells #[.int .i64 (k : Int)] 3)) g3 o3); have HX3' := Lib.hid (show Ext wo w3 from ((HX2'.out.trans HX8.out).alloc (.cells #[.int .i64 (k : Int)] 3)).below (b3.mono (by rw [← HG.out]; exact HT8.out.le.1)) (Nat.le_refl _)); obtain ⟨c3, l3, n3⟩ := HTG.out.2; clear o3 b3 g3)
                  go_roundw
                  case rel => exact ⟨k + 1, _, by omega, by go_num, HTG.out.1, fun p h hp => by rw [List.getElem_set_ne (by omega)]; exact HN2.out p (by simpa using h) hp, HX3'.out.setCell (p := ⟨g, q, none⟩) (by rw [HG.out]; exact Nat.le_refl _) _⟩
                  case measure => simp [intOf]; omega
            · obtain rfl : n = k := by omega
              have HT3 := Lib.hid (show TabM rowsIK intK g wr (.slice (some ⟨g, 0, none⟩) K K) Ts2 (rowsTo F n start ad K (q + 1) 0) by rw [← rowsTo_next]; exact ht2)
              have hTl : Ts2.length = K := by rw [ht2.len, rowsTo_len]
              have hrow := ht2.row q (by omega) (by rw [rowsTo_len]; exact hqK)
              rw [rowsTo_at hqK] at hrow
              have hnz := HNE.out q (by have := HKL.out; have := HL.out; omega)
              obtain ⟨g', cg, hge, _, hgl, hgc, hgf⟩ := ht2.own.slot (j := q) (by omega)
              simp only [Value.slice.injEq, Option.some.injEq, Addr.mk.injEq] at hge
              obtain ⟨⟨rfl, -⟩, -, -⟩ := hge
              have g0 := hgc 0 _ rfl
              simp only [rowsIK, Nat.mul_one, Nat.add_zero] at g0
              obtain ⟨⟨ra, rn, rc⟩, hT⟩ : ∃ T, T = Ts2[q] := ⟨_, rfl⟩
              rw [← hT] at g0 hrow
              have hrn : rn ≠ 0 := fun e => by
                have h1 := hrow.is.open_
                obtain ⟨A, m, c, e1, e2, _⟩ := h1
                simp only [rowH, Value.slice.injEq] at e1
                exact hnz (List.length_eq_zero_iff.1 (by omega))
              have hrn' : ¬ (rn : Int) = 0 := by omega
              clear ht2 hx2 hgc hgf hrow hnz hT hTl hrn
              go_wp2_with fail
              go_roundw
              case rel => exact ⟨q + 1, Ts2, by omega, by go_num, HT3.out, fun p h hp => HN2.out p h (by omega), HX2'.out⟩
              case measure => simp [intOf]; omega
        · obtain rfl : K = q := by omega
          have HT2 := Lib.hid (show TabM rowsIK intK g wr (.slice (some ⟨g, 0, none⟩) K K) Ts (fitsL F n start ad K) by rw [← rowsTo_all]; exact ht)
          clear ht hx
          go_wp2_with fail
          go_ret2
          refine ⟨_, Ts, rfl, ?_, HXA.out.trans HXT.out⟩
          have h1 := HT2.out.mono (B' := w.heap.size) (by rw [HG.out]; exact HXA.out.bel.size)
          have e : la + 1 = K := by have := HKL.out; have := HL.out; omega
          rw [e]
          exact h1
    · intro d hd hSd W6 g6 hsz6 R6 hlt6 hent
      replace hent : (Instr.entry (.pointer (some ⟨r, 0, none⟩))).run Tryz.prog W6 = .ok (.tuple #[.int .i64 d, baseV n (f d)]) W6 := hent
      have hd2 := HLE.out d (fun e => hd ((HNN.out _).2 e))
      obtain ⟨dn, rfl⟩ : ∃ dn : Nat, d = dn := ⟨d.toNat, by omega⟩
      have HR6 := Lib.hid R6
      have HLT := Lib.hid hlt6
      have HX6 := Lib.hid (show Ext W3 W6 from ext_iterM HXW.out g6 (Nat.le_of_eq HR.out))
      clear g6 hsz6 R6 hlt6 hSd hd
      have hke : (basesK n).key (dn : Int) = .int .i64 dn := rfl
      have hva : (basesK n).val (f dn) = baseV n (f dn) := rfl
      rw [hke, hva]
      obtain ⟨bv, hbv⟩ : ∃ bv, bv = baseV n (f dn) := ⟨_, rfl⟩
      rw [← hbv] at hent ⊢
      have HS6 := Lib.hid (show ∀ d, (decide (d = (dn : Int)) || S d) = true → f d ≠ none → d ≤ ((max l dn : Nat) : Int) from fun d h1 h2 => by
        rcases Bool.or_eq_true_iff.1 h1 with h | h
        · have := of_decide_eq_true h
          omega
        · have := HS.out d h h2
          omega)
      clear hke hva hbv
      go_wp2_with fail
      go_roundw
      case rel => exact ⟨max l dn, _, by omega, by first | rfl | (congr 1; omega), HR6.out, HS6.out, HX6.out⟩
      case measure => exact HLT.out
end Go.Proofs.YtkjgcmdabelohaaGreat
