/- read.mounted: the map of bases. Condition: the rosette and the rubber are valid, the readings lie in their bounds. -/
import Derived.Test.YtkjgcmdabelohaaGreatPBase
import Derived.Test.YtkjgcmdabelohaaGreatMNet
import Derived.Deep.Cut
namespace Go.Proofs.YtkjgcmdabelohaaGreat
open Go.RowKit Go.ChangeMaps

/-- A span, narrowed by a reading at a place as high as h. -/
def spanUp (s : Int × Int) (lo hi h : Int) : Int × Int := (max s.1 (lo - h), min s.2 (hi - h))
def highM (L : List Int) (th : Int) (s ph : Nat) : Int := th * L[(s + L.length - ph) % L.length]?.getD 0
def rowTo (L : List Int) (th : Int) (r : Int × Int × Int × Int) (xs : List (Int × Int)) (k : Nat) : List (Int × Int) :=
  (List.range L.length).map fun ph => if ph < k then spanUp (xs[ph]?.getD (0, 0)) r.2.2.1 r.2.2.2 (highM L th r.2.1.toNat ph) else xs[ph]?.getD (0, 0)
def infS (n : Nat) : List (Int × Int) := List.replicate n (-1099511627776, 1099511627776)
def addF (n : Nat) (F : Int → List (Int × Int)) (c : Int) : Int → List (Int × Int) := if F c = [] then updM' F c (infS n) else F
def baseUp (L : List Int) (th : Int) (F : Int → List (Int × Int)) (r : Int × Int × Int × Int) : Int → List (Int × Int) :=
  updM' (addF L.length F r.1) r.1 (rowTo L th r (addF L.length F r.1 r.1) L.length)
def basesF (L : List Int) (th : Int) (rd : List (Int × Int × Int × Int)) : Int → List (Int × Int) := rd.foldl (baseUp L th) fun _ => []
theorem rowTo_len (L : List Int) (th : Int) (r : Int × Int × Int × Int) (xs : List (Int × Int)) (k : Nat) : (rowTo L th r xs k).length = L.length := by simp [rowTo]
theorem rowTo_zero {L : List Int} {th : Int} {r : Int × Int × Int × Int} {xs : List (Int × Int)} (h : xs.length = L.length) : rowTo L th r xs 0 = xs := by
  apply List.ext_getElem
  · rw [rowTo_len, h]
  · intro i h1 h2
    simp [rowTo, List.getElem?_eq_getElem h2]
theorem rowTo_set {L : List Int} {th : Int} {r : Int × Int × Int × Int} {xs : List (Int × Int)} {k : Nat} :
    (rowTo L th r xs k).set k (spanUp (xs[k]?.getD (0, 0)) r.2.2.1 r.2.2.2 (highM L th r.2.1.toNat k)) = rowTo L th r xs (k + 1) := by
  apply List.ext_getElem
  · rw [List.length_set, rowTo_len, rowTo_len]
  · intro i h1 h2
    rw [List.getElem_set]
    simp only [rowTo, List.getElem_map, List.getElem_range]
    by_cases e : k = i
    · subst e; rw [if_pos rfl, if_pos (by omega)]
    · rw [if_neg e]
      by_cases hlt : i < k
      · rw [if_pos hlt, if_pos (by omega)]
      · rw [if_neg hlt, if_neg (by omega)]
theorem rowTo_at {L : List Int} {th : Int} {r : Int × Int × Int × Int} {xs : List (Int × Int)} {k : Nat} (hk : k < L.length) : (rowTo L th r xs k)[k]? = some (xs[k]?.getD (0, 0)) := by
  simp [rowTo, hk]
theorem updM_self {κ ε : Type} [DecidableEq κ] (F : κ → ε) (c : κ) : updM' F c (F c) = F := by
  funext d
  unfold updM'
  split
  · rename_i h; rw [h]
  · rfl
theorem basesF_take {L : List Int} {th : Int} {rd : List (Int × Int × Int × Int)} {q : Nat} (h : q < rd.length) : basesF L th (rd.take (q + 1)) = baseUp L th (basesF L th (rd.take q)) rd[q] := by
  unfold basesF
  rw [List.take_succ_eq_append_getElem h, List.foldl_append]
  rfl
theorem addF_len {n : Nat} {F : Int → List (Int × Int)} (c : Int) (h : ∀ d, F d = [] ∨ (F d).length = n) : (addF n F c c).length = n := by
  unfold addF
  split
  · rw [upd_at]; simp [infS]
  · rcases h c with h | h
    · contradiction
    · exact h
theorem basesF_len (L : List Int) (th : Int) (rd : List (Int × Int × Int × Int)) : ∀ d, basesF L th rd d = [] ∨ (basesF L th rd d).length = L.length := by
  unfold basesF
  suffices H : ∀ (rd : List (Int × Int × Int × Int)) (F : Int → List (Int × Int)), (∀ d, F d = [] ∨ (F d).length = L.length) → ∀ d, rd.foldl (baseUp L th) F d = [] ∨ (rd.foldl (baseUp L th) F d).length = L.length from H rd _ fun _ => .inl rfl
  intro rd
  induction rd with
  | nil => intro F h; exact h
  | cons r rd ih =>
    intro F h
    rw [List.foldl_cons]
    refine ih _ fun d => ?_
    unfold baseUp updM'
    split
    · exact .inr (rowTo_len _ _ _ _ _)
    · unfold addF
      split
      · unfold updM'
        split
        · exact .inr (by simp [infS])
        · exact h d
      · exact h d

/-- A reading is in its bounds. -/
def RdOk (n : Nat) (r : Int × Int × Int × Int) : Prop := (0 ≤ r.1 ∧ r.1 < 12) ∧ (0 ≤ r.2.1 ∧ r.2.1 < n) ∧ (-20000000 ≤ r.2.2.1 ∧ r.2.2.1 ≤ 20000000) ∧ (-20000000 ≤ r.2.2.2 ∧ r.2.2.2 ≤ 20000000)

theorem high_fact {L : List Int} {th : Int} {n s ph : Nat} (hl : L.length = n) (hs : s < n) (hp : ph < n) (ht : 1 ≤ th ∧ th ≤ 16) (hL : ∀ i : Nat, 0 ≤ L[i]?.getD 0 ∧ L[i]?.getD 0 ≤ 10000) :
    ∃ k, k < n ∧ ((s : Int) - ph + n).tmod n = (k : Int) ∧ highM L th s ph = th * L[k]?.getD 0 ∧ 0 ≤ highM L th s ph ∧ highM L th s ph ≤ 160000 := by
  refine ⟨(s + n - ph) % n, Nat.mod_lt _ (by omega), ?_, by unfold highM; rw [hl], ?_⟩
  · rw [show (s : Int) - ph + n = ((s + n - ph : Nat) : Int) by omega, Int.tmod_eq_emod_of_nonneg (by omega)]
    rfl
  · unfold highM
    obtain ⟨h1, h2⟩ := hL ((s + L.length - ph) % L.length)
    generalize L[(s + L.length - ph) % L.length]?.getD 0 = y at *
    have h3 := Int.mul_le_mul ht.2 h2 h1 (show (0 : Int) ≤ 16 by omega)
    exact ⟨Int.mul_nonneg (by omega) h1, by omega⟩

theorem Own_cap {n B : Nat} {xs : List (Int × Int)} {v : Value} {W : World} (h : spanK.Own B W v xs) (hl : xs.length = n) (hn : 1 ≤ n) : ∃ g k, v = .slice (some ⟨g, 0, none⟩) n k := by
  rcases h.2 with ⟨rfl, h0⟩ | ⟨g, cap, cur, rfl, _⟩
  · omega
  · exact ⟨g, cap, by rw [hl]⟩

set_option maxRecDepth 100000 in
set_option maxHeartbeats 16000000 in
theorem mntd_any (hb ho hn hc i : Nat) (rv va vb : Value) (tl tu al au th : Int) (zs rs : List Int) (rd : List (Int × Int × Int × Int)) (w : World) (hi : i < hn)
    (h0 : w.cell? ⟨hb, ho + i * 2, none⟩ = some va) (h1 : w.cell? ⟨hb, ho + i * 2 + 1, none⟩ = some vb) (hf : IsI w va zs) (hr : IsI w vb rs) (hF : Fine zs rs) (hrd : readK.Is w rv rd) (hok : ∀ r ∈ rd, RdOk zs.length r) (hrl : rd.length ≤ 60) (ht : 1 ≤ th ∧ th ≤ 16) :
    Calls Tryz.prog 65 #[.agg #[.slice (some ⟨hb, ho, none⟩) hn hc, .int .i64 tl, .int .i64 tu, .int .i64 al, .int .i64 au, rv], .int .i64 (i : Int), .int .i64 th] w fun e w' =>
      ∃ M, e = .returned (.agg #[.int .i64 (i : Int), .int .i64 th, .map (some M)]) ∧ w.heap.size ≤ M ∧ BasesAt zs.length w.heap.size (basesF (liftL zs rs) th rd) M w' ∧ Ext w w' := by
  have HL := Lib.hid fun (W : World) (x : Ext w W) => (show Calls Tryz.prog 55 #[va, vb] W (RetOE W (liftL zs rs) 0) from by
    have := Lift_any va vb zs rs W (hf.ext x) (hr.ext x)
    rwa [fOr, if_pos (fine_iff.2 hF), fine_iff.2 hF] at this)
  obtain ⟨Av, nv, cv, rfl, -, -, -⟩ := hf.open_
  obtain ⟨Aw, nw, cw, rfl, -, -, -⟩ := hr.open_
  obtain ⟨n, hnz⟩ : ∃ n, n = zs.length := ⟨_, rfl⟩
  have HLN := Lib.hid (show (liftL zs rs).length = n by rw [hnz]; exact liftL_len _ _)
  have HLH := Lib.hid (show ∀ k : Nat, 0 ≤ (liftL zs rs)[k]?.getD 0 ∧ (liftL zs rs)[k]?.getD 0 ≤ 10000 from fun k => hF.lift.hx k)
  have hn1 : 3 ≤ n := by rw [hnz]; exact hF.lo
  have hn2 : n ≤ 96 := by rw [hnz]; exact hF.hi
  rw [← hnz] at hok ⊢
  have HRE := Lib.hid fun (b0 c0 : Nat) (W : World) (z1 : W.cell? ⟨b0, 0, none⟩ = some (.int .i64 (-1099511627776))) (z2 : W.cell? ⟨b0, 1, none⟩ = some (.int .i64 1099511627776)) => repeatS_any b0 c0 (-1099511627776, 1099511627776) n W z1 z2 (by omega)
  obtain ⟨AR, nr, cr, rfl, hrn, hrA, hrR, hrm⟩ := hrd.open_
  have HRN := Lib.hid hrn
  have HRR := Lib.hid hrR
  have HOK := Lib.hid (show ∀ q (hq : q < rd.length), RdOk n rd[q] from fun q hq => hok _ (List.getElem_mem hq))
  have hnr : nr ≤ 60 := by omega
  generalize HLL : liftL zs rs = L at *
  have hii : (i : Int) < (hn : Int) := by omega
  clear hf hr hF hrd hok hrl hrn hrA hrR hnz HLL
  have l0 := cell_lt h0
  go_enter Tryz.func65, Tryz.ntmps65
  go_wp2_with fail
  refine lay_calls (fun W => BoxAt w.heap.size #[.slice (some ⟨hb, ho, none⟩) hn hc, .int .i64 tl, .int .i64 tu, .int .i64 al, .int .i64 au, .slice AR nr cr] 28 W ∧ BoxAt (w.heap.size + 1) #[.int .i64 0, .int .i64 0, .map none] 119 W ∧ Ext w W)
    ⟨?_, ?_, ?_⟩ ?_
  · exact ((BoxAt.new w _ _).ext ((Ext.refl _).alloc _)).ext ((Ext.refl _).alloc _)
  · refine BoxAt.ext (W := (w.alloc _).alloc _) ?_ ((Ext.refl _).alloc _)
    have := BoxAt.new (w.alloc (.cells #[.slice (some ⟨hb, ho, none⟩) hn hc, .int .i64 tl, .int .i64 tu, .int .i64 al, .int .i64 au, .slice AR nr cr] 28)) #[.int .i64 0, .int .i64 0, .map none] 119
    simpa using this
  · exact (((Ext.refl w).alloc _).alloc _).alloc _
  rintro W0 ⟨bp, br, x0⟩
  refine (HL.out _ x0).mono ?_
  rintro e W1 ⟨lv, rfl, ol, x1⟩
  obtain ⟨AL, nl, cl, rfl, _, hrl, _⟩ := ol.isI.open_
  obtain rfl : n = nl := by rw [← hrl.len, HLN.out]
  have HX1 := Lib.hid (x0.trans x1)
  have HBP := Lib.hid (bp.ext x1)
  have HBR := Lib.hid (br.ext x1)
  have HOL := Lib.hid hrl
  clear x0 x1 bp br ol hrl h0 h1 l0
  have hmm := @run_makeMap Tryz.prog
  have p5 := HBP.out.cell (i := 5) rfl
  have lp := cell_lt p5
  go_wp2_with fail
  refine lay_wp (fun W => BasesAt n W1.heap.size (basesF L th (rd.take 0)) W1.heap.size W ∧ BoxAt (W1.heap.size + 1) #[.int .i64 (i : Int), .int .i64 th, .map (some W1.heap.size)] 119 W ∧ Ext W1 W) ⟨?_, ?_, ((Ext.refl W1).alloc _).alloc _⟩ ?_
  · exact (BasesAt.new n _ W1).ext ((Ext.refl _).alloc _)
  · have := BoxAt.new (W1.alloc (.map #[] 0)) #[.int .i64 (i : Int), .int .i64 th, .map (some W1.heap.size)] 119
    simpa using this
  rintro W2 ⟨bs, bm, x2⟩
  obtain ⟨M, hM⟩ : ∃ M, M = W1.heap.size := ⟨_, rfl⟩
  rw [← hM] at bs bm ⊢
  have HB2 := Lib.hid bs
  have HM2 := Lib.hid bm
  have HX2 := Lib.hid x2
  have HM := Lib.hid hM
  clear hmm p5 lp hM bs bm x2
  go_loopw [39] (fun iv W => ∃ q : Nat, q ≤ nr ∧ iv = .int .i64 (q : Int) ∧ BasesAt n M (basesF L th (rd.take q)) M W ∧ BoxAt (M + 1) #[.int .i64 (i : Int), .int .i64 th, .map (some M)] 119 W ∧ Ext W1 W) (fun iv _ => nr - (intOf iv).toNat)
  case atStart => exact ⟨0, by omega, rfl, HB2.out, HM2.out, HX2.out⟩
  case round =>
    obtain ⟨q, hq, rfl, hb, hm, hx⟩ := hrel
    have HB := Lib.hid hb
    have HMB := Lib.hid hm
    have HX := Lib.hid hx
    clear hb hm hx
    by_cases hlt : q < nr
    · obtain ⟨hpl, hrow⟩ := (show q < rd.length ∧ True from ⟨by rw [HRN.out]; exact hlt, trivial⟩)
      obtain ⟨⟨k1, k2⟩, ⟨k3, k4⟩, ⟨k5, k6⟩, ⟨k7, k8⟩⟩ := HOK.out q hpl
      obtain ⟨b2, o2, rfl, lb2, hcs⟩ := HRR.out q hpl
      have HTK := Lib.hid (basesF_take (L := L) (th := th) (rd := rd) hpl)
      have HFL := Lib.hid (basesF_len L th (rd.take q))
      obtain ⟨F0, hF0⟩ : ∃ F0, F0 = basesF L th (rd.take q) := ⟨_, rfl⟩
      rw [← hF0] at HTK HFL HB
      obtain ⟨rr, hrr⟩ : ∃ z, z = rd[q] := ⟨_, rfl⟩
      rw [← hrr] at k1 k2 k3 k4 k5 k6 k7 k8 hcs HTK
      obtain ⟨cu, st, lo, hiv⟩ := rr
      simp only at k1 k2 k3 k4 k5 k6 k7 k8
      have xw := HX1.out.trans HX.out
      have c0 := xw.cell_some (hcs 0 _ rfl)
      have c1 := xw.cell_some (hcs 1 _ rfl)
      have c2 := xw.cell_some (hcs 2 _ rfl)
      have c3 := xw.cell_some (hcs 3 _ rfl)
      simp only [readK, Nat.add_zero] at c0 c1 c2 c3
      have lc := cell_lt c0
      have m2 := HMB.out.cell (i := 2) rfl
      have lm := cell_lt m2
      have hqq : (q : Int) < (nr : Int) := by omega
      obtain ⟨wo, hwo⟩ : ∃ wo, wo = wr := ⟨_, rfl⟩
      subst hwo
      clear hF0 hrr hcs xw hrow lb2 hpl
      go_upto_region 8 with fail
      refine lay_wp (fun W => BoxAt wo.heap.size #[.int .i64 cu, .int .i64 st, .int .i64 lo, .int .i64 hiv] 84 W ∧ Ext wo W) ⟨BoxAt.new wo _ _, (Ext.refl _).alloc _⟩ ?_
      rintro W3 ⟨b3, x3⟩
      obtain ⟨bq, hbq⟩ : ∃ b, b = wo.heap.size := ⟨_, rfl⟩
      rw [← hbq] at b3 ⊢
      have HBQ := Lib.hid hbq
      have HB3 := Lib.hid b3
      have HX3 := Lib.hid x3
      have HBA := Lib.hid (HB.out.ext x3)
      have HMB3 := Lib.hid (HMB.out.ext x3)
      have r0 := b3.cell (i := 0) rfl
      have lr := cell_lt r0
      replace m2 := x3.cell_some m2
      replace lm := cell_lt m2
      clear hbq b3 x3 c0 c1 c2 c3 lc
      by_cases hc : F0 cu = []
      case' pos =>
        have hlk := HBA.out.none_ hc W3 (Ext.refl _)
        have he : ∀ w : World, (binOp .eql 120 (.slice none 0 0) (.slice none 0 0)).run Tryz.prog w = .ok (.bool true) w := fun _ => rfl
        have HC := Lib.hid hc
        clear hc
        go_upto_region 9 with fail
        have q0 := But.cells (D := []) r0 (by simp)
        have q2 := But.cells (D := []) m2 (by simp)
        clear hlk he
        refine (wpIn_wide (n := 3)).1 ?_
        refine wpIn_region_steps [] 8 [(0, true), (1, true), (2, true), (3, true), (4, true), (6, true), (5, false), (7, false)] (by kernel_rfl) (by kernel_rfl) ?_
        iterate 6 (refine wpSD_q (by rfl) (fun _ _ _ => trivial) (fun K hK => ?_); go_simp; refine hK _ ?_; clear hK K)
        refine wpSD_m (by rfl) (fun _ _ _ => trivial) (fun δ K hK => ?_)
        go_simp
        refine ⟨((Ext.refl _).alloc _).but, hK _ _ ?_⟩
        clear hK K
        have Xd : Ext W3 δ.wd := ⟨δ, rfl⟩
        refine wpSD_m (by rfl) (fun _ _ _ => trivial) (fun δ2 K hK => ?_)
        go_simp
        have z1 : δ2.wd.cell? ⟨δ.wd.heap.size, 0, none⟩ = some (.int .i64 (-1099511627776)) := (show Ext _ δ2.wd from ⟨δ2, rfl⟩).cell_some (cell_new rfl)
        have z2 : δ2.wd.cell? ⟨δ.wd.heap.size, 1, none⟩ = some (.int .i64 1099511627776) := (show Ext _ δ2.wd from ⟨δ2, rfl⟩).cell_some (cell_new rfl)
        refine (callsIn_wide.2 (HRE.out _ 1 δ2.wd z1 z2)).mono ?_
        rintro e Wb ⟨bv, rfl, ob, xb⟩
        obtain ⟨g, kc, rfl⟩ := Own_cap ob List.length_replicate (by omega)
        refine ⟨_, rfl, xb.but, hK _ _ ?_⟩
        clear hK K
        have Xb : Ext W3 Wb := ((Xd.trans ((Ext.refl _).alloc _)).trans ⟨δ2, rfl⟩).trans xb
        have hsz : W3.heap.size ≤ δ2.wd.heap.size := ((Xd.trans ((Ext.refl _).alloc _)).trans (show Ext _ δ2.wd from ⟨δ2, rfl⟩)).bel.size
        refine wpSD_nil ?_
        intro Wc xc
        obtain ⟨ob2, hup, hbs⟩ := HBA.out.put (Xb.trans xc) (c := cu) (ys := infS n) (by unfold infS; intro e; have := congrArg List.length e; simp at this; omega) ((ob.mono hsz).ext xc) (Nat.le_of_lt HBA.out.lt)
        have HBS := Lib.hid hbs
        have HXC := Lib.hid (Xb.trans xc)
        clear z1 z2 ob xb Xb Xd hsz xc hbs q0 q2
        simp only [List.drop_succ_cons, List.drop_zero]
        gi_wp2
        refine lay_wp (fun W => BasesAt n M (addF n F0 cu) M W ∧ BoxAt bq #[.int .i64 cu, .int .i64 st, .int .i64 lo, .int .i64 hiv] 84 W ∧ BoxAt (M + 1) #[.int .i64 (i : Int), .int .i64 th, .map (some M)] 119 W ∧ Ext W1 W) ⟨?_, ?_, ?_, ?_⟩ ?_
        · unfold addF; rw [if_pos HC.out]; exact HBS.out
        · exact (HB3.out.ext HXC.out).but (setBlock_but _ _ _) (by have := HBQ.out; have := HB.out.lt; simp; omega)
        · exact (HMB3.out.ext HXC.out).but (setBlock_but _ _ _) (by simp)
        · exact (setBlock_but _ _ _).below ((HX.out.trans HX3.out).trans HXC.out) (by have := HM.out; simp; omega)
      case' neg =>
        obtain ⟨g, kc, -, -, hlk0, -⟩ := HBA.out.some_ hc
        have hlk := hlk0 W3 (Ext.refl _)
        have he : ∀ w : World, (binOp .eql 120 (.slice (some ⟨g, 0, none⟩) n kc) (.slice none 0 0)).run Tryz.prog w = .ok (.bool false) w := fun _ => rfl
        have HC := Lib.hid hc
        clear hc hlk0
        go_upto_region 10 with fail
        refine lay_wp (fun W => BasesAt n M (addF n F0 cu) M W ∧ BoxAt bq #[.int .i64 cu, .int .i64 st, .int .i64 lo, .int .i64 hiv] 84 W ∧ BoxAt (M + 1) #[.int .i64 (i : Int), .int .i64 th, .map (some M)] 119 W ∧ Ext W1 W) ⟨?_, HB3.out, HMB3.out, HX.out.trans HX3.out⟩ ?_
        · unfold addF; rw [if_neg HC.out]; exact HBA.out
      all_goals
        rintro W4 ⟨d1, d2, d3, d4⟩
        have HD1 := Lib.hid d1
        have HD2 := Lib.hid d2
        have HD3 := Lib.hid d3
        have HD4 := Lib.hid d4
        obtain ⟨F1, hF1⟩ : ∃ F1, F1 = addF n F0 cu := ⟨_, rfl⟩
        have hX1 := addF_len (n := n) (F := F0) cu (by have := HFL.out; rwa [HLN.out] at this)
        have HTK2 := Lib.hid (show basesF L th (rd.take (q + 1)) = updM' F1 cu (rowTo L th (cu, st, lo, hiv) (F1 cu) n) by rw [HTK.out, hF1]; unfold baseUp; rw [HLN.out])
        rw [← hF1] at HD1 hX1
        have HXL := Lib.hid hX1
        obtain ⟨sn, rfl⟩ : ∃ sn : Nat, st = sn := ⟨st.toNat, by omega⟩
        have hsn : sn < n := by omega
        clear d1 d2 d3 d4 hF1 hX1 HFL HTK HC HB HMB HB3 HX3 HBA HMB3 r0 lr m2 lm HB2 HM2 HX2
        go_wp2_with fail
        go_loopw [58] (fun iv W => ∃ k : Nat, k ≤ n ∧ iv = .int .i64 (k : Int) ∧ BasesAt n M (updM' F1 cu (rowTo L th (cu, (sn : Int), lo, hiv) (F1 cu) k)) M W ∧ BoxAt bq #[.int .i64 cu, .int .i64 sn, .int .i64 lo, .int .i64 hiv] 84 W ∧ BoxAt (M + 1) #[.int .i64 (i : Int), .int .i64 th, .map (some M)] 119 W ∧ Ext W1 W) (fun iv _ => n - (intOf iv).toNat)
        case atStart => exact ⟨0, by omega, rfl, by rw [rowTo_zero (by rw [HXL.out, HLN.out]), updM_self]; exact HD1.out, HD2.out, HD3.out, HD4.out⟩
        case round =>
          obtain ⟨k, hk, rfl, e1, e2, e3, e4⟩ := hrel
          by_cases hkn : k < n
          · obtain ⟨kk, hkk, htm, hhv, hv0, hv1⟩ := high_fact (L := L) (th := th) HLN.out hsn hkn ht HLH.out
            have hFc := upd_at F1 cu (rowTo L th (cu, (sn : Int), lo, hiv) (F1 cu) k)
            obtain ⟨g, kc, hrow⟩ := e1.row (c := cu) (by rw [hFc]; intro e; have := congrArg List.length e; rw [rowTo_len, HLN.out] at this; simp at this; omega)
            have ho := hrow.own
            have hrl := hrow.len
            have hgM := hrow.ge
            rw [hFc] at ho hrl
            have hat := rowTo_at (L := L) (th := th) (r := (cu, (sn : Int), lo, hiv)) (xs := F1 cu) (k := k) (by rw [HLN.out]; exact hkn)
            obtain ⟨sl, hsl⟩ : ∃ z, z = (F1 cu)[k]?.getD (0, 0) := ⟨_, rfl⟩
            have hset := rowTo_set (L := L) (th := th) (r := (cu, (sn : Int), lo, hiv)) (xs := F1 cu) (k := k)
            rw [← hsl] at hat hset
            simp only [Int.toNat_natCast] at hset
            obtain ⟨hh, hhh⟩ : ∃ z, z = highM L th sn k := ⟨_, rfl⟩
            rw [← hhh] at hset hhv hv0 hv1
            obtain ⟨b3, o3, rfl, _, lk⟩ := HOL.out.at_ kk hkk
            replace lk := e4.cell_some lk
            obtain ⟨lv, hlv⟩ : ∃ z, z = L[kk]?.getD 0 := ⟨_, rfl⟩
            rw [← hlv] at lk hhv
            obtain ⟨g', cg, hge, _, hgl, hgc, hgf⟩ := ho.slot (j := k) (by rw [hrl]; exact hkn)
            simp only [Value.slice.injEq, Option.some.injEq, Addr.mk.injEq] at hge
            obtain ⟨⟨rfl, -⟩, -, -⟩ := hge
            obtain ⟨s1, s2⟩ := sl
            have hgt : (rowTo L th (cu, (sn : Int), lo, hiv) (F1 cu) k)[k]'(by rw [hrl]; exact hkn) = (s1, s2) := (List.getElem?_eq_some_iff.1 hat).2
            rw [hgt] at hgc
            have g0 := hgc 0 _ rfl
            have g1 := hgc 1 _ rfl
            simp only [spanK, Nat.add_zero] at g0 g1
            have HGQ := Lib.hid (show bq ≠ g from fun e => by
              have h1 := ho.box_ne e2 (by decide)
              exact h1 (by rw [e]; rfl))
            have HGM1 := Lib.hid (show M + 1 ≠ g from fun e => by
              have h1 := ho.box_ne e3 (by decide)
              exact h1 (by rw [e]; rfl))
            have HG := Lib.hid (And.intro g0 (And.intro g1 (And.intro (hgf (k * 2)) (hgf (k * 2 + 1)))))
            have HROW := Lib.hid hrow
            have HSET := Lib.hid hset
            have HGM := Lib.hid hgM
            have q0 := e2.cell (i := 0) rfl
            have q1 := e2.cell (i := 1) rfl
            have q2 := e2.cell (i := 2) rfl
            have q3 := e2.cell (i := 3) rfl
            have m2 := e3.cell (i := 2) rfl
            have HQ := Lib.hid (And.intro q2 q3)
            have HE2 := Lib.hid e2
            have HE3 := Lib.hid e3
            have HE4 := Lib.hid e4
            have hlk2 : ∀ δ : BBut [] wr, (Instr.lookup 117 (.map (some M)) (.int .i64 cu) false).run Tryz.prog δ.wd = .ok (.slice (some ⟨g, 0, none⟩) n kc) δ.wd := fun δ => (HROW.out.ext (ext_but0 δ.but)).look
            have y0 := But.cells (D := []) q0 (by simp)
            have y1 := But.cells (D := []) q1 (by simp)
            have ym := But.cells (D := []) m2 (by simp)
            have yl := But.cells (D := []) lk (by simp)
            have w1 : IntKind.i64.wrap ((sn : Int) - k) = (sn : Int) - k := IntWalk.i64_in _ (by omega)
            have w2 : IntKind.i64.wrap ((sn : Int) - k + n) = (sn : Int) - k + n := IntWalk.i64_in _ (by omega)
            have w3 : IntKind.i64.wrap (th * lv) = hh := by rw [hhv]; exact IntWalk.i64_in _ (by rw [← hhv]; omega)
            have hn0 : ¬ (n : Int) = 0 := by omega
            have hn00 : ¬ n = 0 := by omega
            have hki : (k : Int) < (n : Int) := by omega
            have hkk' : (kk : Int) < (n : Int) := by omega
            clear e1 e2 e3 e4 hgc hgf hrow hset hgM q0 q1 q2 q3 m2 lk g0 g1 hat hgt hFc ho hrl hsl hhh hlv hhv
            go_wp2_with fail
            refine (wpIn_wide (n := 3)).1 ?_
            refine wpIn_region_steps [] 21 [(0, true), (1, true), (2, true), (3, true), (4, true), (5, true), (6, true), (7, true), (8, true), (9, true), (10, true), (11, true), (12, true), (13, true), (14, true), (15, true), (16, true), (17, true), (18, true), (19, true), (20, true)] (by kernel_rfl) (by kernel_rfl) ?_
            iterate 21 (refine wpSD_q (by rfl) (fun _ _ _ => trivial) (fun K hK => ?_); go_simp; refine hK _ ?_; clear hK K)
            refine wpSD_nil ?_
            intro W6 x6
            have p0 := x6.cell_some HG.out.1
            have p1 := x6.cell_some HG.out.2.1
            have p2 := x6.cell_some HQ.out.1
            have p3 := x6.cell_some HQ.out.2
            have HF0 := Lib.hid (x6.frozen HG.out.1 HG.out.2.2.1)
            have HF1 := Lib.hid (x6.frozen HG.out.2.1 HG.out.2.2.2)
            have HP := Lib.hid (And.intro p0 p1)
            have HX6 := Lib.hid x6
            have z0 := But.cells (D := []) p0 (by simp)
            have z1 := But.cells (D := []) p1 (by simp)
            have hgq : bq ∉ [g] := by simpa using HGQ.out
            have z2 := But.cells (D := [g]) p2 hgq
            have z3 := But.cells (D := [g]) p3 hgq
            have w4 : IntKind.i64.wrap (lo - hh) = lo - hh := IntWalk.i64_in _ (by omega)
            have w5 : IntKind.i64.wrap (hiv - hh) = hiv - hh := IntWalk.i64_in _ (by omega)
            clear x6 y0 y1 ym yl hlk2 w1 w2 w3 hn0 hn00 hkk' p0 p1 p2 p3
            simp only [List.drop_succ_cons, List.drop_zero]
            gi_wp2
            refine (wpIn_wide (n := 3)).1 ?_
            refine wpIn_region_early [g] 23 [(0, 0), (1, 0), (2, 0), (3, 0), (4, 0), (5, 1), (6, 0), (7, 0), (8, 0), (9, 0), (10, 0), (11, 0), (12, 0), (13, 0), (14, 1), (15, 0), (16, 0), (17, 0), (18, 0), (19, 0), (20, 0), (21, 0), (22, 2)] (by kernel_rfl) (by decide +kernel) ?_
            iterate 5 (refine wpSE_q (by rfl) (fun _ _ _ => trivial) (fun K hK => ?_); go_simp; refine hK _ ?_; clear hK K)
            refine wpSE_e (by rfl) (fun _ _ _ => trivial) (fun K hK => ?_); go_simp; refine hK _ ?_; clear hK K
            iterate 8 (refine wpSE_q (by rfl) (fun _ _ _ => trivial) (fun K hK => ?_); go_simp; refine hK _ ?_; clear hK K)
            refine wpSE_e (by rfl) (fun _ _ _ => trivial) (fun K hK => ?_); go_simp; refine hK _ ?_; clear hK K
            iterate 7 (refine wpSE_q (by rfl) (fun _ _ _ => trivial) (fun K hK => ?_); go_simp; refine hK _ ?_; clear hK K)
            refine wpSE_m (by rfl) (fun _ _ _ => trivial) (fun δ K hK => ?_)
            have xd : Ext W6 δ.wd := ⟨δ, rfl⟩
            have a0 := xd.cell_some HP.out.1
            have a1 := xd.cell_some HP.out.2
            have af0 := xd.frozen HP.out.1 HF0.out
            have af1 := xd.frozen HP.out.2 HF1.out
            clear z0 z1 z2 z3 hgq
            go_simp
            refine ⟨(But.refl [g] _).setCell (p := ⟨g, k * 2, none⟩) (by simp) _, hK _ _ ?_⟩
            clear hK K
            refine wpSE_nil ?_
            intro W7 x7
            have b1 := x7.cell_some ((cell_set_other (.inr (by omega))).trans a1)
            have bf1 := x7.frozen (b := g) (o := k * 2 + 1) ((cell_set_other (.inr (by omega))).trans a1) (by simpa using af1)
            have HX7 := Lib.hid (And.intro (HX6.out.trans xd) x7)
            have lb1 := cell_lt b1
            clear a0 a1 af0 af1 xd x7
            simp only [List.drop_succ_cons, List.drop_zero]
            gi_wp2
            go_wp2_with fail
            go_roundw
            case rel =>
              have h1 := (HROW.out.both hkn (max s1 (lo - hh)) (min s2 (hiv - hh)) HX7.out.1 HX7.out.2).at_
              rw [upd_at, upd_twice] at h1
              have hs := HSET.out
              unfold spanUp at hs
              simp only at hs
              rw [hs] at h1
              have hg := HGM.out
              have hm := HM.out
              exact ⟨k + 1, by omega, by go_num, h1, (((HE2.out.ext HX7.out.1).setOther (p := ⟨g, k * 2, none⟩) HGQ.out _).ext HX7.out.2).setOther (p := ⟨g, k * 2 + 1, none⟩) HGQ.out _,
                (((HE3.out.ext HX7.out.1).setOther (p := ⟨g, k * 2, none⟩) HGM1.out _).ext HX7.out.2).setOther (p := ⟨g, k * 2 + 1, none⟩) HGM1.out _,
                (((HE4.out.trans HX7.out.1).setCell (p := ⟨g, k * 2, none⟩) (by simp only; omega) _).trans HX7.out.2).setCell (p := ⟨g, k * 2 + 1, none⟩) (by simp only; omega) _⟩
            case measure => simp [intOf]; omega
          · obtain rfl : n = k := by omega
            have HE1 := Lib.hid e1
            have HE3 := Lib.hid e3
            have HE4 := Lib.hid e4
            clear e1 e2 e3 e4
            go_wp2_with fail
            go_roundw
            case rel => exact ⟨q + 1, by omega, by go_num, by rw [HTK2.out]; exact HE1.out, HE3.out, HE4.out⟩
            case measure => simp [intOf]; omega
    · obtain rfl : nr = q := by omega
      have m0 := HMB.out.cell (i := 0) rfl
      have m1 := HMB.out.cell (i := 1) rfl
      have m2 := HMB.out.cell (i := 2) rfl
      have lm := cell_lt m0
      have hrb := HBR.out.ext HX.out
      have r0 := hrb.cell (i := 0) rfl
      have r1 := hrb.cell (i := 1) rfl
      have r2 := hrb.cell (i := 2) rfl
      have f0 := frozen_of_row _ _ 0 _ _ hrb
      have f1 := frozen_of_row _ _ 1 _ _ hrb
      have f2 := frozen_of_row _ _ 2 _ _ hrb
      have lr := cell_lt r0
      have HRB := Lib.hid hrb
      have HLR := Lib.hid (show w.heap.size + 1 < W1.heap.size from HBR.out.lt)
      clear hrb
      go_wp2_with fail
      have b5 := ((HRB.out.setCell 0 (.int .i64 (i : Int))).setCell 1 (.int .i64 th)).setCell 2 (.map (some M))
      have hlr := HLR.out
      have hM1 := HM.out
      have g5 : BasesAt n M (basesF L th rd) M (((wr.setCell ⟨w.heap.size + 1, 0, none⟩ (.int .i64 (i : Int))).setCell ⟨w.heap.size + 1, 1, none⟩ (.int .i64 th)).setCell ⟨w.heap.size + 1, 2, none⟩ (.map (some M))) := by
        have h1 := HB.out
        rw [List.take_of_length_le (by rw [HRN.out]; exact Nat.le_refl _)] at h1
        exact ((h1.setOther (by omega) (by omega)).setOther (by omega) (by omega)).setOther (by omega) (by omega)
      have x5 : Ext w (((wr.setCell ⟨w.heap.size + 1, 0, none⟩ (.int .i64 (i : Int))).setCell ⟨w.heap.size + 1, 1, none⟩ (.int .i64 th)).setCell ⟨w.heap.size + 1, 2, none⟩ (.map (some M))) :=
        (((HX1.out.trans HX.out).setCell (p := ⟨w.heap.size + 1, 0, none⟩) (by simp) _).setCell (p := ⟨w.heap.size + 1, 1, none⟩) (by simp) _).setCell (p := ⟨w.heap.size + 1, 2, none⟩) (by simp) _
      generalize (((wr.setCell ⟨w.heap.size + 1, 0, none⟩ (.int .i64 (i : Int))).setCell ⟨w.heap.size + 1, 1, none⟩ (.int .i64 th)).setCell ⟨w.heap.size + 1, 2, none⟩ (.map (some M))) = W5 at *
      have q0 : W5.cell? ⟨w.heap.size + 1, 0, none⟩ = some (.int .i64 (i : Int)) := b5.cell (i := 0) rfl
      have q1 : W5.cell? ⟨w.heap.size + 1, 1, none⟩ = some (.int .i64 th) := b5.cell (i := 1) rfl
      have q2 : W5.cell? ⟨w.heap.size + 1, 2, none⟩ = some (.map (some M)) := b5.cell (i := 2) rfl
      exact bodyPost_ret (v := .agg #[.int .i64 (i : Int), .int .i64 th, .map (some M)]) (by simp [results, Tryz.results65, go_sem, q0, q1, q2]) rfl ⟨M, rfl, by omega, g5.mono (by omega), x5⟩
end Go.Proofs.YtkjgcmdabelohaaGreat
