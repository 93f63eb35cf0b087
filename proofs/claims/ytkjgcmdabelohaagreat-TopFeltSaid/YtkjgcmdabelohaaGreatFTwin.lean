/- barleycornref09.Twin of a picture: its heads and readings in blocks of the call's own. Condition: its slices read as lists of bounded lengths. -/
import Derived.Test.YtkjgcmdabelohaaGreatMHeads
import Derived.Test.YtkjgcmdabelohaaGreatMNet
namespace Go.Proofs.YtkjgcmdabelohaaGreat
open Go.RowKit

/-- Heads in blocks from B on. -/
def HdsOwn (B : Nat) (w : World) (v : Value) (hs : List (List Int × List Int)) : Prop :=
  ∃ Ts, headK.Own B w v Ts ∧ Ts.length = hs.length ∧ ∀ q (h : q < Ts.length) (h' : q < hs.length), intK.Own B w (rowH Ts[q].1) hs[q].1 ∧ intK.Own B w (rowH Ts[q].2) hs[q].2
theorem HdsOwn.ext {B : Nat} {w w' : World} {v : Value} {hs : List (List Int × List Int)} (h : HdsOwn B w v hs) (x : Ext w w') : HdsOwn B w' v hs := by
  obtain ⟨Ts, h1, h2, h3⟩ := h
  exact ⟨Ts, h1.ext x, h2, fun q a b => ⟨(h3 q a b).1.ext x, (h3 q a b).2.ext x⟩⟩
theorem HdsOwn.mono {B B' : Nat} {w : World} {v : Value} {hs : List (List Int × List Int)} (h : HdsOwn B w v hs) (hB : B' ≤ B) : HdsOwn B' w v hs := by
  obtain ⟨Ts, h1, h2, h3⟩ := h
  exact ⟨Ts, h1.mono hB, h2, fun q a b => ⟨(h3 q a b).1.mono hB, (h3 q a b).2.mono hB⟩⟩
theorem HdsOwn.is {B : Nat} {w : World} {v : Value} {hs : List (List Int × List Int)} (h : HdsOwn B w v hs) : HdsIs w v hs := by
  obtain ⟨Ts, h1, h2, h3⟩ := h
  exact ⟨Ts, h1.is, h2, fun q a b => ⟨(intK_own.1 (h3 q a b).1).isI, (intK_own.1 (h3 q a b).2).isI⟩⟩
theorem HdsOwn.shape {B : Nat} {w : World} {v : Value} {hs : List (List Int × List Int)} (h : HdsOwn B w v hs) : ∃ A k c, v = .slice A k c := by
  obtain ⟨Ts, h1, -⟩ := h
  exact h1.shape
theorem HdsOwn.nil (B : Nat) (w : World) : HdsOwn B w (.slice none 0 0) [] := ⟨[], EK.Own.nil _ _, rfl, fun q h => by simp at h⟩
theorem HdsOwn.keep {B g : Nat} {w w' : World} {v : Value} {hs : List (List Int × List Int)} (h : HdsOwn B w v hs) (k : w.grownBy w' (some g)) (hg : g < B) : HdsOwn B w' v hs := by
  obtain ⟨Ts, h1, h2, h3⟩ := h
  have ne : ∀ {β : Type} {K : EK β} {v : Value} {xs : List β}, K.Own B w v xs → v.ownBlock = none ∨ v.ownBlock ≠ some g := fun {β K v xs} h => by
    cases hv : v.ownBlock with
    | none => exact .inl rfl
    | some r => exact .inr fun e => by have := (h.lt r hv).1; cases e; omega
  exact ⟨Ts, h1.kept k (ne h1), h2, fun q a b => ⟨(h3 q a b).1.kept k (ne (h3 q a b).1), (h3 q a b).2.kept k (ne (h3 q a b).2)⟩⟩
theorem HdsOwn.push {B : Nat} {w w1 w2 : World} {v v' : Value} {hs : List (List Int × List Int)} {Ts : List (RowH × RowH)} {T : RowH × RowH} {f b : List Int} (hr : ∀ q (h : q < Ts.length) (h' : q < hs.length), intK.Own B w (rowH Ts[q].1) hs[q].1 ∧ intK.Own B w (rowH Ts[q].2) hs[q].2)
    (hl : Ts.length = hs.length) (ho : headK.Own B w v Ts) (x : Ext w w1) (of : intK.Own B w1 (rowH T.1) f) (ob : intK.Own B w1 (rowH T.2) b) (g : w1.grownBy w2 v.ownBlock) (o2 : headK.Own B w2 v' (Ts ++ [T])) : HdsOwn B w2 v' (hs ++ [(f, b)]) := by
  have ne : intK.ty ≠ headK.ty := by decide
  refine ⟨_, o2, by simp [hl], fun q h h' => ?_⟩
  by_cases hq : q < Ts.length
  · have hq' : q < hs.length := by omega
    rw [List.getElem_append_left hq, List.getElem_append_left hq']
    obtain ⟨h1, h2⟩ := hr q hq hq'
    exact ⟨(h1.ext x).kept g (own_ne (h1.ext x) (ho.ext x) ne), (h2.ext x).kept g (own_ne (h2.ext x) (ho.ext x) ne)⟩
  · have hq2 : q = Ts.length := by simp at h; omega
    subst hq2
    rw [List.getElem_append_right (Nat.le_refl _), List.getElem_append_right (by omega)]
    simp only [Nat.sub_self, hl, List.getElem_cons_zero]
    exact ⟨of.kept g (own_ne of (ho.ext x) ne), ob.kept g (own_ne ob (ho.ext x) ne)⟩
theorem isI_KP' {w : World} {v : Value} {zs : List Int} (h : IsI w v zs) : intK.Is w v zs := by
  obtain ⟨A, c, rfl, h0, hc, hr⟩ := h
  refine ⟨A, c, rfl, h0, hc, fun j hj => ?_⟩
  obtain ⟨b, o, hA, hb, hcell⟩ := hr.at_ j hj
  refine ⟨b, o, hA, hb, fun i u hu => ?_⟩
  have hi : i = 0 := by
    have : i < (intK.enc zs[j]).length := (List.getElem?_eq_some_iff.1 hu).1
    simp [intK] at this
    omega
  subst hi
  simp only [intK, List.getElem?_cons_zero, Option.some.injEq] at hu
  subst hu
  rw [List.getElem?_eq_getElem hj] at hcell
  show w.cell? ⟨b, o + j * 1 + 0, none⟩ = _
  rw [Nat.mul_one, Nat.add_zero]
  exact hcell
structure TwT (w : World) (B B' : Nat) (lv : Value) (hs : List (List Int × List Int)) (rv : Value) (rd : List (Int × Int × Int × Int)) (W : World) : Prop where
  hs : HdsOwn B W lv hs
  rd : readK.Own B' W rv rd
  ext : Ext w W
theorem TwT.set {w : World} {B B' b : Nat} {lv : Value} {hs : List (List Int × List Int)} {rv : Value} {rd : List (Int × Int × Int × Int)} {W : World} (o : Nat) (v : Value) (h : TwT w B B' lv hs rv rd W) (hw : w.heap.size ≤ b) (hb : b < B) (hb' : b < B') : TwT w B B' lv hs rv rd (W.setCell ⟨b, o, none⟩ v) :=
  ⟨h.hs.keep (grown_set W b o v) hb, h.rd.kept (grown_set W b o v) (by
    cases hv : rv.ownBlock with
    | none => exact .inl rfl
    | some r => exact .inr fun e => by have := (h.rd.lt r hv).1; cases e; omega), h.ext.setCell (p := ⟨b, o, none⟩) hw v⟩
def TwF17 (x y z : Value) : Prop := ∃ T8 T16 : RowH, x = rowH T8 ∧ y = rowH T16 ∧ z = .agg #[rowH T8, rowH T16]
def TwF18 (B : Nat) (z v : Value) (W : World) : Prop := ∃ (g : Nat) (T8 T16 : RowH), z = .agg #[rowH T8, rowH T16] ∧ v = .slice (some ⟨g, 0, none⟩) 1 1 ∧ B ≤ g ∧ BoxAt g #[rowH T8, rowH T16] 46 W
def Twin9Ret (p : PicR) (w : World) (e : Ending) (w' : World) : Prop := ∃ hv rv, e = .returned (p.val hv rv) ∧ HdsOwn w.heap.size w' hv p.hs ∧ readK.Own w.heap.size w' rv p.rd ∧ Ext w w'

set_option maxRecDepth 100000 in
set_option maxHeartbeats 16000000 in
theorem twin9_any (hv rv : Value) (p : PicR) (w : World) (h : PicRIs w hv rv p) (hl6 : p.hs.length ≤ 6) (hll : ∀ h ∈ p.hs, h.1.length ≤ 1000 ∧ h.2.length ≤ 1000) (hrd : p.rd.length ≤ 1000) :
    Calls Tryz.prog 14 #[p.val hv rv] w (Twin9Ret p w) := by
  obtain ⟨A, hn, hc, rfl, hhn, hhm, hrow⟩ := h.hs.open_
  have HRD := Lib.hid h.rd
  obtain ⟨AR, nr, cr, rfl, hrn, -, -, -⟩ := h.rd.open_
  obtain ⟨hs, tl, tu, al, au, rd⟩ := p
  simp only at hhn hrow hrn HRD hll hl6 hrd
  have HHN := Lib.hid hhn
  have HRW := Lib.hid hrow
  have HLL := Lib.hid hll
  have HRL := Lib.hid hrd
  have hn6 : hn ≤ 6 := by omega
  have hval : PicR.val ⟨hs, tl, tu, al, au, rd⟩ (.slice A hn hc) (.slice AR nr cr) = .agg #[.slice A hn hc, .int .i64 tl, .int .i64 tu, .int .i64 al, .int .i64 au, .slice AR nr cr] := rfl
  rw [hval]
  clear h hhn hrow hll hrn hrd hl6 hval
  go_enter Tryz.func14, Tryz.ntmps14
  go_wp2_with fail
  refine lay_wp (fun W => BoxAt w.heap.size #[.slice A hn hc, .int .i64 tl, .int .i64 tu, .int .i64 al, .int .i64 au, .slice AR nr cr] 28 W ∧ BoxAt (w.heap.size + 1) #[.slice none 0 0, .int .i64 0, .int .i64 0, .int .i64 0, .int .i64 0, .slice none 0 0] 28 W ∧ Ext w W) ⟨(BoxAt.new w _ _).ext ((Ext.refl _).alloc _), ?_, by (repeat' (first | with_reducible exact Ext.refl _ | with_reducible apply Ext.alloc | with_reducible apply Ext.drew | with_reducible apply Ext.drewN | with_reducible refine Ext.setCell ?_ ?_ _ | with_reducible apply Ext.step | with_reducible assumption | with_reducible exact Nat.le_refl _ | (simp; done) | (simp; omega)))⟩ ?_
  · have := BoxAt.new (w.alloc (.cells #[.slice A hn hc, .int .i64 tl, .int .i64 tu, .int .i64 al, .int .i64 au, .slice AR nr cr] 28)) #[.slice none 0 0, .int .i64 0, .int .i64 0, .int .i64 0, .int .i64 0, .slice none 0 0] 28
    simpa using this
  rintro W1 ⟨b1, b2, x1⟩
  have HB1 := Lib.hid b1
  have HB2 := Lib.hid b2
  have HX1 := Lib.hid x1
  have h21 := b2.lt
  clear b1 b2 x1
  go_loopw [3, 4] (fun lv iv wr => ∃ i : Nat, i ≤ hn ∧ iv = .int .i64 (i : Int) ∧ HdsOwn W1.heap.size wr lv (hs.take i) ∧ Ext W1 wr) (fun _ iv _ => hn - (intOf iv).toNat)
  case atStart => exact ⟨0, Nat.zero_le _, rfl, HdsOwn.nil _ _, Ext.refl _⟩
  case round =>
    obtain ⟨i, hi, rfl, ho, hx⟩ := hrel
    have HX := Lib.hid hx
    have q0 := (HB1.out.ext hx).cell (i := 0) rfl
    have lq := cell_lt q0
    by_cases hin : i < hn
    · have hi' : i < hs.length := by rw [HHN.out]; exact hin
      obtain ⟨hb, hoo, Ta, Tb, rfl, d0, d1, j0, j1⟩ := HRW.out i hi'
      have HTK := Lib.hid (show hs.take (i + 1) = hs.take i ++ [(hs[i].1, hs[i].2)] from List.take_succ_eq_append_getElem hi')
      have hl2 := HLL.out _ (List.getElem_mem hi')
      obtain ⟨f, hf⟩ : ∃ f, f = hs[i].1 := ⟨_, rfl⟩
      obtain ⟨b, hb0⟩ : ∃ b, b = hs[i].2 := ⟨_, rfl⟩
      rw [← hf, ← hb0] at HTK hl2
      rw [← hf] at j0
      rw [← hb0] at j1
      obtain ⟨Ai, ni, ci⟩ := Ta
      obtain ⟨Aj, nj, cj⟩ := Tb
      simp only [rowH] at d0 d1 j0 j1
      have xw := HX1.out.trans hx
      replace d0 := xw.cell_some d0
      replace d1 := xw.cell_some d1
      have HJ0 := Lib.hid (isI_KP' (j0.ext xw))
      have HJ1 := Lib.hid (isI_KP' (j1.ext xw))
      have ld := cell_lt d0
      have hii : (i : Int) < (hn : Int) := by omega
      obtain ⟨Ts, ho1, ho2, ho3⟩ := ho
      obtain ⟨Al, nl, cl, rfl⟩ := ho1.shape
      have HO1 := Lib.hid ho1
      have HO2 := Lib.hid ho2
      have HO3 := Lib.hid ho3
      have HTL := Lib.hid (show Ts.length ≤ 1000 by rw [ho2, List.length_take]; omega)
      have HFL := Lib.hid hl2
      have hsz : W1.heap.size ≤ wr.heap.size := hx.bel.size
      clear ho1 ho2 ho3 hx j0 j1 xw hl2 hf hb0
      go_wp2_with fail
      refine (wpIn_wide (n := 3)).1 ?_
      refine wpIn_region_tree (B := wr.heap.size) 19 [0, 2, 3, 4, 5, 6, 7, 10, 11, 12, 13, 14, 15] (Nat.le_refl _) (by kernel_rfl) (by decide +kernel) ?_
      repeat (refine wpQ_step (by rfl) (fun _ _ _ => trivial) (fun K hK => ?_); go_simp; refine hK _ ?_; clear hK K)
      refine wpQ_nil ?_
      refine wpAnyT_net [⟨1, some 13, [], []⟩, ⟨8, some 20, [1], [1]⟩, ⟨9, some 21, [], []⟩, ⟨16, some 28, [9], [9]⟩, ⟨17, some 29, [8, 16], []⟩, ⟨18, some 30, [17], []⟩] [] [1, 8, 9, 16, 18]
        (fun i u W => match i with
          | 1 => intK.Own wr.heap.size W (u 1) []
          | 8 => intK.Own wr.heap.size W (u 8) f
          | 9 => intK.Own wr.heap.size W (u 9) []
          | 16 => intK.Own wr.heap.size W (u 16) b
          | 17 => TwF17 (u 8) (u 16) (u 17)
          | 18 => TwF18 wr.heap.size (u 17) (u 18) W
          | _ => False) (fun _ => undef) (Nat.le_refl _) (by decide +kernel) ?loc ?ext (.inr ?keep) (fun _ h => by cases h) ?step ?end_
      case loc =>
        intro i hi u u' W e e' h
        simp only [List.map_cons, List.map_nil, List.append_nil, List.mem_cons, List.not_mem_nil, or_false] at hi
        rcases hi with rfl | rfl | rfl | rfl | rfl | rfl
        case inr.inr.inr.inr.inl => simp only at h ⊢; rw [e, e' ⟨17, some 29, [8, 16], []⟩ (by simp) rfl 8 (by simp), e' ⟨17, some 29, [8, 16], []⟩ (by simp) rfl 16 (by simp)]; exact h
        case inr.inr.inr.inr.inr => simp only at h ⊢; rw [e, e' ⟨18, some 30, [17], []⟩ (by simp) rfl 17 (by simp)]; exact h
        all_goals (simp only at h ⊢; rw [e]; exact h)
      case ext =>
        intro i hi u W W' h x
        simp only [List.map_cons, List.map_nil, List.append_nil, List.mem_cons, List.not_mem_nil, or_false] at hi
        rcases hi with rfl | rfl | rfl | rfl | rfl | rfl
        case inr.inr.inr.inr.inr => obtain ⟨g, T8, T16, h0, h1, h2, h3⟩ := h; exact ⟨g, T8, T16, h0, h1, h2, h3.ext x⟩
        all_goals first | exact EK.Own.ext h x | exact h
      case keep =>
        intro i hi _ u W W' row h hg hne
        simp only [List.map_cons, List.map_nil, List.append_nil, List.mem_cons, List.not_mem_nil, or_false] at hi
        rcases hi with rfl | rfl | rfl | rfl | rfl | rfl
        case inr.inr.inr.inr.inr =>
          obtain ⟨g, T8, T16, h0, h1, h2, h3⟩ := h
          exact ⟨g, T8, T16, h0, h1, h2, box_keep h3 hg (fun b' hb' e => (hne b' hb').2 (by simp) (by rw [h1]; simp [blkOf, Value.ownBlock, e]))⟩
        all_goals first | exact own_keep h hg (fun b hb => (hne b hb).2 (by simp)) | exact h
      case step =>
        intro r hr u w1 hb hon
        simp only [List.mem_cons, List.not_mem_nil, or_false] at hr
        have x1 := Ext.of hb
        rcases hr with rfl | rfl | rfl | rfl | rfl | rfl
        · refine ⟨_, by rfl, by rfl, fun _ _ => trivial, ?_⟩
          simp only [putL]
          go_simp
          refine ⟨(Below.refl _ _).alloc hb.size _, ?_⟩
          exact step_ext (EK.Own.lit (K := intK) (B := wr.heap.size) w1 #[] [] rfl hb.size (Nat.zero_le _)) ((Ext.refl _).alloc _) (own_fresh (EK.Own.lit (K := intK) (B := w1.heap.size) w1 #[] [] rfl (Nat.le_refl _) (Nat.zero_le _)))
        · refine ⟨_, by rfl, by rfl, fun _ _ => trivial, ?_⟩
          have o0 : intK.Own wr.heap.size w1 (u 1) [] := hon 1 (by simp)
          simp only [putL]
          refine EK.appAll_D (K := intK) (B' := wr.heap.size) (.tmp 13) (.tmp 19) (by rfl) (v := u 1) (by rfl) (by rfl) (HJ0.out.ext x1) o0 (Nat.le_refl _) hb.size (by have := HFL.out; simp only [List.length_nil]; omega) ?_
          intro v' w2 h1 h2 h3 h4
          exact step_app 1 (by simp) (by simp) o0 h1 h2 h4 h1
        · refine ⟨_, by rfl, by rfl, fun _ _ => trivial, ?_⟩
          simp only [putL]
          go_simp
          refine ⟨(Below.refl _ _).alloc hb.size _, ?_⟩
          exact step_ext (EK.Own.lit (K := intK) (B := wr.heap.size) w1 #[] [] rfl hb.size (Nat.zero_le _)) ((Ext.refl _).alloc _) (own_fresh (EK.Own.lit (K := intK) (B := w1.heap.size) w1 #[] [] rfl (Nat.le_refl _) (Nat.zero_le _)))
        · refine ⟨_, by rfl, by rfl, fun _ _ => trivial, ?_⟩
          have o0 : intK.Own wr.heap.size w1 (u 9) [] := hon 9 (by simp)
          simp only [putL]
          refine EK.appAll_D (K := intK) (B' := wr.heap.size) (.tmp 21) (.tmp 27) (by rfl) (v := u 9) (by rfl) (by rfl) (HJ1.out.ext x1) o0 (Nat.le_refl _) hb.size (by have := HFL.out; simp only [List.length_nil]; omega) ?_
          intro v' w2 h1 h2 h3 h4
          exact step_app 9 (by simp) (by simp) o0 h1 h2 h4 h1
        · have o8 : intK.Own wr.heap.size w1 (u 8) f := hon 8 (by simp)
          have o16 : intK.Own wr.heap.size w1 (u 16) b := hon 16 (by simp)
          obtain ⟨A8, k8, c8, h8⟩ := o8.shape
          obtain ⟨A16, k16, c16, h16⟩ := o16.shape
          refine ⟨_, by rfl, by rfl, fun _ _ => trivial, ?_⟩
          simp only [putL, h8, h16]
          go_simp
          exact ⟨Below.refl _ _, step_none (show TwF17 (updV u 17 _ 8) (updV u 17 _ 16) (updV u 17 _ 17) from ⟨(A8, k8, c8), (A16, k16, c16), by simp [updV, h8, rowH], by simp [updV, h16, rowH], by simp [updV, rowH]⟩) (Ext.refl _) (by simp)⟩
        · have h17 := hon 17 (by simp)
          simp only at h17
          obtain ⟨T8, T16, -, -, h17⟩ := h17
          refine ⟨_, by rfl, by rfl, fun _ _ => trivial, ?_⟩
          have h17' := h17
          simp only [rowH] at h17
          simp only [putL, h17]
          go_simp
          refine ⟨(Below.refl _ _).alloc hb.size _, step_ext (show TwF18 wr.heap.size (updV u 18 _ 17) (updV u 18 _ 18) _ from ⟨w1.heap.size, T8, T16, by rw [updV_ne _ _ (by decide)]; exact h17', updV_same _ _ _, hb.size, BoxAt.new w1 _ _⟩) ((Ext.refl _).alloc _) ?_⟩
          intro b' hbk
          simp only [blkOf, Value.ownBlock, Option.some.injEq] at hbk
          subst hbk
          exact ⟨by simp, Nat.le_refl _⟩
      case end_ =>
        intro u w9 hb hf
        refine ⟨by decide +kernel, fun w10 x10 => ?_⟩
        have o8 : intK.Own wr.heap.size w9 (u 8) f := hf 8 (by simp) (by decide)
        have o16 : intK.Own wr.heap.size w9 (u 16) b := hf 16 (by simp) (by decide)
        have h17 : TwF17 (u 8) (u 16) (u 17) := hf 17 (by simp) (by decide)
        have h18 : TwF18 wr.heap.size (u 17) (u 18) w9 := hf 18 (by simp) (by decide)
        obtain ⟨T8, T16, e8, e16, e17⟩ := h17
        obtain ⟨g, S8, S16, e17', e18, hg, hbx⟩ := h18
        have hst : rowH S8 = rowH T8 ∧ rowH S16 = rowH T16 := by
          have h := e17'.symm.trans e17
          simp only [Value.agg.injEq, Array.mk.injEq, List.cons.injEq, and_true] at h
          exact h
        rw [hst.1, hst.2] at hbx
        have Y9 := Lib.hid ((Ext.of hb).trans x10)
        have hbx9 := hbx.ext x10
        have y0 := hbx9.cell (i := 0) rfl
        have y1 := hbx9.cell (i := 1) rfl
        have ly := cell_lt y0
        have HCE := Lib.hid (show ∀ k u', (headK.enc (T8, T16))[k]? = some u' → w10.cell? ⟨g, k, none⟩ = some u' from fun k u' hu => by
          simp only [headK] at hu
          rcases k with _ | _ | k
          · simp only [List.getElem?_cons_zero, Option.some.injEq] at hu
            rw [← hu]
            exact y0
          · simp only [List.getElem?_cons_succ, List.getElem?_cons_zero, Option.some.injEq] at hu
            rw [← hu]
            exact y1
          · simp at hu)
        have HOF := Lib.hid (show intK.Own W1.heap.size w10 (rowH T8) f from ((e8 ▸ o8).ext x10).mono hsz)
        have HOB := Lib.hid (show intK.Own W1.heap.size w10 (rowH T16) b from ((e16 ▸ o16).ext x10).mono hsz)
        have HOL := Lib.hid (HO1.out.ext Y9.out)
        have hsz10 : W1.heap.size ≤ w10.heap.size := Nat.le_trans hsz Y9.out.bel.size
        have h18v : u 18 = .slice (some ⟨g, 0, none⟩) 1 1 := e18
        obtain ⟨v8, hv8⟩ : ∃ z, z = u 8 := ⟨_, rfl⟩
        obtain ⟨v16, hv16⟩ : ∃ z, z = u 16 := ⟨_, rfl⟩
        obtain ⟨v17, hv17⟩ : ∃ z, z = u 17 := ⟨_, rfl⟩
        obtain ⟨v1, hv1⟩ : ∃ z, z = u 1 := ⟨_, rfl⟩
        obtain ⟨v9, hv9⟩ : ∃ z, z = u 9 := ⟨_, rfl⟩
        simp only [putL, h18v]
        rw [← hv8, ← hv16, ← hv17, ← hv1, ← hv9]
        clear hf hb o8 o16 e8 e16 e17 e17' e18 hst hbx hbx9 y0 y1 h18v hv8 hv16 hv17 hv1 hv9 x10 q0 lq d0 d1 ld
        simp only [List.drop_succ_cons, List.drop_zero]
        gi_wp2_with (gi_at_builtin; refine EK.app_in_at (K := headK) (B := W1.heap.size) (xs := Ts) rfl (.tmp 12) (.tmp 30) rfl g 1 (T8, T16) rfl rfl (fun k u' hu => HCE.out k u' hu) HOL.out hsz10 (Nat.le_trans HTL.out (by decide)) ?_; intro v' w3 o3 g3 _; obtain ⟨A3, n3, c3, rfl⟩ := o3.shape; have HP3 := Lib.hid (HdsOwn.push HO3.out HO2.out HO1.out Y9.out HOF.out HOB.out g3 o3); have HX3 := Lib.hid ((HX.out.trans Y9.out).below ((Below.refl _ _).grown g3 hsz10 (fun k hk => (HOL.out.lt k hk).1)) (Nat.le_refl _)); clear o3 g3)
        go_wp2_with fail
        go_roundw
        case rel => exact ⟨i + 1, by omega, by go_num, by rw [HTK.out]; exact HP3.out, HX3.out⟩
        case measure => simp [intOf]; omega
    · have hie : i = hn := by omega
      rw [hie, List.take_of_length_le (by rw [HHN.out]; exact Nat.le_refl _)] at ho
      have hii : ¬ (i : Int) < (hn : Int) := by omega
      obtain ⟨Al, nl, cl, rfl⟩ := ho.shape
      have HO := Lib.hid ho
      have hb1 := HB1.out.ext hx
      have hb2 := HB2.out.ext hx
      have q5 := hb1.cell (i := 5) rfl
      have f0 := frozen_of_row _ _ 0 _ _ hb1
      have hwl : w.heap.size < W1.heap.size := by omega
      obtain ⟨S, hS⟩ : ∃ S, S = wr.setCell ⟨w.heap.size, 0, none⟩ (.slice Al nl cl) := ⟨_, rfl⟩
      have HS1 := Lib.hid (show BoxAt w.heap.size #[.slice Al nl cl, .int .i64 tl, .int .i64 tu, .int .i64 al, .int .i64 au, .slice AR nr cr] 28 S from by rw [hS]; exact hb1.setCell 0 (.slice Al nl cl))
      have HS2 := Lib.hid (show BoxAt (w.heap.size + 1) #[.slice none 0 0, .int .i64 0, .int .i64 0, .int .i64 0, .int .i64 0, .slice none 0 0] 28 S from by rw [hS]; exact hb2.setOther (p := ⟨w.heap.size, 0, none⟩) (by show w.heap.size + 1 ≠ w.heap.size; omega) (.slice Al nl cl))
      have HSO := Lib.hid (show HdsOwn W1.heap.size S (.slice Al nl cl) hs from by rw [hS]; exact ho.keep (grown_set wr w.heap.size 0 (.slice Al nl cl)) hwl)
      have HXS := Lib.hid (show Ext w S from by rw [hS]; exact (HX1.out.trans hx).setCell (p := ⟨w.heap.size, 0, none⟩) (Nat.le_refl _) (.slice Al nl cl))
      have hsz : S.heap.size = wr.heap.size := by rw [hS]; simp
      have HLT := Lib.hid (EK.Own.lit (K := readK) (B := S.heap.size) S #[] [] rfl (Nat.le_refl _) (Nat.zero_le _))
      rw [hsz] at HLT
      have HHS := Lib.hid hS
      have HSZ := Lib.hid hsz
      have HSW := Lib.hid hx.bel.size
      clear ho hx hb1 hb2 hie hS hsz
      go_wp2_with (at_builtin; rw [← HHS.out]; refine EK.appAll (K := readK) (B := wr.heap.size) (xs := []) rfl (.tmp 34) (.tmp 36) rfl rfl rfl (HRD.out.ext (HXS.out.alloc _)) HLT.out (by simp [HSZ.out]) (by have := HRL.out; simp only [List.length_nil]; omega) ?_; intro v' w3 o3 b3 _; obtain ⟨A3, n3, c3, rfl⟩ := o3.shape; have x3 : Ext S w3 := ((Ext.refl S).alloc (.cells #[] 84)).below b3 (Nat.le_of_eq HSZ.out); have HX3 := Lib.hid (HXS.out.trans x3); have HP3 := Lib.hid (HSO.out.ext x3); have HR3 := Lib.hid (show readK.Own wr.heap.size w3 (.slice A3 n3 c3) rd from by simpa using o3); have HT1 := Lib.hid (HS1.out.ext x3); have HT2 := Lib.hid (HS2.out.ext x3); have c0 := HT1.out.cell (i := 0) rfl; have c1 := HT1.out.cell (i := 1) rfl; have c2 := HT1.out.cell (i := 2) rfl; have c3' := HT1.out.cell (i := 3) rfl; have c4 := HT1.out.cell (i := 4) rfl; have c5 := HT1.out.cell (i := 5) rfl; have f5 := frozen_of_row _ _ 5 _ _ HT1.out; have lc := cell_lt c0; have z0 := HT2.out.cell (i := 0) rfl; have z1 := HT2.out.cell (i := 1) rfl; have z2 := HT2.out.cell (i := 2) rfl; have z3 := HT2.out.cell (i := 3) rfl; have z4 := HT2.out.cell (i := 4) rfl; have z5 := HT2.out.cell (i := 5) rfl; have g0 := frozen_of_row _ _ 0 _ _ HT2.out; have g1 := frozen_of_row _ _ 1 _ _ HT2.out; have g2 := frozen_of_row _ _ 2 _ _ HT2.out; have g3 := frozen_of_row _ _ 3 _ _ HT2.out; have g4 := frozen_of_row _ _ 4 _ _ HT2.out; have g5 := frozen_of_row _ _ 5 _ _ HT2.out; have lz := cell_lt z0; clear o3 b3 x3)
      have hsw : W1.heap.size ≤ wr.heap.size := HSW.out
      have t3 := TwT.set 5 (.slice A3 n3 c3) (b := w.heap.size) (⟨HP3.out, HR3.out, HX3.out⟩ : TwT w W1.heap.size wr.heap.size (.slice Al nl cl) hs (.slice A3 n3 c3) rd w3) (Nat.le_refl _) hwl (by omega)
      have hb6 : w.heap.size ≤ w.heap.size + 1 := Nat.le_succ _
      have hb7 : w.heap.size + 1 < wr.heap.size := by omega
      have t4 := (((((t3.set 0 (.slice Al nl cl) hb6 h21 hb7).set 1 (.int .i64 tl) hb6 h21 hb7).set 2 (.int .i64 tu) hb6 h21 hb7).set 3 (.int .i64 al) hb6 h21 hb7).set 4 (.int .i64 au) hb6 h21 hb7).set 5 (.slice A3 n3 c3) hb6 h21 hb7
      have bx := ((((((HT2.out.setOther (p := ⟨w.heap.size, 5, none⟩) (by show w.heap.size + 1 ≠ w.heap.size; omega) (.slice A3 n3 c3)).setCell 0 (.slice Al nl cl)).setCell 1 (.int .i64 tl)).setCell 2 (.int .i64 tu)).setCell 3 (.int .i64 al)).setCell 4 (.int .i64 au)).setCell 5 (.slice A3 n3 c3)
      have r0 := bx.cell (i := 0) rfl
      have r1 := bx.cell (i := 1) rfl
      have r2 := bx.cell (i := 2) rfl
      have r3 := bx.cell (i := 3) rfl
      have r4 := bx.cell (i := 4) rfl
      have r5 := bx.cell (i := 5) rfl
      clear c0 c1 c2 c3' c4 c5 z0 z1 z2 z3 z4 z5 g0 g1 g2 g3 g4 g5 f5 bx
      generalize (((((((w3.setCell ⟨w.heap.size, 5, none⟩ (.slice A3 n3 c3)).setCell ⟨w.heap.size + 1, 0, none⟩ (.slice Al nl cl)).setCell ⟨w.heap.size + 1, 1, none⟩ (.int .i64 tl)).setCell ⟨w.heap.size + 1, 2, none⟩ (.int .i64 tu)).setCell ⟨w.heap.size + 1, 3, none⟩ (.int .i64 al)).setCell ⟨w.heap.size + 1, 4, none⟩ (.int .i64 au)).setCell ⟨w.heap.size + 1, 5, none⟩ (.slice A3 n3 c3)) = W at *
      have HT4 := Lib.hid t4
      clear t4 t3
      refine bodyPost_ret (v := .agg #[.slice Al nl cl, .int .i64 tl, .int .i64 tu, .int .i64 al, .int .i64 au, .slice A3 n3 c3]) (by simp [results, Tryz.results14, go_sem, r0, r1, r2, r3, r4, r5]) rfl ?_
      exact ⟨_, _, rfl, HT4.out.hs.mono (by omega), HT4.out.rd.mono (by omega), HT4.out.ext⟩
end Go.Proofs.YtkjgcmdabelohaaGreat
