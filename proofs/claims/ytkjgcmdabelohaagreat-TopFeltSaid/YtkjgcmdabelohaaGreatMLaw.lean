/- A closed rosette in a program and in a picture: the same cuts, the same symmetries, the same is found. Plain, and heads whose rosettes are changed in place. No condition. -/
/- The reference's SameMoves and SameFound at two slices that read alike. Condition: so named. -/
/- TopFelt: what the law's function returns. Condition: the program's and the picture's slices read as lists; j lies in its type. -/
import Derived.Test.YtkjgcmdabelohaaGreatFTwin
import Derived.Test.YtkjgcmdabelohaaGreatFSym
import Derived.Test.YtkjgcmdabelohaaGreatFValid
import Derived.Test.YtkjgcmdabelohaaGreatPCut
import Derived.Test.YtkjgcmdabelohaaGreatMMade
import Derived.Test.YtkjgcmdabelohaaGreatMHeads
import Derived.Test.YtkjgcmdabelohaaGreatMKind
import Derived.StillTailTactics
import Derived.Test.YtkjgcmdabelohaaGreatFRef9
import Derived.Test.YtkjgcmdabelohaaGreatPAlv
import Derived.Test.YtkjgcmdabelohaaGreatPGr
import Derived.Test.YtkjgcmdabelohaaGreatMRub
namespace Go.Proofs.YtkjgcmdabelohaaGreat
open Go.RowKit

section
variable {α : Type} {K : EK α}
theorem flat_putH : ∀ (xs : List α) (j i : Nat) (y : α) (u : Value) (h : j < xs.length) (_ : i < K.k) (_ : K.enc y = (K.enc xs[j]).set i u), (xs.set j y).flatMap K.enc = (xs.flatMap K.enc).set (j * K.k + i) u
  | x :: xs, 0, i, y, u, _, hi, hy => by
    have hl : i < (K.enc x).length := by rw [K.len]; exact hi
    simp only [List.set_cons_zero, List.flatMap_cons, Nat.zero_mul, Nat.zero_add]
    rw [List.set_append_left _ _ hl]
    simp only [List.getElem_cons_zero] at hy
    rw [hy]
  | x :: xs, j + 1, i, y, u, h, hi, hy => by
    have ih := flat_putH xs j i y u (by simpa using h) hi (by simpa using hy)
    simp only [List.set_cons_succ, List.flatMap_cons]
    rw [ih, List.set_append_right _ _ (by rw [K.len, Nat.succ_mul]; omega)]
    congr 2
    rw [K.len, Nat.succ_mul]
    omega
theorem EK.Own.putH {B : Nat} {w : World} {g c N : Nat} {xs : List α} (h : K.Own B w (.slice (some ⟨g, 0, none⟩) N c) xs) (hl : xs.length = N) {j i : Nat} (hj : j < xs.length) (hi : i < K.k) (y : α) (u : Value) (hy : K.enc y = (K.enc xs[j]).set i u) :
    K.Own B (w.setCell ⟨g, j * K.k + i, none⟩ u) (.slice (some ⟨g, 0, none⟩) N c) (xs.set j y) := by
  subst hl
  have := (World.ownsRow.stored h (j * K.k + i) u).1
  rw [← flat_putH xs j i y u hj hi hy] at this
  simpa [EK.Own] using this
end

def clL (f b : List Int) : List Int := underL (liftL f b) b
theorem Fine.cl {f b : List Int} (h : Fine f b) : Fine (clL f b) b := h.lift.under
theorem clL_len (f b : List Int) : (clL f b).length = f.length := by rw [clL, underL_len, liftL_len]
theorem lift_cl {f b : List Int} (h : Fine f b) : liftL (clL f b) b = liftL f b := lift_close h
theorem close_fine (u v : Value) {xs ys : List Int} (w : World) (hu : IsI w u xs) (hv : IsI w v ys) (hf : Fine xs ys) : Calls Tryz.prog 8 #[u, v] w (RetEE intK w (clL xs ys) 0) := by
  have h0 := fine_iff.2 hf
  have := Close_any u v xs ys w hu hv
  rw [h0] at this
  unfold fOr at this
  rw [if_pos h0] at this
  refine this.mono ?_
  rintro e w' ⟨x, he, ho, hx⟩
  exact ⟨x, he, intK_own.2 ho, hx⟩
/-- A program with its rosette closed. -/
def clP (p : PrT) : PrT := { p with ros := clL p.ros p.rub }
theorem clP_len (p : PrT) : (clP p).ros.length = p.ros.length := clL_len _ _
theorem clP_lift {p : PrT} (h : Good p) : liftL (clP p).ros (clP p).rub = liftL p.ros p.rub := lift_cl h.fine
theorem clP_good {p : PrT} (h : Good p) : Good (clP p) := by
  have h1 := fine_iff.2 h.fine.cl
  have h2 : checkB (clL p.ros p.rub) = true ∧ rubberE p.rub (clL p.ros p.rub).length = 0 := by
    unfold bothE at h1
    split at h1
    · exact ⟨by assumption, h1⟩
    · exact absurd h1 (by decide)
  refine ⟨h2.1, ?_, ?_⟩
  · show rubberB p.rub (clP p).ros.length = true
    rw [clP_len]
    exact h.rub
  · have h3 := h.fld
    unfold fldB at h3 ⊢
    rw [clP_len]
    exact h3
theorem clP_cut {p : PrT} (h : Good p) (j : Int) : cutL (clP p) j = cutL p j := by
  have e : phaseZ (clP p) j = phaseZ p j := by rw [phaseZ_PH, phaseZ_PH, clP_len]; rfl
  unfold cutL
  rw [clP_lift h, e]
  rfl
theorem clP_sym {p : PrT} (h : Good p) (t : Nat) : symL (clP p) t = symL p t := symL_congr t (clP_len p) (clP_lift h) rfl rfl
/-- The heads of which the first k are closed. -/
def clH (hs : List (List Int × List Int)) (k : Nat) : List (List Int × List Int) := hs.mapIdx fun i h => if i < k then (clL h.1 h.2, h.2) else h
theorem clH_len (hs : List (List Int × List Int)) (k : Nat) : (clH hs k).length = hs.length := by simp [clH]
theorem clH_at {hs : List (List Int × List Int)} {k i : Nat} (h : i < hs.length) : (clH hs k)[i]'(by rw [clH_len]; exact h) = if i < k then (clL hs[i].1 hs[i].2, hs[i].2) else hs[i] := by simp [clH]
theorem clH_zero (hs : List (List Int × List Int)) : clH hs 0 = hs := by
  refine List.ext_getElem (clH_len hs 0) fun i h1 h2 => ?_
  rw [clH_at h2]
  simp
theorem clH_succ {hs : List (List Int × List Int)} {k : Nat} (h : k < hs.length) : clH hs (k + 1) = (clH hs k).set k (clL hs[k].1 hs[k].2, hs[k].2) := by
  refine List.ext_getElem (by simp [clH]) fun i h1 h2 => ?_
  have hi : i < hs.length := by rwa [clH_len] at h1
  rw [clH_at hi, List.getElem_set]
  by_cases e : k = i
  · subst e
    rw [if_pos (Nat.lt_succ_self _), if_pos rfl]
  · rw [if_neg e, clH_at hi]
    by_cases e2 : i < k
    · rw [if_pos e2, if_pos (by omega)]
    · rw [if_neg e2, if_neg (by omega)]
/-- A picture with its heads closed. -/
def clR (q : PicR) : PicR := { q with hs := clH q.hs q.hs.length }
theorem clR_v {q : PicR} {n : Nat} (h : PicV q n) : PicV (clR q) n := by
  have hl : (clR q).hs.length = q.hs.length := clH_len _ _
  refine ⟨by rw [hl]; exact h.h4, fun x hx => ?_, h.t, h.a, h.rl, h.rd⟩
  obtain ⟨i, hi, rfl⟩ := List.getElem_of_mem hx
  have hi' : i < q.hs.length := by rwa [hl] at hi
  have e : (clR q).hs[i] = (clL q.hs[i].1 q.hs[i].2, q.hs[i].2) := (clH_at (k := q.hs.length) hi').trans (if_pos hi')
  obtain ⟨h1, h2⟩ := h.fine _ (List.getElem_mem hi')
  rw [e]
  exact ⟨h1.cl, by rw [clL_len]; exact h2⟩
theorem clR_found {q : PicR} {n : Nat} (h : PicV q n) : foundL (clR q).toT = foundL q.toT := by
  have hl : (clR q).toT.hs.length = q.toT.hs.length := clH_len _ _
  have hb : ∀ i th, (clR q).toT.base i th = q.toT.base i th := fun i th => by
    have e : liftL ((clR q).toT.hs[i]?.getD ([], [])).1 ((clR q).toT.hs[i]?.getD ([], [])).2 = liftL (q.toT.hs[i]?.getD ([], [])).1 (q.toT.hs[i]?.getD ([], [])).2 := by
      show liftL ((clH q.hs q.hs.length)[i]?.getD ([], [])).1 ((clH q.hs q.hs.length)[i]?.getD ([], [])).2 = liftL (q.hs[i]?.getD ([], [])).1 (q.hs[i]?.getD ([], [])).2
      by_cases hi : i < q.hs.length
      · rw [List.getElem?_eq_getElem (by rw [clH_len]; exact hi), List.getElem?_eq_getElem hi, Option.getD_some, Option.getD_some, clH_at hi, if_pos hi]
        exact lift_cl (h.fine _ (List.getElem_mem hi)).1
      · rw [List.getElem?_eq_none (by rw [clH_len]; omega), List.getElem?_eq_none (by omega)]
    unfold PicT.base
    rw [e]
    rfl
  have ha : ∀ x k, advL (clR q).toT x k = advL q.toT x k := fun x k => by
    have eT : (clR q).toT.T = q.toT.T := rfl
    unfold advL
    rw [eT, hb]
    rfl
  have hr : ∀ x m, rowL (clR q).toT x m = rowL q.toT x m := fun x m => by
    unfold rowL
    congr 1
    funext k
    exact ha x k
  have hp : ∀ m, preL (clR q).toT m = preL q.toT m := fun m => by
    unfold preL
    congr 1
    funext x
    exact hr x _
  unfold foundL
  rw [hl, show (clR q).toT.T = q.toT.T from rfl, hp]
theorem clR_find {q : PicR} {n : Nat} (h : PicV q n) : findE (clR q).toT = findE q.toT ∧ findL (clR q).toT = findL q.toT := by
  have e1 : findE (clR q).toT = findE q.toT := by unfold findE; rw [clR_found h]
  refine ⟨e1, ?_⟩
  unfold findL
  rw [e1, clR_found h]

/-- A head's rosette is stored. -/
theorem HdsOwn.put {B g n c k : Nat} {w w1 : World} {hs : List (List Int × List Int)} {T : RowH} {f : List Int} (h : HdsOwn B w (.slice (some ⟨g, 0, none⟩) n c) hs) (x : Ext w w1) (hk : k < hs.length) (of : intK.Own B w1 (rowH T) f) :
    HdsOwn B (w1.setCell ⟨g, k * 2, none⟩ (rowH T)) (.slice (some ⟨g, 0, none⟩) n c) (hs.set k (f, hs[k].2)) := by
  obtain ⟨Ts, h1, h2, h3⟩ := h
  have ne : intK.ty ≠ headK.ty := by decide
  have hk' : k < Ts.length := by omega
  have hrow : ∀ {v : Value} {zs : List Int}, intK.Own B w1 v zs → intK.Own B (w1.setCell ⟨g, k * 2, none⟩ (rowH T)) v zs := fun {v zs} ho => ho.oth (by
    have := own_ne ho (h1.ext x) ne
    simpa [Value.ownBlock] using this)
  refine ⟨Ts.set k (T, Ts[k].2), ?_, by simp [h2], fun q a b => ?_⟩
  · have hl : Ts.length = n := (own_len headK h1).symm
    have := EK.Own.putH (K := headK) (h1.ext x) hl (j := k) hk' (i := 0) (by decide) (T, Ts[k].2) (rowH T) (by
      show [rowH T, rowH Ts[k].2] = [rowH Ts[k].1, rowH Ts[k].2].set 0 (rowH T)
      rfl)
    simpa [headK] using this
  · have hq : q < hs.length := by simpa using b
    have hq' : q < Ts.length := by omega
    rw [List.getElem_set, List.getElem_set]
    obtain ⟨r1, r2⟩ := h3 q hq' hq
    by_cases e : k = q
    · subst e
      rw [if_pos rfl, if_pos rfl]
      exact ⟨hrow of, hrow (r2.ext x)⟩
    · rw [if_neg e, if_neg e]
      exact ⟨hrow (r1.ext x), hrow (r2.ext x)⟩
theorem HdsIs.heads {w : World} {hb ho n c : Nat} {hs : List (List Int × List Int)} (h : HdsIs w (.slice (some ⟨hb, ho, none⟩) n c) hs) : HeadsAt w hb ho n hs := by
  obtain ⟨A, n', c', he, hl, -, hr⟩ := h.open_
  simp only [Value.slice.injEq] at he
  obtain ⟨rfl, rfl, rfl⟩ := he
  refine ⟨hl, fun i hi => ?_⟩
  obtain ⟨b, o, Ta, Tb, hA, c0, c1, i0, i1⟩ := hr i hi
  simp only [Option.some.injEq, Addr.mk.injEq, and_true] at hA
  obtain ⟨rfl, rfl⟩ := hA
  exact ⟨_, _, c0, c1, i0, i1⟩
end Go.Proofs.YtkjgcmdabelohaaGreat

namespace Go.Proofs.YtkjgcmdabelohaaGreat
open Go.RowKit

set_option maxRecDepth 100000 in
set_option maxHeartbeats 4000000 in
theorem sameMoves_self (u v : Value) (xs : List (MvT)) (w : World) (hu : moveK.Is w u xs) (hv : moveK.Is w v xs) :
    Calls Tryz.prog 12 #[u, v] w fun e w' => e = .returned (.bool true) ∧ Ext w w' := by
  obtain ⟨A, n, c, rfl, hn, _, hr, hm⟩ := hu.open_
  obtain ⟨A', n', c', rfl, hn', _, hr', hm'⟩ := hv.open_
  obtain rfl : n = n' := hn.symm.trans hn'
  have HR := Lib.hid hr
  have HR' := Lib.hid hr'
  have HN := Lib.hid hn
  clear hu hv hr hr' hn hn'
  go_enter Tryz.func12, Tryz.ntmps12
  go_wp2_with fail
  go_loopw [5] (fun i wr => ∃ j : Nat, j ≤ n ∧ i = .int .i64 j ∧ Ext w wr) (fun i _ => n - (intOf i).toNat)
  case atStart => exact ⟨0, by omega, rfl, Ext.refl _⟩
  case round =>
    obtain ⟨j, hj, rfl, hx⟩ := hrel
    have HX := Lib.hid hx
    by_cases hlt : j < n
    · have hj1 : j < xs.length := by rw [HN.out]; exact hlt
      obtain ⟨b, o, rfl, hb, h0⟩ := HR.out j hj1
      obtain ⟨b', o', rfl, hb', h0'⟩ := HR'.out j hj1
      obtain ⟨z, hz⟩ : ∃ z, z = xs[j] := ⟨_, rfl⟩
      rw [← hz] at h0 h0'
      obtain ⟨za, zb, zc, zd⟩ := z
      have hjj : (j : Int) < (n : Int) := by omega
      have g0 := hx.cell_some (h0 0 _ rfl)
      have k0 := hx.cell_some (h0' 0 _ rfl)
      have g1 := hx.cell_some (h0 1 _ rfl)
      have k1 := hx.cell_some (h0' 1 _ rfl)
      have g2 := hx.cell_some (h0 2 _ rfl)
      have k2 := hx.cell_some (h0' 2 _ rfl)
      have g3 := hx.cell_some (h0 3 _ rfl)
      have k3 := hx.cell_some (h0' 3 _ rfl)
      simp only [moveK, Nat.add_zero] at g0 k0 g1 k1 g2 k2 g3 k3
      have l0 := cell_lt g0
      have l1 := cell_lt k0
      clear h0 h0' hz hx
      go_wp2_with fail
      refine wp_region_bext (by kernel_rfl) (by kernel_rfl) ?_
      repeat (any_goals (go_big_quiet_step (fail)))
      all_goals refine wpQuiet_nil ?_
      all_goals rintro _ ⟨δ, rfl⟩
      go_wp2_with fail
      go_roundw
      case rel => exact ⟨j + 1, by omega, by go_num, HX.out.step _⟩
      case measure => simp [intOf]; omega
    · have hjj : ¬ (j : Int) < (n : Int) := by omega
      clear hx
      go_wp2_with fail
      go_ret
      exact ⟨rfl, HX.out⟩

set_option maxRecDepth 100000 in
set_option maxHeartbeats 4000000 in
theorem sameFound_self (u v : Value) (xs : List (FoundT)) (w : World) (hu : fndK.Is w u xs) (hv : fndK.Is w v xs) :
    Calls Tryz.prog 16 #[u, v] w fun e w' => e = .returned (.bool true) ∧ Ext w w' := by
  obtain ⟨A, n, c, rfl, hn, _, hr, hm⟩ := hu.open_
  obtain ⟨A', n', c', rfl, hn', _, hr', hm'⟩ := hv.open_
  obtain rfl : n = n' := hn.symm.trans hn'
  have HR := Lib.hid hr
  have HR' := Lib.hid hr'
  have HN := Lib.hid hn
  clear hu hv hr hr' hn hn'
  go_enter Tryz.func16, Tryz.ntmps16
  go_wp2_with fail
  go_loopw [5] (fun i wr => ∃ j : Nat, j ≤ n ∧ i = .int .i64 j ∧ Ext w wr) (fun i _ => n - (intOf i).toNat)
  case atStart => exact ⟨0, by omega, rfl, Ext.refl _⟩
  case round =>
    obtain ⟨j, hj, rfl, hx⟩ := hrel
    have HX := Lib.hid hx
    by_cases hlt : j < n
    · have hj1 : j < xs.length := by rw [HN.out]; exact hlt
      obtain ⟨b, o, rfl, hb, h0⟩ := HR.out j hj1
      obtain ⟨b', o', rfl, hb', h0'⟩ := HR'.out j hj1
      obtain ⟨z, hz⟩ : ∃ z, z = xs[j] := ⟨_, rfl⟩
      rw [← hz] at h0 h0'
      obtain ⟨za, zb, zc, zd, ze⟩ := z
      have hjj : (j : Int) < (n : Int) := by omega
      have g0 := hx.cell_some (h0 0 _ rfl)
      have k0 := hx.cell_some (h0' 0 _ rfl)
      have g1 := hx.cell_some (h0 1 _ rfl)
      have k1 := hx.cell_some (h0' 1 _ rfl)
      have g2 := hx.cell_some (h0 2 _ rfl)
      have k2 := hx.cell_some (h0' 2 _ rfl)
      have g3 := hx.cell_some (h0 3 _ rfl)
      have k3 := hx.cell_some (h0' 3 _ rfl)
      have g4 := hx.cell_some (h0 4 _ rfl)
      have k4 := hx.cell_some (h0' 4 _ rfl)
      simp only [fndK, Nat.add_zero] at g0 k0 g1 k1 g2 k2 g3 k3 g4 k4
      have l0 := cell_lt g0
      have l1 := cell_lt k0
      clear h0 h0' hz hx
      go_wp2_with fail
      refine wp_region_bext (by kernel_rfl) (by kernel_rfl) ?_
      repeat (any_goals (go_big_quiet_step (fail)))
      all_goals refine wpQuiet_nil ?_
      all_goals rintro _ ⟨δ, rfl⟩
      go_wp2_with fail
      go_roundw
      case rel => exact ⟨j + 1, by omega, by go_num, HX.out.step _⟩
      case measure => simp [intOf]; omega
    · have hjj : ¬ (j : Int) < (n : Int) := by omega
      clear hx
      go_wp2_with fail
      go_ret
      exact ⟨rfl, HX.out⟩
end Go.Proofs.YtkjgcmdabelohaaGreat

namespace Go.Proofs.YtkjgcmdabelohaaGreat
open Go.RowKit

set_option maxRecDepth 100000 in
set_option maxHeartbeats 64000000 in
theorem lawFelt_any (p : PrT) (v : PrV) (q : PicR) (hv rv : Value) (j : Int) (w : World) (h : PrIs w v p) (hq : PicRIs w hv rv q) (hj : -32768 ≤ j ∧ j ≤ 32767) :
    Calls Tryz.prog 3 #[p.val v, q.val hv rv, .int .i16 j] w fun e w' => e = .returned (.bool true) ∧ Ext w w' := by
  have HAL := Lib.hid fun (W : World) => alive09d_any W
  have HGR := Lib.hid fun (W : World) (x : Ext w W) => great4_any p v W (h.ext x)
  have HG9 := Lib.hid fun (W : World) (x : Ext w W) => great9_any hv rv q W (hq.ext x)
  have HCH := Lib.hid fun (W : World) (x : Ext w W) => patCheck_any p v W (h.ext x)
  have HCK := Lib.hid fun (W : World) (x : Ext w W) => checkPic_any hv rv q W (hq.ext x)
  have HPI := Lib.hid h
  have HQI := Lib.hid hq
  obtain ⟨ur, ub, us⟩ := v
  obtain ⟨A1, n, c1, rfl, -, -, -⟩ := h.ros.open_
  obtain ⟨A2, n2, c2, rfl, -, -, -⟩ := h.rub.open_
  obtain ⟨A3, n3, c3, rfl, -, -, -⟩ := h.sh.open_
  obtain ⟨Ah, hn, hc, rfl, hhn, -, -⟩ := hq.hs.open_
  obtain ⟨AR, nr, cr, rfl, -, -, -, -⟩ := hq.rd.open_
  obtain ⟨j1, j2⟩ := hj
  have HHN := Lib.hid hhn
  clear h hq hhn
  unfold PrT.val PicR.val at *
  have HB0 := Lib.hid ((BoxAt.new w #[.slice A1 n c1, .slice A2 n2 c2, .int .i64 p.start, .int .i64 p.throw, .int .i64 p.adv, .slice A3 n3 c3] 24).ext ((Ext.refl _).alloc (.cells #[.slice Ah hn hc, .int .i64 q.tl, .int .i64 q.tu, .int .i64 q.al, .int .i64 q.au, .slice AR nr cr] 28)))
  have HQ0 := Lib.hid (show BoxAt (w.heap.size + 1) #[.slice Ah hn hc, .int .i64 q.tl, .int .i64 q.tu, .int .i64 q.al, .int .i64 q.au, .slice AR nr cr] 28 ((w.alloc (.cells #[.slice A1 n c1, .slice A2 n2 c2, .int .i64 p.start, .int .i64 p.throw, .int .i64 p.adv, .slice A3 n3 c3] 24)).alloc (.cells #[.slice Ah hn hc, .int .i64 q.tl, .int .i64 q.tu, .int .i64 q.al, .int .i64 q.au, .slice AR nr cr] 28)) from by
    have := BoxAt.new (w.alloc (.cells #[.slice A1 n c1, .slice A2 n2 c2, .int .i64 p.start, .int .i64 p.throw, .int .i64 p.adv, .slice A3 n3 c3] 24)) #[.slice Ah hn hc, .int .i64 q.tl, .int .i64 q.tu, .int .i64 q.al, .int .i64 q.au, .slice AR nr cr] 28
    simpa using this)
  go_enter Tryz.func3, Tryz.ntmps3
  go_wp2_with fail
  refine (HAL.out _).mono ?_
  rintro e W1 ⟨rfl, x1⟩
  have HX1 := Lib.hid ((((Ext.refl w).alloc _).alloc _).trans x1)
  have HB1 := Lib.hid (HB0.out.ext x1)
  have HQ1 := Lib.hid (HQ0.out.ext x1)
  clear x1
  have pc0 := HB1.out.cell (i := 0) rfl
  have pc1 := HB1.out.cell (i := 1) rfl
  have pc2 := HB1.out.cell (i := 2) rfl
  have pc3 := HB1.out.cell (i := 3) rfl
  have pc4 := HB1.out.cell (i := 4) rfl
  have pc5 := HB1.out.cell (i := 5) rfl
  have lpc := cell_lt pc0
  have qc0 := HQ1.out.cell (i := 0) rfl
  have qc1 := HQ1.out.cell (i := 1) rfl
  have qc2 := HQ1.out.cell (i := 2) rfl
  have qc3 := HQ1.out.cell (i := 3) rfl
  have qc4 := HQ1.out.cell (i := 4) rfl
  have qc5 := HQ1.out.cell (i := 5) rfl
  have lqc := cell_lt qc0
  go_wp2_with fail
  refine (HGR.out _ HX1.out).mono ?_
  rintro e W2 ⟨rfl, x2⟩
  have HX2 := Lib.hid (HX1.out.trans x2)
  have HB2 := Lib.hid (HB1.out.ext x2)
  have HQ2 := Lib.hid (HQ1.out.ext x2)
  clear x2
  clear pc0 pc1 pc2 pc3 pc4 pc5 lpc qc0 qc1 qc2 qc3 qc4 qc5 lqc
  obtain ⟨gb, hgb⟩ : ∃ b, b = greatB p := ⟨_, rfl⟩
  rw [← hgb]
  clear hgb
  cases gb
  case true =>
    go_wp2_with fail
    go_ret
    exact ⟨rfl, HX2.out⟩
  have pc0 := HB2.out.cell (i := 0) rfl
  have pc1 := HB2.out.cell (i := 1) rfl
  have pc2 := HB2.out.cell (i := 2) rfl
  have pc3 := HB2.out.cell (i := 3) rfl
  have pc4 := HB2.out.cell (i := 4) rfl
  have pc5 := HB2.out.cell (i := 5) rfl
  have lpc := cell_lt pc0
  have qc0 := HQ2.out.cell (i := 0) rfl
  have qc1 := HQ2.out.cell (i := 1) rfl
  have qc2 := HQ2.out.cell (i := 2) rfl
  have qc3 := HQ2.out.cell (i := 3) rfl
  have qc4 := HQ2.out.cell (i := 4) rfl
  have qc5 := HQ2.out.cell (i := 5) rfl
  have lqc := cell_lt qc0
  go_wp2_with fail
  refine (HG9.out _ HX2.out).mono ?_
  rintro e W3 ⟨g9, rfl, x3⟩
  have HX3 := Lib.hid (HX2.out.trans x3)
  have HB3 := Lib.hid (HB2.out.ext x3)
  have HQ3 := Lib.hid (HQ2.out.ext x3)
  clear x3
  clear pc0 pc1 pc2 pc3 pc4 pc5 lpc qc0 qc1 qc2 qc3 qc4 qc5 lqc
  cases g9
  case true =>
    go_wp2_with fail
    go_ret
    exact ⟨rfl, HX3.out⟩
  have pc0 := HB3.out.cell (i := 0) rfl
  have pc1 := HB3.out.cell (i := 1) rfl
  have pc2 := HB3.out.cell (i := 2) rfl
  have pc3 := HB3.out.cell (i := 3) rfl
  have pc4 := HB3.out.cell (i := 4) rfl
  have pc5 := HB3.out.cell (i := 5) rfl
  have lpc := cell_lt pc0
  have qc0 := HQ3.out.cell (i := 0) rfl
  have qc1 := HQ3.out.cell (i := 1) rfl
  have qc2 := HQ3.out.cell (i := 2) rfl
  have qc3 := HQ3.out.cell (i := 3) rfl
  have qc4 := HQ3.out.cell (i := 4) rfl
  have qc5 := HQ3.out.cell (i := 5) rfl
  have lqc := cell_lt qc0
  go_wp2_with fail
  refine (HCH.out _ HX3.out).mono ?_
  rintro e W4 ⟨rfl, x4⟩
  have HX4 := Lib.hid (HX3.out.trans x4)
  have HB4 := Lib.hid (HB3.out.ext x4)
  have HQ4 := Lib.hid (HQ3.out.ext x4)
  clear x4
  clear pc0 pc1 pc2 pc3 pc4 pc5 lpc qc0 qc1 qc2 qc3 qc4 qc5 lqc
  obtain ⟨er, her⟩ : ∃ z, z = progE p := ⟨_, rfl⟩
  have HER := Lib.hid her
  rw [← her]
  clear her
  by_cases he0 : er = 0
  case neg =>
    have he1 : (er != 0) = true := by simpa using he0
    go_wp2_with fail
    go_ret
    exact ⟨rfl, HX4.out⟩
  subst he0
  by_cases hj1 : 2000 < j
  case pos =>
    go_wp2_with fail
    go_ret
    exact ⟨rfl, HX4.out⟩
  by_cases hj2 : j < -2000
  case pos =>
    have s1 := decide_eq_false hj1
    go_wp2_with fail
    go_ret
    exact ⟨rfl, HX4.out⟩
  have HG := Lib.hid (progE_zero.1 HER.out.symm)
  have hn1 := HG.out.nums.n1
  obtain ⟨t, ht, -⟩ := exists_least (zs := liftL p.ros p.rub) (by rw [liftL_len]; omega)
  have HT := Lib.hid ht
  have wj : IntKind.i64.wrap j = j := IntWalk.i64_in _ (by omega)
  have HCL := Lib.hid fun (W : World) (x : Ext w W) => close_fine _ _ W (HPI.out.ros.ext x) (HPI.out.rub.ext x) HG.out.fine
  have HCU := Lib.hid fun (W : World) (x : Ext w W) => (show Calls Tryz.prog 9 #[.agg #[.slice A1 n c1, .slice A2 n2 c2, .int .i64 p.start, .int .i64 p.throw, .int .i64 p.adv, .slice A3 n3 c3], .int .i64 j] W (RetEE intK W (cutL p j) 0) from
    patCut_good p ⟨.slice A1 n c1, .slice A2 n2 c2, .slice A3 n3 c3⟩ j W (HPI.out.ext x) HG.out (by rw [inB_iff]; omega))
  have HSY := Lib.hid fun (W : World) (x : Ext w W) => (show Calls Tryz.prog 10 #[.agg #[.slice A1 n c1, .slice A2 n2 c2, .int .i64 p.start, .int .i64 p.throw, .int .i64 p.adv, .slice A3 n3 c3]] W _ from
    Symm_good p ⟨.slice A1 n c1, .slice A2 n2 c2, .slice A3 n3 c3⟩ t W (HPI.out.ext x) HG.out HT.out)
  have s1 := decide_eq_false hj1
  have s2 := decide_eq_false hj2
  clear ht hn1 HER
  have pc0 := HB4.out.cell (i := 0) rfl
  have pc1 := HB4.out.cell (i := 1) rfl
  have pc2 := HB4.out.cell (i := 2) rfl
  have pc3 := HB4.out.cell (i := 3) rfl
  have pc4 := HB4.out.cell (i := 4) rfl
  have pc5 := HB4.out.cell (i := 5) rfl
  have lpc := cell_lt pc0
  have qc0 := HQ4.out.cell (i := 0) rfl
  have qc1 := HQ4.out.cell (i := 1) rfl
  have qc2 := HQ4.out.cell (i := 2) rfl
  have qc3 := HQ4.out.cell (i := 3) rfl
  have qc4 := HQ4.out.cell (i := 4) rfl
  have qc5 := HQ4.out.cell (i := 5) rfl
  have lqc := cell_lt qc0
  go_wp2_with fail
  refine (HCL.out _ HX4.out).mono ?_
  rintro e W5 ⟨vc, rfl, oc, x5⟩
  obtain ⟨Ac, nc, cc, rfl⟩ := oc.shape
  have HX5 := Lib.hid (HX4.out.trans x5)
  have HB5 := Lib.hid (HB4.out.ext x5)
  have HQ5 := Lib.hid (HQ4.out.ext x5)
  have HOC := Lib.hid (intK_own.1 oc).isI
  have HJJ := Lib.hid (show -2000 ≤ j ∧ j ≤ 2000 from ⟨by omega, by omega⟩)
  clear x5 oc s1 s2 hj1 hj2
  clear pc0 pc1 pc2 pc3 pc4 pc5 lpc qc0 qc1 qc2 qc3 qc4 qc5 lqc
  have pc0 := HB5.out.cell (i := 0) rfl
  have pc1 := HB5.out.cell (i := 1) rfl
  have pc2 := HB5.out.cell (i := 2) rfl
  have pc3 := HB5.out.cell (i := 3) rfl
  have pc4 := HB5.out.cell (i := 4) rfl
  have pc5 := HB5.out.cell (i := 5) rfl
  have lpc := cell_lt pc0
  go_wp2_with fail
  refine lay_calls (fun W => BoxAt W5.heap.size #[.slice Ac nc cc, .slice A2 n2 c2, .int .i64 p.start, .int .i64 p.throw, .int .i64 p.adv, .slice A3 n3 c3] 24 W ∧ Ext W5 W) ⟨BoxAt.new W5 _ _, (Ext.refl _).alloc _⟩ ?_
  rintro W6 ⟨bx, x6⟩
  have HX6 := Lib.hid (HX5.out.trans x6)
  have HB6 := Lib.hid (HB5.out.ext x6)
  have HQ6 := Lib.hid (HQ5.out.ext x6)
  have HOC6 := Lib.hid (HOC.out.ext x6)
  have HBX := Lib.hid bx
  obtain ⟨bx, hbx⟩ : ∃ b, b = W5.heap.size := ⟨_, rfl⟩
  rw [← hbx] at HBX ⊢
  clear x6 hbx pc0 pc1 pc2 pc3 pc4 pc5 lpc
  have HPX := Lib.hid fun (W : World) (x : Ext W6 W) => (show PrIs W ⟨.slice Ac nc cc, .slice A2 n2 c2, .slice A3 n3 c3⟩ (clP p) from ⟨HOC6.out.ext x, HPI.out.rub.ext (HX6.out.trans x), HPI.out.sh.ext (HX6.out.trans x)⟩)
  have HCX := Lib.hid fun (W : World) (x : Ext W6 W) => (show Calls Tryz.prog 9 #[.agg #[.slice Ac nc cc, .slice A2 n2 c2, .int .i64 p.start, .int .i64 p.throw, .int .i64 p.adv, .slice A3 n3 c3], .int .i64 j] W (RetEE intK W (cutL p j) 0) from by
    have := patCut_good (clP p) ⟨.slice Ac nc cc, .slice A2 n2 c2, .slice A3 n3 c3⟩ j W (HPX.out W x) (clP_good HG.out) (by have := HJJ.out; rw [inB_iff]; omega)
    rwa [clP_cut HG.out] at this)
  have HSX := Lib.hid fun (W : World) (x : Ext W6 W) => (show Calls Tryz.prog 10 #[.agg #[.slice Ac nc cc, .slice A2 n2 c2, .int .i64 p.start, .int .i64 p.throw, .int .i64 p.adv, .slice A3 n3 c3]] W (fun e w' => ∃ u, e = .returned (.tuple #[u, .int .i64 0]) ∧ moveK.Is w' u (symL p t) ∧ Ext W w') from by
    have := Symm_good (clP p) ⟨.slice Ac nc cc, .slice A2 n2 c2, .slice A3 n3 c3⟩ t W (HPX.out W x) (clP_good HG.out) (by rw [clP_lift HG.out]; exact HT.out)
    rwa [clP_sym HG.out] at this)
  refine (HCU.out _ HX6.out).mono ?_
  rintro e W7 ⟨va, rfl, oa, x7⟩
  obtain ⟨Aa, na, ca, rfl⟩ := oa.shape
  have HX7 := Lib.hid (HX6.out.trans x7)
  have HB7 := Lib.hid (HB6.out.ext x7)
  have HQ7 := Lib.hid (HQ6.out.ext x7)
  have HA7 := Lib.hid (intK_own.1 oa).isI
  have HX67 := Lib.hid x7
  have HBX7 := Lib.hid (HBX.out.ext x7)
  clear x7 oa
  have y0 := HBX7.out.cell (i := 0) rfl
  have y1 := HBX7.out.cell (i := 1) rfl
  have y2 := HBX7.out.cell (i := 2) rfl
  have y3 := HBX7.out.cell (i := 3) rfl
  have y4 := HBX7.out.cell (i := 4) rfl
  have y5 := HBX7.out.cell (i := 5) rfl
  have ly := cell_lt y0
  go_wp2_with fail
  refine (HCX.out _ HX67.out).mono ?_
  rintro e W8 ⟨vb, rfl, ob, x8⟩
  obtain ⟨Ab, nb, cb, rfl⟩ := ob.shape
  have HX8 := Lib.hid (HX7.out.trans x8)
  have HB8 := Lib.hid (HB7.out.ext x8)
  have HQ8 := Lib.hid (HQ7.out.ext x8)
  have HA8 := Lib.hid (HA7.out.ext x8)
  have HO8 := Lib.hid (intK_own.1 ob).isI
  have HX68 := Lib.hid (HX67.out.trans x8)
  have HBX8 := Lib.hid (HBX7.out.ext x8)
  clear x8 ob y0 y1 y2 y3 y4 y5 ly
  have pc0 := HB8.out.cell (i := 0) rfl
  have pc1 := HB8.out.cell (i := 1) rfl
  have pc2 := HB8.out.cell (i := 2) rfl
  have pc3 := HB8.out.cell (i := 3) rfl
  have pc4 := HB8.out.cell (i := 4) rfl
  have pc5 := HB8.out.cell (i := 5) rfl
  have lpc := cell_lt pc0
  go_wp2_with fail
  refine (HSY.out _ HX8.out).mono ?_
  rintro e W9 ⟨vk, rfl, ik, x9⟩
  obtain ⟨Ak, nk, ck, rfl, -, -, -, -⟩ := ik.open_
  have HX9 := Lib.hid (HX8.out.trans x9)
  have HB9 := Lib.hid (HB8.out.ext x9)
  have HQ9 := Lib.hid (HQ8.out.ext x9)
  have HA9 := Lib.hid (HA8.out.ext x9)
  have HO9 := Lib.hid (HO8.out.ext x9)
  have HK9 := Lib.hid ik
  have HX69 := Lib.hid (HX68.out.trans x9)
  have HBX9 := Lib.hid (HBX8.out.ext x9)
  clear x9 ik pc0 pc1 pc2 pc3 pc4 pc5 lpc
  have y0 := HBX9.out.cell (i := 0) rfl
  have y1 := HBX9.out.cell (i := 1) rfl
  have y2 := HBX9.out.cell (i := 2) rfl
  have y3 := HBX9.out.cell (i := 3) rfl
  have y4 := HBX9.out.cell (i := 4) rfl
  have y5 := HBX9.out.cell (i := 5) rfl
  have ly := cell_lt y0
  go_wp2_with fail
  refine (HSX.out _ HX69.out).mono ?_
  rintro e Wa ⟨vl, rfl, il, xa⟩
  obtain ⟨Al, nl, cl, rfl, -, -, -, -⟩ := il.open_
  have HXa := Lib.hid (HX9.out.trans xa)
  have HBa := Lib.hid (HB9.out.ext xa)
  have HQa := Lib.hid (HQ9.out.ext xa)
  have HAa := Lib.hid (HA9.out.ext xa)
  have HOa := Lib.hid (HO9.out.ext xa)
  have HKa := Lib.hid (HK9.out.ext xa)
  have HLa := Lib.hid il
  clear xa il y0 y1 y2 y3 y4 y5 ly
  have HSI := Lib.hid (show Calls Tryz.prog 11 #[.slice Aa na ca, .slice Ab nb cb] Wa fun e w' => e = .returned (.bool true) ∧ Ext Wa w' from by
    have := same_any _ _ (cutL p j) (cutL p j) Wa HAa.out HOa.out
    rwa [show (cutL p j == cutL p j) = true from beq_self_eq_true _] at this)
  go_wp2_with fail
  refine HSI.out.mono ?_
  rintro e Wb ⟨rfl, xb⟩
  have HXb := Lib.hid (HXa.out.trans xb)
  have HBb := Lib.hid (HBa.out.ext xb)
  have HQb := Lib.hid (HQa.out.ext xb)
  have HSM := Lib.hid (sameMoves_self _ _ _ Wb (HKa.out.ext xb) (HLa.out.ext xb))
  clear xb
  go_wp2_with fail
  refine HSM.out.mono ?_
  rintro e Wc ⟨rfl, xc⟩
  have HXc := Lib.hid (HXb.out.trans xc)
  have HBc := Lib.hid (HBb.out.ext xc)
  have HQc := Lib.hid (HQb.out.ext xc)
  clear xc
  have qc0 := HQc.out.cell (i := 0) rfl
  have qc1 := HQc.out.cell (i := 1) rfl
  have qc2 := HQc.out.cell (i := 2) rfl
  have qc3 := HQc.out.cell (i := 3) rfl
  have qc4 := HQc.out.cell (i := 4) rfl
  have qc5 := HQc.out.cell (i := 5) rfl
  have lqc := cell_lt qc0
  go_wp2_with fail
  refine (HCK.out _ HXc.out).mono ?_
  rintro e Wd ⟨z, rfl, hz, xd⟩
  have HXd := Lib.hid (HXc.out.trans xd)
  have HBd := Lib.hid (HBc.out.ext xd)
  have HQd := Lib.hid (HQc.out.ext xd)
  have HZ := Lib.hid hz
  clear xd hz qc0 qc1 qc2 qc3 qc4 qc5 lqc
  by_cases hz0 : z = 0
  case neg =>
    have hz1 : (z != 0) = true := by simpa using hz0
    go_wp2_with fail
    go_ret
    exact ⟨rfl, HXd.out⟩
  obtain ⟨n9, hv9⟩ := HZ.out.1 hz0
  subst hz0
  have HV := Lib.hid hv9
  have h4 := hv9.h4
  have hn4 : 1 ≤ hn ∧ hn ≤ 4 := by have := HHN.out; omega
  have HTW := Lib.hid (twin9_any _ _ q Wd (HQI.out.ext HXd.out) (by omega) (fun x hx => by
    obtain ⟨f1, f2⟩ := hv9.fine x hx
    have := f1.hi
    have := f1.le31
    omega) (by have := hv9.rl; omega))
  clear hv9 h4 HZ
  have qc0 := HQd.out.cell (i := 0) rfl
  have qc1 := HQd.out.cell (i := 1) rfl
  have qc2 := HQd.out.cell (i := 2) rfl
  have qc3 := HQd.out.cell (i := 3) rfl
  have qc4 := HQd.out.cell (i := 4) rfl
  have qc5 := HQd.out.cell (i := 5) rfl
  have lqc := cell_lt qc0
  go_wp2_with fail
  refine HTW.out.mono ?_
  rintro e We ⟨hv', rv', rfl, oh, orr, xe⟩
  obtain ⟨Ts, o1, o2, o3⟩ := oh
  obtain ⟨g, cg, rfl, hg1, hg2, -, -⟩ := o1.slot (j := 0) (by have := HHN.out; omega)
  have hTl : Ts.length = hn := o2.trans HHN.out
  rw [hTl] at o1 ⊢
  have HOH := Lib.hid (show HdsOwn Wd.heap.size We (.slice (some ⟨g, 0, none⟩) hn cg) q.hs from ⟨Ts, o1, o2, o3⟩)
  obtain ⟨Ag, ng, cg2, rfl⟩ := orr.shape
  have HOR := Lib.hid orr
  have HXE := Lib.hid xe
  clear o1 o2 o3 hTl orr xe qc0 qc1 qc2 qc3 qc4 qc5 lqc
  go_wp2_with fail
  refine lay_wp (fun W => BoxAt We.heap.size #[.slice (some ⟨g, 0, none⟩) hn cg, .int .i64 q.tl, .int .i64 q.tu, .int .i64 q.al, .int .i64 q.au, .slice Ag ng cg2] 28 W ∧ Ext We W) ⟨BoxAt.new We _ _, (Ext.refl _).alloc _⟩ ?_
  rintro Wf ⟨bf, xf⟩
  have HBF := Lib.hid bf
  have HXF := Lib.hid (HXE.out.trans xf)
  have HOF := Lib.hid (show HdsOwn Wd.heap.size Wf (.slice (some ⟨g, 0, none⟩) hn cg) (clH q.hs 0) from by rw [clH_zero]; exact HOH.out.ext xf)
  have HRF := Lib.hid (HOR.out.ext xf)
  obtain ⟨br, hbr⟩ : ∃ b, b = We.heap.size := ⟨_, rfl⟩
  rw [← hbr] at HBF ⊢
  have hgb : g ≠ br := by omega
  clear bf xf hbr HOH HOR HXE
  go_loopw [126] (fun kv W => ∃ k : Nat, k ≤ hn ∧ kv = .int .i64 (k : Int) ∧ (HdsOwn Wd.heap.size W (.slice (some ⟨g, 0, none⟩) hn cg) (clH q.hs k) ∧ readK.Own Wd.heap.size W (.slice Ag ng cg2) q.rd) ∧
    BoxAt br #[.slice (some ⟨g, 0, none⟩) hn cg, .int .i64 q.tl, .int .i64 q.tu, .int .i64 q.al, .int .i64 q.au, .slice Ag ng cg2] 28 W ∧ Ext Wd W) (fun kv _ => hn - (intOf kv).toNat)
  case atStart => exact ⟨0, Nat.zero_le _, rfl, ⟨HOF.out, HRF.out⟩, HBF.out, HXF.out⟩
  case round =>
    obtain ⟨k, hk, rfl, ⟨hoh, hor⟩, hbx, hxx⟩ := hrel
    have HOk := Lib.hid hoh
    have HRk := Lib.hid hor
    have HBk := Lib.hid hbx
    have HXk := Lib.hid hxx
    by_cases hkn : k < hn
    · have hkl : k < q.hs.length := by rw [HHN.out]; exact hkn
      obtain ⟨Ts, o1, o2, o3⟩ := hoh
      have hkT : k < Ts.length := by rw [o2, clH_len]; exact hkl
      obtain ⟨g', c', he, -, -, hcl, hfr⟩ := o1.slot hkT
      simp only [Value.slice.injEq, Option.some.injEq, Addr.mk.injEq, and_true] at he
      obtain ⟨rfl, -, rfl⟩ := he
      obtain ⟨r1, r2⟩ := o3 k hkT (by rw [clH_len]; exact hkl)
      have e0 : (clH q.hs k)[k]'(by rw [clH_len]; exact hkl) = q.hs[k] := (clH_at hkl).trans (if_neg (Nat.lt_irrefl _))
      rw [e0] at r1 r2
      have d0 := hcl 0 _ rfl
      have d1 := hcl 1 _ rfl
      have f0 := hfr (k * 2)
      have HSC := Lib.hid (show clH q.hs (k + 1) = (clH q.hs k).set k (clL q.hs[k].1 q.hs[k].2, q.hs[k].2) from clH_succ hkl)
      have HE0 := Lib.hid e0
      obtain ⟨T, hT⟩ : ∃ T, T = Ts[k] := ⟨_, rfl⟩
      rw [← hT] at r1 r2 d0 d1
      obtain ⟨⟨Ai, ni, ci⟩, ⟨Aj, nj, cj⟩⟩ := T
      simp only [rowH, headK, Nat.add_zero] at r1 r2 d0 d1
      have HFK := Lib.hid (HV.out.fine _ (List.getElem_mem hkl)).1
      have HR1 := Lib.hid (intK_own.1 r1).isI
      have HR2 := Lib.hid (intK_own.1 r2).isI
      have HCK2 := Lib.hid fun (W : World) (x : Ext wr W) => close_fine _ _ W (HR1.out.ext x) (HR2.out.ext x) HFK.out
      have y0 := hbx.cell (i := 0) rfl
      have ly := cell_lt y0
      have ld := cell_lt d0
      have q0 := But.cells (D := []) y0 (by simp)
      have q1 := But.cells (D := []) d0 (by simp)
      have q2 := But.cells (D := []) d1 (by simp)
      have hkk : (k : Int) < (hn : Int) := by omega
      have HO1 := Lib.hid o1
      clear hor hbx hxx o1 o2 o3 r1 r2 hcl hfr hT e0
      go_wp2_with fail
      refine (wpIn_wide (n := 3)).1 ?_
      refine wpIn_region_steps [] 17 [(0, true), (1, true), (2, true), (3, true), (4, true), (5, true), (6, true), (7, true), (8, true), (9, true), (10, true), (11, true), (12, false), (13, true), (14, true), (15, true), (16, true)] (by kernel_rfl) (by decide +kernel) ?_
      iterate 12 (refine wpSD_q (by rfl) (fun _ _ _ => trivial) (fun K hK => ?_); go_simp; refine hK _ ?_; clear hK K)
      refine wpSD_m (by rfl) (fun _ _ _ => trivial) (fun δ K hK => ?_)
      go_simp
      have E1 := Lib.hid (show Ext wr δ.wd from ⟨δ, rfl⟩)
      refine (callsIn_wide.2 (HCK2.out _ E1.out)).mono ?_
      rintro e W1 ⟨vz, rfl, oz, xz⟩
      obtain ⟨Az, nz, cz, rfl⟩ := oz.shape
      have HZO := Lib.hid (oz.mono (B' := Wd.heap.size) (Nat.le_trans HXk.out.bel.size E1.out.bel.size))
      have HZX := Lib.hid (E1.out.trans xz)
      refine ⟨_, rfl, xz.but, hK _ _ ?_⟩
      clear hK K oz xz E1
      iterate 4 (refine wpSD_q (by rfl) (fun _ _ _ => trivial) (fun K hK => ?_); go_simp; refine hK _ ?_; clear hK K)
      refine wpSD_nil ?_
      intro W2 x2
      have HX2 := Lib.hid (HZX.out.trans x2)
      have HZ2 := Lib.hid (HZO.out.ext x2)
      replace f0 := HX2.out.frozen d0 f0
      replace d0 := HX2.out.cell_some d0
      replace y0 := HX2.out.cell_some y0
      replace ly := cell_lt y0
      replace ld := cell_lt d0
      clear x2 q0 q1 q2 d1 HZO HZX
      have HP := Lib.hid (HOk.out.put HX2.out (by rw [clH_len]; exact hkl) (T := (Az, nz, cz)) HZ2.out)
      have HBN := Lib.hid ((HBk.out.ext HX2.out).setOther (p := ⟨g, k * 2, none⟩) (by show br ≠ g; exact Ne.symm hgb) (.slice Az nz cz))
      have HRN := Lib.hid (show readK.Own Wd.heap.size (W2.setCell ⟨g, k * 2, none⟩ (.slice Az nz cz)) (.slice Ag ng cg2) q.rd from (HRk.out.ext HX2.out).oth (by
        have := own_ne (HRk.out.ext HX2.out) (HO1.out.ext HX2.out) (by decide)
        simpa [Value.ownBlock] using this))
      have HXN := Lib.hid ((HXk.out.trans HX2.out).setCell (p := ⟨g, k * 2, none⟩) hg1 (.slice Az nz cz))
      have HHP := Lib.hid (show HdsOwn Wd.heap.size (W2.setCell ⟨g, k * 2, none⟩ (.slice Az nz cz)) (.slice (some ⟨g, 0, none⟩) hn cg) (clH q.hs (k + 1)) from by
        have h1 := HP.out
        rw [HE0.out] at h1
        rw [HSC.out]
        exact h1)
      clear HP
      simp only [List.drop_succ_cons, List.drop_zero]
      gi_wp2
      go_wp2_with fail
      go_roundw
      case rel => exact ⟨k + 1, by omega, by go_num, ⟨HHP.out, HRN.out⟩, HBN.out, HXN.out⟩
      case measure => simp [intOf]; omega
    · have hke : k = hn := by omega
      have hkk : ¬ (k : Int) < (hn : Int) := by omega
      have HOE := Lib.hid (show HdsOwn Wd.heap.size wr (.slice (some ⟨g, 0, none⟩) hn cg) (clR q).hs from by
        have h1 := HOk.out
        rw [hke, ← HHN.out] at h1
        rw [← HHN.out]
        exact h1)
      have HQk := Lib.hid (HQd.out.ext hxx)
      have HXw := Lib.hid (HXd.out.trans hxx)
      have HVR := Lib.hid (clR_v HV.out)
      obtain ⟨hb, ho, -, -, hA, -⟩ : ∃ b o, ∃ (_ _ : RowH), Ah = some ⟨b, o, none⟩ ∧ True := by
        obtain ⟨A, n', c', he, hl, -, hr⟩ := HQI.out.hs.open_
        simp only [Value.slice.injEq] at he
        obtain ⟨b, o, Ta, Tb, hA, -⟩ := hr 0 (by have := HHN.out; omega)
        exact ⟨b, o, Ta, Tb, he.1.trans hA, trivial⟩
      subst hA
      have HF1 := Lib.hid fun (W : World) (x : Ext w W) => (show Calls Tryz.prog 15 #[.agg #[.slice (some ⟨hb, ho, none⟩) hn hc, .int .i64 q.tl, .int .i64 q.tu, .int .i64 q.al, .int .i64 q.au, .slice AR nr cr]] W fun e w' => ∃ u, e = .returned (.tuple #[u, .int .i64 (findE q.toT)]) ∧ fndK.Is w' u (findL q.toT) ∧ Ext W w' from by
        have := find_any hb ho hn hc n9 (.slice AR nr cr) q.toT W (HQI.out.hs.ext x).heads (HQI.out.rd.ext x) HV.out.ok (fun W' x' => by
          rw [← HV.out.val]
          refine (HCK.out W' (x.trans x')).mono ?_
          rintro e w' ⟨z, rfl, hz, xz⟩
          exact ⟨by rw [hz.2 ⟨_, HV.out⟩], xz⟩)
        rwa [← HV.out.val] at this)
      have HF2 := Lib.hid fun (W : World) (x : Ext wr W) => (show Calls Tryz.prog 15 #[.agg #[.slice (some ⟨g, 0, none⟩) hn cg, .int .i64 q.tl, .int .i64 q.tu, .int .i64 q.al, .int .i64 q.au, .slice Ag ng cg2]] W fun e w' => ∃ u, e = .returned (.tuple #[u, .int .i64 (findE q.toT)]) ∧ fndK.Is w' u (findL q.toT) ∧ Ext W w' from by
        have := find_any g 0 hn cg n9 (.slice Ag ng cg2) (clR q).toT W (HOE.out.is.ext x).heads (HRk.out.is.ext x) HVR.out.ok (fun W' x' => by
          rw [← HVR.out.val]
          refine (checkPic_any _ _ (clR q) W' ⟨HOE.out.is.ext (x.trans x'), HRk.out.is.ext (x.trans x')⟩).mono ?_
          rintro e w' ⟨z, rfl, hz, xz⟩
          exact ⟨by rw [hz.2 ⟨_, HVR.out⟩], xz⟩)
        rw [← HVR.out.val, (clR_find HV.out).1, (clR_find HV.out).2] at this
        exact this)
      obtain ⟨fe, hfe⟩ : ∃ z, z = findE q.toT := ⟨_, rfl⟩
      rw [← hfe] at HF1 HF2
      clear hoh hor hbx hxx hke hfe
      have qc0 := HQk.out.cell (i := 0) rfl
      have qc1 := HQk.out.cell (i := 1) rfl
      have qc2 := HQk.out.cell (i := 2) rfl
      have qc3 := HQk.out.cell (i := 3) rfl
      have qc4 := HQk.out.cell (i := 4) rfl
      have qc5 := HQk.out.cell (i := 5) rfl
      have lqc := cell_lt qc0
      go_wp2_with fail
      refine (HF1.out _ HXw.out).mono ?_
      rintro e Wg ⟨us, rfl, is, xs⟩
      obtain ⟨As, ns, cs, rfl, -, -, -, -⟩ := is.open_
      have HXg := Lib.hid (HXw.out.trans xs)
      have HXwg := Lib.hid xs
      have HIS := Lib.hid is
      have HBg := Lib.hid (HBk.out.ext xs)
      clear is xs qc0 qc1 qc2 qc3 qc4 qc5 lqc
      have y0 := HBg.out.cell (i := 0) rfl
      have y1 := HBg.out.cell (i := 1) rfl
      have y2 := HBg.out.cell (i := 2) rfl
      have y3 := HBg.out.cell (i := 3) rfl
      have y4 := HBg.out.cell (i := 4) rfl
      have y5 := HBg.out.cell (i := 5) rfl
      have ly := cell_lt y0
      go_wp2_with fail
      refine (HF2.out _ HXwg.out).mono ?_
      rintro e Wh ⟨uu, rfl, iu, xu⟩
      obtain ⟨Au, nu, cu, rfl, -, -, -, -⟩ := iu.open_
      have HXh := Lib.hid (HXg.out.trans xu)
      have HSF := Lib.hid (sameFound_self _ _ _ Wh (HIS.out.ext xu) iu)
      clear iu xu y0 y1 y2 y3 y4 y5 ly
      go_wp2_with fail
      refine HSF.out.mono ?_
      rintro e Wi ⟨rfl, xi⟩
      have HXi := Lib.hid (HXh.out.trans xi)
      clear xi
      go_wp2_with fail
      go_ret
      exact ⟨rfl, HXi.out⟩
end Go.Proofs.YtkjgcmdabelohaaGreat
