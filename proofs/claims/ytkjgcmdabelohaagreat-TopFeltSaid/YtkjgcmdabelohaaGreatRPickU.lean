/- rosette.picked, for under. Condition: slices read as lists. -/
import Derived.Test.YtkjgcmdabelohaaGreatMOff
namespace Go.Proofs.YtkjgcmdabelohaaGreat
open Go.RowKit Go.Shelf

attribute [local go_sem] Oper.semAt_some

/-- What the rubber's place j asks of the rosette at step k. -/
def askU (xs ys : List Int) (m k j : Nat) : Int := xs[((((k : Int) + -(((min j m : Nat) : Int) - (m : Int) / 2)) % (xs.length : Int))).toNat]?.getD 0 + ys[j]?.getD 0
def bestU (xs ys : List Int) (m k : Nat) (pre : List Nat) : Int := pre.foldl (fun acc j => if j = 0 then askU xs ys m k j else min acc (askU xs ys m k j)) 0
theorem bestU_snoc (xs ys : List Int) (m k : Nat) (pre : List Nat) (j : Nat) : bestU xs ys m k (pre ++ [j]) = if j = 0 then askU xs ys m k j else min (bestU xs ys m k pre) (askU xs ys m k j) := by simp [bestU]
def pickU (xs ys : List Int) (m k : Nat) : List Int := (List.range k).map fun i => bestU xs ys m i (List.range m)
theorem pickU_succ (xs ys : List Int) (m k : Nat) : pickU xs ys m (k + 1) = pickU xs ys m k ++ [bestU xs ys m k (List.range m)] := by simp [pickU, List.range_succ]

theorem plus_any (x y : Int) (w : World) (h1 : -1000000 ≤ x) (h2 : x ≤ 1000000) (h3 : -1000000 ≤ y) (h4 : y ≤ 1000000) : Calls Tryz.prog 53 #[.int .i64 x, .int .i64 y] w fun e w' => e = .returned (.int .i64 (x + y)) ∧ w = w' := by
  go_enter Tryz.func53, Tryz.ntmps53
  go_wp2
  go_ret
  exact ⟨rfl, rfl⟩
theorem min_any (x y : Int) (w : World) : Calls Tryz.prog 54 #[.int .i64 x, .int .i64 y] w fun e w' => e = .returned (.int .i64 (min x y)) ∧ w = w' := by
  go_enter Tryz.func54, Tryz.ntmps54
  go_wp2
  all_goals go_ret
  all_goals exact ⟨ret_i (by omega), rfl⟩

/-- The frame at the head of the round over the rosette's steps. -/
def PickUAt (A A' : Option Addr) (n m c c' B : Nat) (k : Nat) (sv : Value) (Ds : List Nat) (a : Act) : Prop :=
  ∃ u12 u13 u14 u15 u16 u20 u21 u22 u23 u24 u25 u26 u27 u28 u29 u30 u31 u32 u33 u34 u35 u36 u37 u38 u39 u40 u41 u42 u43 u44 u45 u46 u47 u48 u49 u50 u51 u52 u53 u54 u55 u56 : Value, a = { tmps := #[.slice A n c, .slice A' m c', .int .i64 (-1), .func (.func 53) #[] #[], .func (.func 54) #[] #[], .pointer (some ⟨B, 0, none⟩), .pointer (some ⟨B + 1, 0, none⟩), .pointer (some ⟨B + 1 + 1, 0, none⟩), .pointer (some ⟨B + 1 + 1 + 1, 0, none⟩), .pointer (some ⟨B + 1 + 1 + 1 + 1, 0, none⟩), .slice none 0 0, sv, u12, u13, u14, u15, u16, .slice A n c, .int .i64 n, .int .i64 k, u20, u21, u22, u23, u24, u25, u26, u27, u28, u29, u30, u31, u32, u33, u34, u35, u36, u37, u38, u39, u40, u41, u42, u43, u44, u45, u46, u47, u48, u49, u50, u51, u52, u53, u54, u55, u56], defers := marksOf Ds }

set_option maxRecDepth 100000 in
set_option maxHeartbeats 2000000 in
theorem pickedU_any (u v : Value) (xs ys : List Int) (w : World) (hu : IsI w u xs) (hv : IsI w v ys) (hn1 : 1 ≤ xs.length) (hz : xs.length ≤ 1000) (hy1 : 1 ≤ ys.length) (hy : ys.length ≤ 1000)
    (hxb : ∀ i : Nat, 0 ≤ xs[i]?.getD 0 ∧ xs[i]?.getD 0 ≤ 10000) (hyb : ∀ i : Nat, 0 ≤ ys[i]?.getD 0 ∧ ys[i]?.getD 0 ≤ 10000) :
    Calls Tryz.prog 50 #[u, v, .int .i64 (-1), .func (.func 53) #[] #[], .func (.func 54) #[] #[]] w (RetO w (pickU xs ys ys.length xs.length)) := by
  have HXB := Lib.hid hxb
  have HYB := Lib.hid hyb
  clear hxb hyb
  have HU := Lib.hid hu
  have HV := Lib.hid hv
  obtain ⟨A, n, c, rfl, hc0, hr, hn⟩ := hu.open_
  obtain ⟨A', m, c', rfl, hd0, hs, hm⟩ := hv.open_
  have HL1 := Lib.hid hr.len
  have HL2 := Lib.hid hs.len
  rw [HL1.out] at hn1 hz
  rw [HL2.out] at hy1 hy
  obtain ⟨bf, of, rfl, hbf, _⟩ := hr.at_ 0 (by omega)
  obtain ⟨br, or', rfl, hbr, _⟩ := hs.at_ 0 (by omega)
  have HR := Lib.hid hr
  have HS := Lib.hid hs
  clear hr hs hu hv
  refine (callsIn_wide (n := 3)).1 ?_
  refine callsIn_of_wp_marks Tryz.func50 rfl trivial ?_ rfl
  simp only [Tryz.ntmps50, List.size_toArray, List.length_cons, List.length_nil, Nat.reduceAdd, Nat.reduceSub, Array.replicate_succ, Array.replicate_zero, List.push_toArray, List.append_toArray, List.nil_append, List.cons_append]
  gi_wp2
  refine lay_in (fun W => Ext w W ∧ W.cell? ⟨w.heap.size, 0, none⟩ = some (.slice (some ⟨bf, of, none⟩) n c) ∧ W.cell? ⟨w.heap.size + 1, 0, none⟩ = some (.slice (some ⟨br, or', none⟩) m c') ∧ W.cell? ⟨w.heap.size + 1 + 1, 0, none⟩ = some (.int .i64 (-1)) ∧
    W.cell? ⟨w.heap.size + 1 + 1 + 1, 0, none⟩ = some (.func (.func 53) #[] #[]) ∧ W.cell? ⟨w.heap.size + 1 + 1 + 1 + 1, 0, none⟩ = some (.func (.func 54) #[] #[])) ⟨by (repeat' (first | with_reducible exact Ext.refl _ | with_reducible apply Ext.alloc | with_reducible apply Ext.drew | with_reducible apply Ext.drewN | with_reducible refine Ext.setCell ?_ ?_ _ | with_reducible apply Ext.step | with_reducible assumption | with_reducible exact Nat.le_refl _ | (simp; done) | (simp; omega))), by go_cell, by go_cell, by go_cell, by go_cell, by go_cell⟩ ?_
  rintro w1 ⟨X1, b0, b1, b2, b3, b4⟩
  refine wpIn_loop (fun a wr => ∃ (k : Nat) (sv : Value) (Ds : List Nat), PickUAt (some ⟨bf, of, none⟩) (some ⟨br, or', none⟩) n m c c' w.heap.size k sv Ds a ∧ k ≤ n ∧ Ext w1 wr ∧ Ds.Nodup ∧ (∀ D ∈ Ds, w1.heap.size ≤ D ∧ wr.heap[D]? = some (.deferred (some []))) ∧ OwnI w1.heap.size wr sv (pickU xs ys m k))
    (fun a _ => n - (intOf (a.tmps.getD 19 undef)).toNat) ⟨0, .slice none 0 0, [], ⟨_, _, _, _, _, _, _, _, _, _, _, _, _, _, _, _, _, _, _, _, _, _, _, _, _, _, _, _, _, _, _, _, _, _, _, _, _, _, _, _, _, _, rfl⟩, by omega, Ext.refl _, List.nodup_nil, by simp, OwnI.nil _ _⟩ ?_
  rintro a wr ⟨k, sv, Ds, ⟨u12, u13, u14, u15, u16, u20, u21, u22, u23, u24, u25, u26, u27, u28, u29, u30, u31, u32, u33, u34, u35, u36, u37, u38, u39, u40, u41, u42, u43, u44, u45, u46, u47, u48, u49, u50, u51, u52, u53, u54, u55, u56, rfl⟩, hk, hx, hnd, hDs, hown⟩
  by_cases hlt : k < n
  · have c0 := hx.cell_some b0
    have c1 := hx.cell_some b1
    have c2 := hx.cell_some b2
    have c3 := hx.cell_some b3
    have c4 := hx.cell_some b4
    have l0 := cell_lt c0
    have l1 := cell_lt c1
    have l2 := cell_lt c2
    have l3 := cell_lt c3
    have l4 := cell_lt c4
    gi_wp2_with (refine ⟨trivial, ?_⟩; gi_at_call 72; refine (offsets_in Fence.wide 2 trivial rfl _ _ _ _).mono ?_; rintro e w' ⟨rfl, rfl⟩)
    have hBr : br < wr.heap.size := Nat.lt_of_lt_of_le hbr (X1.trans hx).bel.size
    refine lay_in (fun W => Ext w1 W ∧ Ext wr W ∧ W.heap.size = wr.heap.size + 3 ∧ W.cell? ⟨wr.heap.size, 0, none⟩ = some (.int .i64 k) ∧ W.cell? ⟨wr.heap.size + 1, 0, none⟩ = some (.int .i64 0) ∧ W.frozen? ⟨wr.heap.size + 1, 0, none⟩ = false ∧ W.cell? ⟨wr.heap.size + 1 + 1, 0, none⟩ = some (.slice (some ⟨br, or', none⟩) m c')) ⟨by (repeat' (first | with_reducible exact Ext.refl _ | with_reducible apply Ext.alloc | with_reducible apply Ext.drew | with_reducible apply Ext.drewN | with_reducible refine Ext.setCell ?_ ?_ _ | with_reducible apply Ext.step | with_reducible assumption | with_reducible exact Nat.le_refl _ | (simp; done) | (simp; omega))), by (repeat' (first | with_reducible exact Ext.refl _ | with_reducible apply Ext.alloc | with_reducible apply Ext.drew | with_reducible apply Ext.drewN | with_reducible refine Ext.setCell ?_ ?_ _ | with_reducible apply Ext.step | with_reducible assumption | with_reducible exact Nat.le_refl _ | (simp; done) | (simp; omega))), by simp, by go_cell, by go_cell, by go_simp, by go_cell⟩ ?_
    rintro W0 ⟨Y1, Yr, hsz, d12, d13, f13, d14⟩
    have HS0 := Lib.hid (HS.out.ext (X1.trans Y1))
    have hcs : ∀ j, j < m → W0.cell? ⟨br, or' + j, none⟩ = some (.int .i64 (ys[j]?.getD 0)) := fun j hj => by
      obtain ⟨_, _, he, _, hc⟩ := HS0.out.at_ j hj
      cases he
      exact hc
    refine wpIn_rangeFunc_ownG rfl (by decide) (gf := 85) (lb := #[.pointer (some ⟨wr.heap.size + 1 + 1, 0, none⟩)]) rfl trivial (enters_of Tryz.func85 (by kernel_rfl) rfl)
      (offsets_stops Fence.wide 2 trivial rfl (by decide) (wr.heap.size + 1 + 1) (wr.heap.size + 1) br or' m c' ys (by omega) (by omega) (by omega) W0 (by omega) (by omega) d14 hcs)
      CellsBut.trans (fun _ _ _ _ _ h1 h2 _ => CellsBut.put h1 h2) (Below.refl _ _) (fun _ => rfl)
      (fun pre W => W.cell? ⟨wr.heap.size + 1, 0, none⟩ = some (.int .i64 (bestU xs ys m k pre)) ∧ W.frozen? ⟨wr.heap.size + 1, 0, none⟩ = false ∧ W0.grownBy W (some (wr.heap.size + 1)))
      (fun _ _ _ => False)
      (fun s A B row hs hg hr => ⟨cell_kept hs.1 hg (fun r e => (hr r e).2), (frozen_kept hs.1 hg (fun r e => (hr r e).2)).trans hs.2.1, grow_other hs.2.2 hg (fun r e => (hr r e).1)⟩)
      (fun _ _ _ _ _ hs _ _ => hs)
      ⟨d13, f13, ⟨rfl, rfl, rfl, Nat.le_refl _, fun _ _ _ => rfl⟩⟩
      (fun j => { tmps := #[.slice (some ⟨bf, of, none⟩) n c, .slice (some ⟨br, or', none⟩) m c', .int .i64 (-1), .func (.func 53) #[] #[], .func (.func 54) #[] #[], .pointer (some ⟨w.heap.size, 0, none⟩), .pointer (some ⟨w.heap.size + 1, 0, none⟩), .pointer (some ⟨w.heap.size + 1 + 1, 0, none⟩), .pointer (some ⟨w.heap.size + 1 + 1 + 1, 0, none⟩), .pointer (some ⟨w.heap.size + 1 + 1 + 1 + 1, 0, none⟩), .slice none 0 0, sv, .pointer (some ⟨wr.heap.size, 0, none⟩), .pointer (some ⟨wr.heap.size + 1, 0, none⟩), .int .i64 (((min j m : Nat) : Int) - (m : Int) / 2), .int .i64 (ys[j]?.getD 0), u16, .slice (some ⟨bf, of, none⟩) n c, .int .i64 n, .int .i64 k, .bool true, .int .i64 k, .slice (some ⟨br, or', none⟩) m c', .func (.func 85) #[] #[.pointer (some ⟨wr.heap.size + 1 + 1, 0, none⟩)], .int .i64 (((min j m : Nat) : Int) - (m : Int) / 2), .int .i64 (ys[j]?.getD 0), u26, u27, u28, u29, u30, u31, u32, u33, u34, u35, u36, u37, u38, u39, u40, u41, u42, u43, u44, u45, u46, u47, u48, u49, u50, u51, u52, u53, u54, u55, u56], defers := [] }) ?assign ?body ?done ?stop
    case assign =>
      intro l x W K hK
      simp only [offEnc]
      gi_wp2
      exact hK
    case stop =>
      rintro D c pre W _ _ h _
      exact h.elim
    case body =>
      rintro l pre j W ⟨e13, g13, hg⟩ _
      have k0 : W.cell? ⟨w.heap.size, 0, none⟩ = some (.slice (some ⟨bf, of, none⟩) n c) := hg.cell (Y1.cell_some b0) (by simp; omega)
      have k1 : W.cell? ⟨w.heap.size + 1, 0, none⟩ = some (.slice (some ⟨br, or', none⟩) m c') := hg.cell (Y1.cell_some b1) (by simp; omega)
      have k2 : W.cell? ⟨w.heap.size + 1 + 1, 0, none⟩ = some (.int .i64 (-1)) := hg.cell (Y1.cell_some b2) (by simp; omega)
      have k3 : W.cell? ⟨w.heap.size + 1 + 1 + 1, 0, none⟩ = some (.func (.func 53) #[] #[]) := hg.cell (Y1.cell_some b3) (by simp; omega)
      have k4 : W.cell? ⟨w.heap.size + 1 + 1 + 1 + 1, 0, none⟩ = some (.func (.func 54) #[] #[]) := hg.cell (Y1.cell_some b4) (by simp; omega)
      have k12 : W.cell? ⟨wr.heap.size, 0, none⟩ = some (.int .i64 k) := hg.cell d12 (by simp)
      obtain ⟨i, hi, hin⟩ := emod_nat ((k : Int) + -(((min j m : Nat) : Int) - (m : Int) / 2)) hn1
      have hBf : bf < wr.heap.size := Nat.lt_of_lt_of_le hbf (X1.trans hx).bel.size
      have hci : W.cell? ⟨bf, of + i, none⟩ = some (.int .i64 (xs[i]?.getD 0)) := by
        obtain ⟨_, _, he, _, hc⟩ := (HR.out.ext (X1.trans Y1)).at_ i hin
        cases he
        exact hg.cell hc (by simp; omega)
      have hmj : min j m ≤ m := Nat.min_le_right _ _
      have HAR := Lib.hid fun W => around_any ((k : Int) + -(((min j m : Nat) : Int) - (m : Int) / 2)) n W (by omega) (by omega)
      rw [hi] at HAR
      have HI := Lib.hid hi
      clear hi
      have HSU := Lib.hid fun W => plus_any (xs[i]?.getD 0) (ys[j]?.getD 0) W (by have := (HXB.out i).1; omega) (by have := (HXB.out i).2; omega) (by have := (HYB.out j).1; omega) (by have := (HYB.out j).2; omega)
      generalize hq : min j m = q at *
      have F73 : Fence.wide.fn 69 := trivial
      have F89 : Fence.wide.fn 53 := trivial
      have F90 : Fence.wide.fn 54 := trivial
      gi_wp2
      refine wpIn_region_quietR (by kernel_rfl) (by kernel_rfl) (by kernel_rfl) ?_
      repeat (gi_big_quiet_step (first | (gi_at_call 69; exact quietR_call (HAR.out _)) | (gi_at_call 53; exact quietR_call (HSU.out _))))
      refine wpQuietIn_nil ?_
      rintro _ ⟨nq, rfl⟩
      have hask : askU xs ys m k j = xs[i]?.getD 0 + ys[j]?.getD 0 := by rw [askU, HL1.out, hq, HI.out]; rfl
      have HASK := Lib.hid hask
      clear hask
      have HB13 := Lib.hid (show wr.heap.size + 1 < W0.heap.size by omega)
      have HG := Lib.hid hg
      by_cases hj : j = 0
      · have hq0 : q = 0 := by omega
        have HJ := Lib.hid hj
        clear hj
        gi_wp2
        exact body_end (nq := nq) (by rw [bestU_snoc, if_pos HJ.out, HASK.out]) HG.out HB13.out e13 g13 rfl
      · have hq0 : 1 ≤ q := by omega
        have HJ := Lib.hid hj
        clear hj
        gi_wp2
        refine (CallsIn.inRound l (callsIn_wide.2 (min_any _ _ _))).mono ?_
        rintro e _ ⟨rfl, rfl⟩
        gi_wp2
        exact body_end (nq := nq) (by rw [bestU_snoc, if_neg HJ.out, HASK.out]) HG.out HB13.out e13 g13 rfl
    case done =>
      rintro D ys' W hD rfl ⟨e13, g13, hg⟩ hK
      have hle := hx.bel.size
      have OW : OwnI w1.heap.size W sv (pickU xs ys m k) := World.ownsRow.kept (hown.ext Yr) hg (by
        rcases h : sv.ownBlock with _ | g
        · exact .inl rfl
        · refine .inr (fun e => ?_)
          have := (World.ownsRow.lt hown g h).2
          simp only [Option.some.injEq] at e
          omega)
      have XW : Ext w1 W := Y1.below ((Below.refl w1.heap.size W0).grown hg Y1.bel.size (fun r e => by cases e; omega)) (Nat.le_refl _)
      have MW : ∀ D' ∈ Ds, w1.heap.size ≤ D' ∧ D' < wr.heap.size ∧ W.heap[D']? = some (.deferred (some [])) := fun D' h' => by
        obtain ⟨h1, h2⟩ := hDs D' h'
        have h3 := (Array.getElem?_eq_some_iff.1 h2).1
        exact ⟨h1, h3, (hg.block D' (by omega) (fun e => by simp at e; omega)).trans ((Yr.bel.block D' h3).trans h2)⟩
      have HC := Lib.hid (cell_new0 W (.int .i64 (bestU xs ys m k (List.range m))) 3)
      have HO := Lib.hid (OW.ext ((Ext.refl W).alloc (.cells #[.int .i64 (bestU xs ys m k (List.range m))] 3)))
      have HB := Lib.hid (show w1.heap.size ≤ (W.alloc (.cells #[.int .i64 (bestU xs ys m k (List.range m))] 3)).heap.size from (XW.alloc _).bel.size)
      have HZ := Lib.hid (show (pickU xs ys m k).length ≤ 1000000000 by simp [pickU]; omega)
      gi_wp2_with (gi_at_builtin; refine app_one_in rfl _ _ rfl _ _ _ rfl rfl HC.out HO.out HB.out HZ.out ?_; intro v' w3 o3 g3)
      have hsn : ∀ r, sv.ownBlock = some r → w1.heap.size ≤ r ∧ r < wr.heap.size := fun r e => World.ownsRow.lt hown r e
      have hcl : ∀ D', W.heap[D']? = some (.deferred (some [])) → some D' ≠ sv.ownBlock := fun D' h1 h2 => by
        rcases OW.2 with ⟨e, _⟩ | ⟨g, cap, cur, e, _, hh, _⟩
        · rw [e] at h2; cases h2
        · rw [e] at h2
          simp only [Value.ownBlock, Option.some.injEq] at h2
          subst h2
          rw [h1] at hh
          cases hh
      have hkeep : ∀ D', D' < W.heap.size → W.heap[D']? = some (.deferred (some [])) → w3.heap[D']? = some (.deferred (some [])) := fun D' h1 h2 =>
        (g3.block D' (by simp; omega) (hcl D' h2)).trans ((World.grownBy_alloc W _ none |>.block D' h1 (by simp)).trans h2)
      have hDlt := (Array.getElem?_eq_some_iff.1 hK).1
      refine ⟨⟨k + 1, v', D :: Ds, ⟨_, _, _, _, _, _, _, _, _, _, _, _, _, _, _, _, _, _, _, _, _, _, _, _, _, _, _, _, _, _, _, _, _, _, _, _, _, _, _, _, _, _, rfl⟩, by omega, Ext.below (XW.alloc (.cells #[.int .i64 (bestU xs ys m k (List.range m))] 3)) ((Below.refl w1.heap.size _).grown g3 HB.out (fun r e => (hsn r e).1)) (Nat.le_refl _), List.nodup_cons.2 ⟨fun h => ?_, hnd⟩, fun D' h => ?_, ?_⟩, ?_⟩
      · have := (MW D h).2.1
        omega
      · rcases List.mem_cons.1 h with rfl | h
        · exact ⟨by omega, hkeep _ hDlt hK⟩
        · obtain ⟨h1, h2, h3⟩ := MW D' h
          exact ⟨h1, hkeep D' (Array.getElem?_eq_some_iff.1 h3).1 h3⟩
      · rw [pickU_succ]
        exact o3
      · simp [intOf]
        omega
  · obtain rfl : k = n := by omega
    gi_wp2
    refine leaves_marks Ds wr hnd (fun D h => (hDs D h).2) (fun W' hW => ⟨_, results_tmp rfl _ _ _, sv, rfl, ?_, ?_⟩)
    · rw [HL1.out, HL2.out]
      refine OwnI.mono ⟨hown.1, ?_⟩ X1.bel.size
      rcases hown.2 with hn | ⟨g, cap, cur, hv, hb, hh, rest⟩
      · exact .inl hn
      · refine .inr ⟨g, cap, cur, hv, hb, (hW.block g fun hg => ?_).trans hh, rest⟩
        rw [(hDs g hg).2] at hh
        cases hh
    · have hb := (X1.trans hx).bel
      exact .of ⟨hW.os.trans hb.os, hW.tape.trans hb.tape, hW.output.trans hb.output, by rw [hW.size]; exact hb.size, fun i hi => (hW.block i fun hg => by have h1 := (hDs i hg).1; have h2 := X1.bel.size; omega).trans (hb.block i hi)⟩
end Go.Proofs.YtkjgcmdabelohaaGreat
