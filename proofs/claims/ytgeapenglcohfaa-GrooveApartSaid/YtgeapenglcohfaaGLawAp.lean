/- GrooveApart: the law's walk. Condition: the slices read as lists. -/
import Derived.Test.YtgeapenglcohfaaGApaP
import Derived.Test.YtgeapenglcohfaaGAlive
import Derived.Test.YtgeapenglcohfaaGAppD
import Derived.Test.YtgeapenglcohfaaGRWal
import Derived.Test.YtgeapenglcohfaaGFrom
namespace Go.Proofs.Ytgeapenglcohfaa
open Go.RowKit

theorem own_lit1 (w : World) (o : Obj) (x y : Int) : spotK.Own 0 ((w.alloc o).alloc (.cells #[.int .i64 x, .int .i64 y] 56)) (.slice (some ⟨w.heap.size + 1, 0, none⟩) 1 1) [(x, y)] := by
  have h := EK.Own.lit (K := spotK) (B := 0) (w.alloc o) #[.int .i64 x, .int .i64 y] [(x, y)] rfl (Nat.zero_le _) (by simp [maxLen])
  have e : (w.alloc o).heap.size = w.heap.size + 1 := by simp
  rw [e] at h
  exact h

set_option maxRecDepth 100000 in
set_option maxHeartbeats 8000000 in
theorem lawApart_any (v : Value) (xs : List (Int × Int)) (u : Value) (ys : List (Int × Int)) (least i : Int) (w : World) (hx : spotK.Is w v xs) (hy : spotK.Is w u ys) :
    Calls Try.prog 14 #[v, u, .int .i64 least, .int .i64 i] w fun e w' => e = .returned (.bool true) ∧ Ext w w' := by
  have HAL := Lib.hid fun W : World => alive_any W
  have HX := Lib.hid hx
  have HY := Lib.hid hy
  have HD := Lib.hid fun (W : World) (x : Ext w W) => distance_any v u xs ys W (hx.ext x) (hy.ext x)
  have HP := Lib.hid fun (W : World) (x : Ext w W) => apart2_any v u xs ys least W (hx.ext x) (hy.ext x)
  obtain ⟨A, n, c, rfl, hn, _, hr, hm⟩ := hx.open_
  obtain ⟨A', n', c', rfl, hn', _, hr', hm'⟩ := hy.open_
  have HN := Lib.hid hn
  have HN' := Lib.hid hn'
  have HR := Lib.hid hr
  have HR' := Lib.hid hr'
  clear hx hy hr hr' hn hn'
  by_cases hbad : 20 < n ∨ 20 < n'
  · have hp : (20 < n) ∨ (¬ 20 < n ∧ 20 < n') := by omega
    clear hbad
    rcases hp with h1 | ⟨h1, h2⟩
    case' inl => have d1 : decide ((20 : Int) < (n : Int)) = true := by simp; omega
    case' inr => have d1 : decide ((20 : Int) < (n : Int)) = false := by simp; omega
    case' inr => have d2 : decide ((20 : Int) < (n' : Int)) = true := by simp; omega
    all_goals
      (try clear h1)
      (try clear h2)
      go_enter Try.func14, Try.ntmps14
      go_wp2_with fail
      refine (HAL.out _).mono ?_
      rintro e1 W1 ⟨rfl, x1⟩
      have X1 := Lib.hid (show Ext w W1 from Ext.trans (by (repeat' (first | with_reducible exact Ext.refl _ | with_reducible apply Ext.alloc | with_reducible apply Ext.drew | with_reducible apply Ext.drewN | with_reducible refine Ext.setCell ?_ ?_ _ | with_reducible apply Ext.step | with_reducible assumption | with_reducible exact Nat.le_refl _ | (simp; done) | (simp; omega)))) x1)
      clear x1
      go_wp2_with fail
      go_ret
      exact ⟨rfl, X1.out⟩
  have d1 : decide ((20 : Int) < (n : Int)) = false := by simp; omega
  have d2 : decide ((20 : Int) < (n' : Int)) = false := by simp; omega
  by_cases he : distE xs ys = 0
  case neg =>
    have hed : (distE xs ys != (0 : Int)) = true := by simpa using he
    generalize distE xs ys = e at *
    generalize distP xs ys = D at *
    generalize apE xs ys least = e3 at *
    generalize apB xs ys least = b3 at *
    obtain ⟨dn, dd⟩ := D
    clear he hbad
    go_enter Try.func14, Try.ntmps14
    go_wp2_with fail
    refine (HAL.out _).mono ?_
    rintro e1 W1 ⟨rfl, x1⟩
    have X1 := Lib.hid (show Ext w W1 from Ext.trans (by (repeat' (first | with_reducible exact Ext.refl _ | with_reducible apply Ext.alloc | with_reducible apply Ext.drew | with_reducible apply Ext.drewN | with_reducible refine Ext.setCell ?_ ?_ _ | with_reducible apply Ext.step | with_reducible assumption | with_reducible exact Nat.le_refl _ | (simp; done) | (simp; omega)))) x1)
    clear x1
    go_wp2_with fail
    refine (HD.out _ X1.out).mono ?_
    rintro e2 W2 ⟨rfl, x2⟩
    have X2 := Lib.hid (X1.out.trans x2)
    clear x2
    go_wp2_with fail
    refine (HP.out _ (X2.out.alloc _)).mono ?_
    rintro e3 W3 ⟨rfl, x3⟩
    have X3 := Lib.hid ((X2.out.alloc _).trans x3)
    clear x3
    go_wp2_with fail
    go_ret
    exact ⟨rfl, X3.out⟩
  have HONE := Lib.hid fun (s : Int × Int) (hs : s ∈ xs) => dist_one he hs
  have HONQ := Lib.hid fun (s : Int × Int) (hs : s ∈ xs) => distP_sq (dist_one he hs).1
  have HSQ := Lib.hid (distP_sq he)
  have HSH := Lib.hid fun (hl : xs.length ≤ 11) (k : Nat) (hk : k < ys.length) => dist_share he hl hk
  have HAP := Lib.hid fun (h : 0 ≤ least ∧ least ≤ 30000) => apart_dist (n := least) he h
  have HAQ := Lib.hid fun (h : ¬ (0 ≤ least ∧ least ≤ 30000)) => apart_bad (xs := xs) (ys := ys) (n := least) h
  obtain ⟨hlx, hly⟩ := distE_iff.1 he
  have HLX := Lib.hid (lineB_iff.1 hlx)
  have HLY := Lib.hid (lineB_iff.1 hly)
  have hpos := dist_pos he
  rw [he] at HD
  obtain ⟨D, hD⟩ : ∃ D, D = distP xs ys := ⟨_, rfl⟩
  rw [← hD] at HD HONE HSQ HAP hpos
  obtain ⟨dn, dd⟩ := D
  simp only at hpos HD HONE HAP
  have dl1 : decide (dd < 1) = false := decide_eq_false (by omega)
  have dd0 : ¬ dd = 0 := by omega
  have htd : dn.tdiv dd = dn / dd := Int.tdiv_eq_ediv_of_nonneg hpos.2
  have hqb : 0 ≤ dn / dd ∧ dn / dd ≤ dn := ⟨Int.ediv_nonneg hpos.2 (by omega), Int.ediv_le_self dd hpos.2⟩
  have hn1b := HSQ.out.n1
  simp only at hn1b
  have hwq : IntKind.i64.wrap (dn.tdiv dd) = dn / dd := by rw [htd]; apply IntWalk.i64_in <;> omega
  -- what Apart answers
  obtain ⟨ap, ep, hap, hcase⟩ : ∃ (b : Bool) (e : Int), (apB xs ys least = b ∧ apE xs ys least = e) ∧ ((e = 0 ∧ b = decide (IntKind.i64.wrap (least * least) ≤ dn / dd)) ∨ (e == (0 : Int)) = false) := by
    refine ⟨_, _, ⟨rfl, rfl⟩, ?_⟩
    by_cases hl : 0 ≤ least ∧ least ≤ 30000
    · refine .inl ⟨(HAP.out hl).1, ?_⟩
      have h1 : 0 ≤ least * least := Int.mul_nonneg hl.1 hl.1
      have h2 : least * least ≤ 30000 * 30000 := Int.mul_le_mul hl.2 hl.2 hl.1 (by decide)
      have h3 : IntKind.i64.wrap (least * least) = least * least := by apply IntWalk.i64_in <;> omega
      rw [h3]
      exact (HAP.out hl).2
    · exact .inr (by rw [HAQ.out hl]; rfl)
  rw [hap.1, hap.2] at HP
  obtain ⟨ll, hll⟩ : ∃ l, IntKind.i64.wrap (least * least) = l := ⟨_, rfl⟩
  rw [hll] at hcase
  clear HAP HAQ hap hlx hly hD he hpos htd
  go_enter Try.func14, Try.ntmps14
  go_wp2_with fail
  refine (HAL.out _).mono ?_
  rintro e1 W1 ⟨rfl, x1⟩
  have X1 := Lib.hid (show Ext w W1 from Ext.trans (by (repeat' (first | with_reducible exact Ext.refl _ | with_reducible apply Ext.alloc | with_reducible apply Ext.drew | with_reducible apply Ext.drewN | with_reducible refine Ext.setCell ?_ ?_ _ | with_reducible apply Ext.step | with_reducible assumption | with_reducible exact Nat.le_refl _ | (simp; done) | (simp; omega)))) x1)
  clear x1
  go_wp2_with fail
  refine (HD.out _ X1.out).mono ?_
  rintro e2 W2 ⟨rfl, x2⟩
  have X2 := Lib.hid (X1.out.trans x2)
  clear x2
  go_wp2_with fail
  refine (HP.out _ (X2.out.alloc _)).mono ?_
  rintro e3 W3 ⟨rfl, x3⟩
  have X3 := Lib.hid ((X2.out.alloc _).trans x3)
  have g0 : W3.cell? ⟨W2.heap.size, 0, none⟩ = some (.int .i64 dn) := x3.cell_some (by go_cell)
  have g1 : W3.cell? ⟨W2.heap.size, 1, none⟩ = some (.int .i64 dd) := x3.cell_some (by go_cell)
  have lg := cell_lt g0
  clear x3
  rcases hcase with ⟨rfl, rfl⟩ | hcase
  all_goals
    go_wp2_with fail
    go_loopw [72] (fun iv wr => ∃ j : Nat, j ≤ n ∧ iv = .int .i64 (j : Int) ∧ Ext W3 wr) (fun iv _ => n - (intOf iv).toNat)
    case atStart => exact ⟨0, by omega, rfl, Ext.refl _⟩
    case round =>
      obtain ⟨j, hj, rfl, hx⟩ := hrel
      have HXR := Lib.hid hx
      by_cases hlt : j < n
      · have hjl : j < xs.length := by rw [HN.out]; exact hlt
        obtain ⟨b, o, rfl, hb, f0, f1⟩ := spotK_at HR.out hjl
        replace f0 := hx.cell_some (X3.out.cell_some f0)
        replace f1 := hx.cell_some (X3.out.cell_some f1)
        replace g0 := hx.cell_some g0
        replace g1 := hx.cell_some g1
        have hmem := List.getElem_mem hjl
        obtain ⟨q1, q2⟩ := HONE.out _ hmem
        have q3 := HONQ.out _ hmem
        have HDS := Lib.hid fun (W : World) (x : Ext w W) (v' : Value) (h : spotK.Is W v' [xs[j]]) => distance_any v' _ [xs[j]] ys W h (HY.out.ext x)
        rw [q1] at HDS
        generalize distP [xs[j]] ys = yq at *
        obtain ⟨ya, yb⟩ := yq
        generalize xs[j] = s at *
        obtain ⟨sx, sy⟩ := s
        simp only at f0 f1 q2 q3
        have HLS := Lib.hid fun W : World => refLess_any ya yb dn dd W q3.n0 q3.n1 q3.d0 (by have := q3.d1; simp only at this; omega) HSQ.out.n0 HSQ.out.n1 HSQ.out.d0 (by have := HSQ.out.d1; simp only at this; omega)
        rw [q2] at HLS
        have lb := cell_lt f0
        have lg2 := cell_lt g0
        have hji : (j : Int) < (n : Int) := by omega
        clear hx q1 q2 q3 hb hmem
        have HO1 := Lib.hid (own_lit1 wr (.cells #[.int .i64 sx, .int .i64 sy] 56) sx sy)
        have XA := Lib.hid (X3.out.trans ((HXR.out.alloc (.cells #[.int .i64 sx, .int .i64 sy] 56)).alloc (.cells #[.int .i64 sx, .int .i64 sy] 56)))
        have XB := Lib.hid (((Ext.refl wr).alloc (.cells #[.int .i64 sx, .int .i64 sy] 56)).alloc (.cells #[.int .i64 sx, .int .i64 sy] 56))
        go_wp2_with fail
        refine (HDS.out _ XA.out _ HO1.out.is).mono ?_
        rintro e4 W4 ⟨rfl, x4⟩
        have X4 := Lib.hid (XB.out.trans x4)
        replace g0 := X4.out.cell_some g0
        replace g1 := X4.out.cell_some g1
        have lg4 := cell_lt g0
        clear x4
        go_wp2_with fail
        refine (HLS.out _).mono ?_
        rintro e5 W5 ⟨rfl, x5⟩
        have X5 := Lib.hid (HXR.out.trans (X4.out.trans (Ext.trans ((Ext.refl W4).alloc (.cells #[.int .i64 ya, .int .i64 yb] 45)) x5)))
        clear x5
        go_wp2_with fail
        go_roundw
        case rel => exact ⟨j + 1, by omega, by go_num, X5.out⟩
        case measure => simp [intOf]; omega
      · obtain rfl : j = n := by omega
        have XR := Lib.hid (X3.out.trans hx)
        replace g0 := hx.cell_some g0
        replace g1 := hx.cell_some g1
        clear hx
        by_cases hbad2 : i < 0 ∨ (n' : Int) ≤ i ∨ 11 < j
        · have hp : i < 0 ∨ (¬ i < 0 ∧ (n' : Int) ≤ i) ∨ (¬ i < 0 ∧ ¬ (n' : Int) ≤ i ∧ 11 < j) := by omega
          clear hbad2
          rcases hp with h1 | ⟨h1, h2⟩ | ⟨h1, h2, h3⟩
          case' inl => have t1 : decide (i < 0) = true := decide_eq_true h1
          case' inr.inl => have t1 : decide (i < 0) = false := decide_eq_false h1
          case' inr.inl => have t2 : decide ((n' : Int) ≤ i) = true := decide_eq_true h2
          case' inr.inr => have t1 : decide (i < 0) = false := decide_eq_false h1
          case' inr.inr => have t2 : decide ((n' : Int) ≤ i) = false := decide_eq_false h2
          case' inr.inr => have t3 : decide ((11 : Int) < (j : Int)) = true := by simp; omega
          all_goals
            (try clear h1)
            (try clear h2)
            (try clear h3)
            go_wp2_with fail
            go_ret
            exact ⟨rfl, XR.out⟩
        obtain ⟨k, rfl⟩ : ∃ k : Nat, i = (k : Int) := ⟨i.toNat, by omega⟩
        have t1 : decide ((k : Int) < 0) = false := decide_eq_false (by omega)
        have t2 : decide ((n' : Int) ≤ (k : Int)) = false := decide_eq_false (by omega)
        have t3 : decide ((11 : Int) < (j : Int)) = false := by simp; omega
        have hkl : k < ys.length := by rw [HN'.out]; omega
        obtain ⟨b, o, rfl, hb, f0, f1⟩ := spotK_at HR'.out hkl
        replace f0 := XR.out.cell_some f0
        replace f1 := XR.out.cell_some f1
        have hsh := HSH.out (by rw [HN.out]; omega) k hkl
        have HD3 := Lib.hid fun (W : World) (x : Ext w W) (v' : Value) (h : spotK.Is W v' (xs ++ [ys[k]])) => distance_any v' _ (xs ++ [ys[k]]) ys W h (HY.out.ext x)
        rw [hsh.1, hsh.2] at HD3
        generalize ys[k] = s at *
        obtain ⟨sx, sy⟩ := s
        simp only at f0 f1
        have lb := cell_lt f0
        have lg3 := cell_lt g0
        have hki : (k : Int) < (n' : Int) := by omega
        have hkn : k < n' := by omega
        have hj11 : j ≤ 11 := by omega
        clear hsh hbad2 hb hbad
        go_wp2_with fail
        refine (wpIn_wide (n := 3)).1 ?_
        refine wpIn_region_tree (B := wr.heap.size) 16 [1, 3, 4, 5, 6, 9] (Nat.le_refl _) (by kernel_rfl) (by decide +kernel) ?_
        repeat (refine wpQ_step (by rfl) (fun _ _ _ => trivial) (fun K hK => ?_); go_simp; refine hK _ ?_; clear hK K)
        refine wpQ_nil ?_
        refine wpAnyT_netO (fun q => if q = 15 then 14 else q) [⟨0, some 106, [], []⟩, ⟨2, some 108, [0], [0]⟩, ⟨7, some 113, [], []⟩, ⟨8, some 114, [2, 7], [2]⟩, ⟨10, some 116, [8], []⟩, ⟨11, some 105, [10], []⟩, ⟨12, some 117, [11], []⟩, ⟨13, some 118, [11], []⟩, ⟨14, some 18, [], []⟩, ⟨15, none, [14, 12], [14]⟩] [] [0, 2, 7, 8, 14, 15]
          (fun i u W => match i with
            | 0 => spotK.Own wr.heap.size W (u 0) []
            | 2 => spotK.Own wr.heap.size W (u 2) xs
            | 7 => spotK.Own wr.heap.size W (u 7) [(sx, sy)]
            | 8 => spotK.Own wr.heap.size W (u 8) (xs ++ [(sx, sy)])
            | 10 => u 10 = .tuple #[V2 0 1, .int .i64 0]
            | 11 => u 11 = .tuple #[V2 0 1, .int .i64 0]
            | 12 => u 12 = V2 0 1
            | 13 => u 13 = .int .i64 0
            | 14 => ∃ b, u 14 = .pointer (some ⟨b, 0, none⟩) ∧ wr.heap.size ≤ b ∧ BoxAt b #[.int .i64 0, .int .i64 0] 45 W
            | 15 => ∃ b, u 14 = .pointer (some ⟨b, 0, none⟩) ∧ wr.heap.size ≤ b ∧ BoxAt b #[.int .i64 0, .int .i64 1] 45 W
            | _ => False) (fun _ => undef) (Nat.le_refl _) (by decide +kernel) (by decide +kernel) ?loc ?ext (.inr ?keep) (fun _ h => by cases h) ?step ?end_
        case loc =>
          intro i hi u u' W e e' h
          simp only [List.map_cons, List.map_nil, List.append_nil, List.mem_cons, List.not_mem_nil, or_false] at hi
          rcases hi with rfl | rfl | rfl | rfl | rfl | rfl | rfl | rfl | rfl | rfl
          case inr.inr.inr.inr.inr.inr.inr.inr.inr => simp only at h ⊢; rw [e' ⟨15, none, [14, 12], [14]⟩ (by simp) rfl 14 (by simp)]; exact h
          all_goals (simp only at h ⊢; rw [e]; exact h)
        case ext =>
          intro i hi u W W' h x
          simp only [List.map_cons, List.map_nil, List.append_nil, List.mem_cons, List.not_mem_nil, or_false] at hi
          rcases hi with rfl | rfl | rfl | rfl | rfl | rfl | rfl | rfl | rfl | rfl
          · exact EK.Own.ext h x
          · exact EK.Own.ext h x
          · exact EK.Own.ext h x
          · exact EK.Own.ext h x
          · exact h
          · exact h
          · exact h
          · exact h
          · obtain ⟨b, h1, h2, h3⟩ := h; exact ⟨b, h1, h2, h3.ext x⟩
          · obtain ⟨b, h1, h2, h3⟩ := h; exact ⟨b, h1, h2, h3.ext x⟩
        case keep =>
          intro i hi hany u W W' row h hg hne
          simp only [List.map_cons, List.map_nil, List.append_nil, List.mem_cons, List.not_mem_nil, or_false] at hi
          rcases hi with rfl | rfl | rfl | rfl | rfl | rfl | rfl | rfl | rfl | rfl
          · exact own_keep h hg (fun b hb => (hne b hb).2 (by simp))
          · exact own_keep h hg (fun b hb => (hne b hb).2 (by simp))
          · exact own_keep h hg (fun b hb => (hne b hb).2 (by simp))
          · exact own_keep h hg (fun b hb => (hne b hb).2 (by simp))
          · exact h
          · exact h
          · exact h
          · exact h
          · obtain ⟨b, h1, h2, h3⟩ := h
            refine ⟨b, h1, h2, box_keep h3 hg fun b' hb' => ?_⟩
            have := (hne b' hb').2 (by simp)
            simpa [h1, blkOf] using this
          · obtain ⟨b, h1, h2, h3⟩ := h
            refine ⟨b, h1, h2, box_keep h3 hg fun b' hb' => ?_⟩
            have := (hne b' hb').2 (by simp)
            simpa [h1, blkOf] using this
        case step =>
          intro r hr u w1 hb hon
          simp only [List.mem_cons, List.not_mem_nil, or_false] at hr
          have x1 := Ext.of hb
          rcases hr with rfl | rfl | rfl | rfl | rfl | rfl | rfl | rfl | rfl | rfl
          · refine ⟨_, by rfl, by rfl, fun _ _ => trivial, ?_⟩
            simp only [putL]
            go_simp
            refine ⟨(Below.refl _ _).alloc hb.size _, ?_⟩
            exact step_ext (EK.Own.lit (K := spotK) (B := wr.heap.size) w1 #[] [] rfl hb.size (Nat.zero_le _)) ((Ext.refl _).alloc _) (own_fresh (EK.Own.lit (K := spotK) (B := w1.heap.size) w1 #[] [] rfl (Nat.le_refl _) (Nat.zero_le _)))
          · have o0 : spotK.Own wr.heap.size w1 (u 0) [] := hon 0 (by simp)
            refine ⟨_, by rfl, by rfl, fun _ _ => trivial, ?_⟩
            simp only [putL]
            have hu := (HX.out.ext (XR.out.trans x1))
            apply EK.appAll_D (K := spotK) (s := .tmp 106) (x := .tmp 107) (v := u 0) (hu1 := hu) (hown := o0)
            case ho => rfl
            case hs => go_simp
            case hx => go_simp
            case hBB => exact Nat.le_refl _
            case hB => exact hb.size
            case hlen => rw [HN.out]; simp only [List.length_nil]; omega
            case h =>
              intro v' w2 h1 h2 h3 h4
              exact step_app 0 (by simp) (by simp) o0 h1 h2 h4 h1
          · refine ⟨_, by rfl, by rfl, fun _ _ => trivial, ?_⟩
            simp only [putL]
            go_simp
            refine ⟨(Below.refl _ _).alloc hb.size _, ?_⟩
            exact step_ext (EK.Own.lit (K := spotK) (B := wr.heap.size) w1 #[.int .i64 sx, .int .i64 sy] [(sx, sy)] rfl hb.size (by simp [maxLen])) ((Ext.refl _).alloc _) (own_fresh (EK.Own.lit (K := spotK) (B := w1.heap.size) w1 #[.int .i64 sx, .int .i64 sy] [(sx, sy)] rfl (Nat.le_refl _) (by simp [maxLen])))
          · have o2 : spotK.Own wr.heap.size w1 (u 2) xs := hon 2 (by simp)
            have o7 : spotK.Own wr.heap.size w1 (u 7) [(sx, sy)] := hon 7 (by simp)
            refine ⟨_, by rfl, by rfl, fun _ _ => trivial, ?_⟩
            simp only [putL]
            have hu := o7.is
            apply EK.appAll_D (K := spotK) (s := .tmp 108) (x := .tmp 113) (v := u 2) (hu1 := hu) (hown := o2)
            case ho => rfl
            case hs => go_simp
            case hx => go_simp
            case hBB => exact Nat.le_refl _
            case hB => exact hb.size
            case hlen => rw [HN.out]; simp only [List.length_cons, List.length_nil]; omega
            case h =>
              intro v' w2 h1 h2 h3 h4
              exact step_app 2 (by simp) (by simp) o2 h1 h2 h4 h1
          · have o8 : spotK.Own wr.heap.size w1 (u 8) (xs ++ [(sx, sy)]) := hon 8 (by simp)
            have hd := HD3.out w1 (XR.out.trans x1) _ o8.is
            refine ⟨_, by rfl, by rfl, fun _ _ => trivial, ?_⟩
            simp only [putL]
            go_simp
            refine (callsIn_wide.2 hd).mono ?_
            rintro e w3 ⟨rfl, x3⟩
            exact ⟨_, rfl, x3.belB hb.size, step_none (updV_same _ _ _) x3 (by simp)⟩
          · have f10 : u 10 = .tuple #[V2 0 1, .int .i64 0] := hon 10 (by simp)
            refine ⟨_, by rfl, by rfl, fun _ _ => trivial, ?_⟩
            simp only [putL]
            go_simp
            exact ⟨Below.refl _ _, step_none (updV_same _ _ _) (Ext.refl _) (by simp)⟩
          · have f11 : u 11 = .tuple #[V2 0 1, .int .i64 0] := hon 11 (by simp)
            refine ⟨_, by rfl, by rfl, fun _ _ => trivial, ?_⟩
            simp only [putL, f11]
            go_simp
            exact ⟨Below.refl _ _, step_none (updV_same _ _ _) (Ext.refl _) (by simp)⟩
          · have f11 : u 11 = .tuple #[V2 0 1, .int .i64 0] := hon 11 (by simp)
            refine ⟨_, by rfl, by rfl, fun _ _ => trivial, ?_⟩
            simp only [putL, f11]
            go_simp
            exact ⟨Below.refl _ _, step_none (updV_same _ _ _) (Ext.refl _) (by simp)⟩
          · refine ⟨_, by rfl, by rfl, fun _ _ => trivial, ?_⟩
            simp only [putL]
            go_simp
            refine ⟨(Below.refl _ _).alloc hb.size _, step_ext ⟨w1.heap.size, updV_same _ _ _, hb.size, BoxAt.new w1 _ _⟩ ((Ext.refl _).alloc _) ?_⟩
            intro b hbk
            simp only [blkOf, Option.some.injEq] at hbk
            subst hbk
            exact ⟨by simp, Nat.le_refl _⟩
          · have h14 := hon 14 (by simp)
            simp only at h14
            obtain ⟨b9, f14, hbb, hbx⟩ := h14
            have f12 : u 12 = V2 0 1 := hon 12 (by simp)
            refine ⟨_, by rfl, by rfl, fun _ _ => trivial, ?_⟩
            simp only [putL, f14, f12]
            apply store_D (t := 45) (d := .tmp 18) (x := .tmp 117) (g := b9) (v := V2 0 1) (cs := #[.int .i64 0, .int .i64 1])
            case ho => rfl
            case hd => go_simp
            case hx => go_simp
            case hg => exact hbx
            case hB => exact hbb
            case hc => simp [Value.cells]
            case hi => kernel_rfl
            case hz => rfl
            case h1 => simp [Value.oneCell']
            case h =>
              intro v' w2 h1 h2 h3
              refine ⟨⟨b9, f14, hbb, h1⟩, fun _ b hb => ?_, .inr ⟨14, by simp, by simp, by show w1.grownBy w2 (blkOf (u 14)); rw [f14]; exact h2⟩⟩
              have hb' : blkOf (u 14) = some b := hb
              refine ⟨?_, .inr ⟨14, by simp, by simp, hb'⟩⟩
              rw [f14] at hb'
              simp only [blkOf, Option.some.injEq] at hb'
              rw [← hb']
              exact h1.lt
        case end_ =>
          intro u w8 hb hf
          refine ⟨by decide +kernel, fun w9 x9 => ?_⟩
          have f13 : u 13 = .int .i64 0 := hf 13 (by simp) (by decide)
          have h15 := hf 15 (by simp) (by decide)
          simp only at h15
          obtain ⟨b9, f14, hbb, hbx⟩ := h15
          have hbx9 := hbx.ext x9
          have Y9 := Lib.hid ((Ext.of hb).trans x9)
          obtain ⟨y0, y1⟩ := BoxAt.two hbx9
          have XF := Lib.hid (XR.out.trans Y9.out)
          have ly := cell_lt y0
          simp only [putL, f13, f14]
          clear x9 HD3 hf hb hbx hbx9 hbb f13 f14 f0 f1 g0 g1 lb lg3
          simp only [List.drop_succ_cons, List.drop_zero]
          gi_wp2
          go_wp2_with fail
          go_ret
          exact ⟨rfl, XF.out⟩
end Go.Proofs.Ytgeapenglcohfaa
