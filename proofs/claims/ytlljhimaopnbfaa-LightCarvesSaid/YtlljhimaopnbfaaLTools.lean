/- light.CheckLight, Compare, Bright: what each call computes. No condition. -/
import Derived.Test.YtlljhimaopnbfaaLBright
namespace Go.Proofs.Ytlljhimaopnbfaa
open Go.RowKit

abbrev tiltV (tx ty : Int) : Value := .agg #[.int .i64 tx, .int .i64 ty]
abbrev lightV (lx ly lz : Int) : Value := .agg #[.int .i64 lx, .int .i64 ly, .int .i64 lz]
abbrev shadeV (n d : Int) : Value := .agg #[.int .i64 n, .int .i64 d]
def lightB (lx ly lz : Int) : Bool := (inB (-30) 30 lx && inB (-30) 30 ly) && inB 1 30 lz
def lightE (lx ly lz : Int) : Int := if lightB lx ly lz then 0 else 61
def tiltB (tx ty : Int) : Bool := inB (-400) 400 tx && inB (-400) 400 ty
def brightE (tx ty p lx ly lz : Int) : Int := if tiltB tx ty && inB 1 100 p then (if lightB lx ly lz then 0 else 61) else 2
def brightN (tx ty p lx ly lz : Int) : Int := if tiltB tx ty && inB 1 100 p && lightB lx ly lz then shadeN tx ty p lx ly lz else 0
def brightD (tx ty p lx ly lz : Int) : Int := if tiltB tx ty && inB 1 100 p && lightB lx ly lz then shadeD tx ty p lx ly lz else 0
abbrev brightV (tx ty p lx ly lz : Int) : Value := .tuple #[shadeV (brightN tx ty p lx ly lz) (brightD tx ty p lx ly lz), .int .i64 (brightE tx ty p lx ly lz)]
def shapedB (n d : Int) : Bool := inB 1 1000000000 d && inB 0 d n
def compareOf (an ad bn bd : Int) : Int := if shapedB an ad && shapedB bn bd then (if an * bd < bn * ad then -1 else if bn * ad < an * bd then 1 else 0) else 0

theorem lightB_iff {lx ly lz : Int} : lightB lx ly lz = true ↔ (-30 ≤ lx ∧ lx ≤ 30) ∧ (-30 ≤ ly ∧ ly ≤ 30) ∧ 1 ≤ lz ∧ lz ≤ 30 := by
  simp [lightB, inB, and_assoc]
theorem tiltB_iff {tx ty : Int} : tiltB tx ty = true ↔ (-400 ≤ tx ∧ tx ≤ 400) ∧ (-400 ≤ ty ∧ ty ≤ 400) := by
  simp [tiltB, inB]
theorem shapedB_iff {n d : Int} : shapedB n d = true ↔ (1 ≤ d ∧ d ≤ 1000000000) ∧ 0 ≤ n ∧ n ≤ d := by
  simp [shapedB, inB]

set_option maxHeartbeats 1000000 in
theorem checkLight_any (lx ly lz : Int) (w : World) :
    Calls Try.prog 31 #[lightV lx ly lz] w fun e w' => e = .returned (.int .i64 (lightE lx ly lz)) ∧ Ext w w' := by
  cases h1 : (inB (-30) 30 lx && inB (-30) 30 ly)
  · have HT := Lib.hid (show lightE lx ly lz = 61 by simp [lightE, lightB, h1])
    go_enter Try.func31, Try.ntmps31
    go_wp2_with fail
    refine (lfrom_two _ lx ly _ _ _ _ (by go_cell) (by go_cell)).mono ?_
    rintro e _ ⟨rfl, hx⟩
    obtain ⟨δ, rfl⟩ : Ext (w.alloc (.cells #[.int .i64 lx, .int .i64 ly, .int .i64 lz] 25)) _ := Ext.trans (by (repeat' (first | with_reducible exact Ext.refl _ | with_reducible apply Ext.alloc | with_reducible apply Ext.drew | with_reducible apply Ext.drewN | with_reducible refine Ext.setCell ?_ ?_ _ | with_reducible apply Ext.step | with_reducible assumption | with_reducible exact Nat.le_refl _ | (simp; done) | (simp; omega)))) hx
    clear hx
    try (have hs0 := δ.lt (w.heap.size) (by first | (simp; done) | (simp; omega)))
    go_wp2_with fail
    go_ret
    exact ⟨by rw [HT.out]; rfl, by (repeat' (first | with_reducible exact Ext.refl _ | with_reducible apply Ext.alloc | with_reducible apply Ext.drew | with_reducible apply Ext.drewN | with_reducible refine Ext.setCell ?_ ?_ _ | with_reducible apply Ext.step | with_reducible assumption | with_reducible exact Nat.le_refl _ | (simp; done) | (simp; omega)))⟩
  cases h2 : inB 1 30 lz
  all_goals
    have HT := Lib.hid (show lightE lx ly lz = _ by rw [lightE, lightB, h1, h2])
    go_enter Try.func31, Try.ntmps31
    go_wp2_with fail
    refine (lfrom_two _ lx ly _ _ _ _ (by go_cell) (by go_cell)).mono ?_
    rintro e _ ⟨rfl, hx⟩
    obtain ⟨δ, rfl⟩ : Ext (w.alloc (.cells #[.int .i64 lx, .int .i64 ly, .int .i64 lz] 25)) _ := Ext.trans (by (repeat' (first | with_reducible exact Ext.refl _ | with_reducible apply Ext.alloc | with_reducible apply Ext.drew | with_reducible apply Ext.drewN | with_reducible refine Ext.setCell ?_ ?_ _ | with_reducible apply Ext.step | with_reducible assumption | with_reducible exact Nat.le_refl _ | (simp; done) | (simp; omega)))) hx
    clear hx
    try (have hs0 := δ.lt (w.heap.size) (by first | (simp; done) | (simp; omega)))
    go_wp2_with fail
    refine (lfrom_one _ lz _ _ _ _ (by go_cell)).mono ?_
    rintro e _ ⟨rfl, hx⟩
    obtain ⟨δ, rfl⟩ : Ext (w.alloc (.cells #[.int .i64 lx, .int .i64 ly, .int .i64 lz] 25)) _ := Ext.trans (by (repeat' (first | with_reducible exact Ext.refl _ | with_reducible apply Ext.alloc | with_reducible apply Ext.drew | with_reducible apply Ext.drewN | with_reducible refine Ext.setCell ?_ ?_ _ | with_reducible apply Ext.step | with_reducible assumption | with_reducible exact Nat.le_refl _ | (simp; done) | (simp; omega)))) hx
    clear hx
    try (have hs0 := δ.lt (w.heap.size) (by first | (simp; done) | (simp; omega)))
    go_wp2_with fail
    go_ret
    exact ⟨by rw [HT.out]; rfl, by (repeat' (first | with_reducible exact Ext.refl _ | with_reducible apply Ext.alloc | with_reducible apply Ext.drew | with_reducible apply Ext.drewN | with_reducible refine Ext.setCell ?_ ?_ _ | with_reducible apply Ext.step | with_reducible assumption | with_reducible exact Nat.le_refl _ | (simp; done) | (simp; omega)))⟩

set_option maxHeartbeats 1000000 in
theorem shaped_any (n d : Int) (w : World) :
    Calls Try.prog 70 #[shadeV n d] w fun e w' => e = .returned (.bool (shapedB n d)) ∧ Ext w w' := by
  cases h1 : inB 1 1000000000 d
  · go_enter Try.func70, Try.ntmps70
    go_wp2_with fail
    refine (lfrom_one _ d _ _ _ _ (by go_cell)).mono ?_
    rintro e _ ⟨rfl, hx⟩
    obtain ⟨δ, rfl⟩ : Ext (w.alloc (.cells #[.int .i64 n, .int .i64 d] 27)) _ := Ext.trans (by (repeat' (first | with_reducible exact Ext.refl _ | with_reducible apply Ext.alloc | with_reducible apply Ext.drew | with_reducible apply Ext.drewN | with_reducible refine Ext.setCell ?_ ?_ _ | with_reducible apply Ext.step | with_reducible assumption | with_reducible exact Nat.le_refl _ | (simp; done) | (simp; omega)))) hx
    clear hx
    try (have hs0 := δ.lt (w.heap.size) (by first | (simp; done) | (simp; omega)))
    go_wp2_with fail
    go_ret
    exact ⟨ret_b (by simp [shapedB, h1]), by (repeat' (first | with_reducible exact Ext.refl _ | with_reducible apply Ext.alloc | with_reducible apply Ext.drew | with_reducible apply Ext.drewN | with_reducible refine Ext.setCell ?_ ?_ _ | with_reducible apply Ext.step | with_reducible assumption | with_reducible exact Nat.le_refl _ | (simp; done) | (simp; omega)))⟩
  · go_enter Try.func70, Try.ntmps70
    go_wp2_with fail
    refine (lfrom_one _ d _ _ _ _ (by go_cell)).mono ?_
    rintro e _ ⟨rfl, hx⟩
    obtain ⟨δ, rfl⟩ : Ext (w.alloc (.cells #[.int .i64 n, .int .i64 d] 27)) _ := Ext.trans (by (repeat' (first | with_reducible exact Ext.refl _ | with_reducible apply Ext.alloc | with_reducible apply Ext.drew | with_reducible apply Ext.drewN | with_reducible refine Ext.setCell ?_ ?_ _ | with_reducible apply Ext.step | with_reducible assumption | with_reducible exact Nat.le_refl _ | (simp; done) | (simp; omega)))) hx
    clear hx
    try (have hs0 := δ.lt (w.heap.size) (by first | (simp; done) | (simp; omega)))
    go_wp2_with fail
    refine (lfrom_one _ n _ _ _ _ (by go_cell)).mono ?_
    rintro e _ ⟨rfl, hx⟩
    obtain ⟨δ, rfl⟩ : Ext (w.alloc (.cells #[.int .i64 n, .int .i64 d] 27)) _ := Ext.trans (by (repeat' (first | with_reducible exact Ext.refl _ | with_reducible apply Ext.alloc | with_reducible apply Ext.drew | with_reducible apply Ext.drewN | with_reducible refine Ext.setCell ?_ ?_ _ | with_reducible apply Ext.step | with_reducible assumption | with_reducible exact Nat.le_refl _ | (simp; done) | (simp; omega)))) hx
    clear hx
    try (have hs0 := δ.lt (w.heap.size) (by first | (simp; done) | (simp; omega)))
    go_wp2_with fail
    go_ret
    exact ⟨ret_b (by simp [shapedB, h1]), by (repeat' (first | with_reducible exact Ext.refl _ | with_reducible apply Ext.alloc | with_reducible apply Ext.drew | with_reducible apply Ext.drewN | with_reducible refine Ext.setCell ?_ ?_ _ | with_reducible apply Ext.step | with_reducible assumption | with_reducible exact Nat.le_refl _ | (simp; done) | (simp; omega)))⟩

set_option maxHeartbeats 1000000 in
theorem compare_any (an ad bn bd : Int) (w : World) :
    Calls Try.prog 23 #[shadeV an ad, shadeV bn bd] w fun e w' => e = .returned (.int .i64 (compareOf an ad bn bd)) ∧ Ext w w' := by
  cases h1 : shapedB an ad
  · have HT := Lib.hid (show compareOf an ad bn bd = 0 by simp [compareOf, h1])
    go_enter Try.func23, Try.ntmps23
    go_wp2_with fail
    refine (shaped_any _ _ _).mono ?_
    rintro e _ ⟨rfl, hx⟩
    obtain ⟨δ, rfl⟩ : Ext ((w.alloc (.cells #[.int .i64 an, .int .i64 ad] 27)).alloc (.cells #[.int .i64 bn, .int .i64 bd] 27)) _ := Ext.trans (by (repeat' (first | with_reducible exact Ext.refl _ | with_reducible apply Ext.alloc | with_reducible apply Ext.drew | with_reducible apply Ext.drewN | with_reducible refine Ext.setCell ?_ ?_ _ | with_reducible apply Ext.step | with_reducible assumption | with_reducible exact Nat.le_refl _ | (simp; done) | (simp; omega)))) hx
    clear hx
    try (have hs0 := δ.lt (w.heap.size) (by first | (simp; done) | (simp; omega)))
    try (have hs1 := δ.lt (w.heap.size + 1) (by first | (simp; done) | (simp; omega)))
    go_wp2_with fail
    go_ret
    exact ⟨by rw [HT.out]; rfl, by (repeat' (first | with_reducible exact Ext.refl _ | with_reducible apply Ext.alloc | with_reducible apply Ext.drew | with_reducible apply Ext.drewN | with_reducible refine Ext.setCell ?_ ?_ _ | with_reducible apply Ext.step | with_reducible assumption | with_reducible exact Nat.le_refl _ | (simp; done) | (simp; omega)))⟩
  cases h2 : shapedB bn bd
  · have HT := Lib.hid (show compareOf an ad bn bd = 0 by simp [compareOf, h2])
    go_enter Try.func23, Try.ntmps23
    go_wp2_with fail
    refine (shaped_any _ _ _).mono ?_
    rintro e _ ⟨rfl, hx⟩
    obtain ⟨δ, rfl⟩ : Ext ((w.alloc (.cells #[.int .i64 an, .int .i64 ad] 27)).alloc (.cells #[.int .i64 bn, .int .i64 bd] 27)) _ := Ext.trans (by (repeat' (first | with_reducible exact Ext.refl _ | with_reducible apply Ext.alloc | with_reducible apply Ext.drew | with_reducible apply Ext.drewN | with_reducible refine Ext.setCell ?_ ?_ _ | with_reducible apply Ext.step | with_reducible assumption | with_reducible exact Nat.le_refl _ | (simp; done) | (simp; omega)))) hx
    clear hx
    try (have hs0 := δ.lt (w.heap.size) (by first | (simp; done) | (simp; omega)))
    try (have hs1 := δ.lt (w.heap.size + 1) (by first | (simp; done) | (simp; omega)))
    go_wp2_with fail
    refine (shaped_any _ _ _).mono ?_
    rintro e _ ⟨rfl, hx⟩
    obtain ⟨δ, rfl⟩ : Ext ((w.alloc (.cells #[.int .i64 an, .int .i64 ad] 27)).alloc (.cells #[.int .i64 bn, .int .i64 bd] 27)) _ := Ext.trans (by (repeat' (first | with_reducible exact Ext.refl _ | with_reducible apply Ext.alloc | with_reducible apply Ext.drew | with_reducible apply Ext.drewN | with_reducible refine Ext.setCell ?_ ?_ _ | with_reducible apply Ext.step | with_reducible assumption | with_reducible exact Nat.le_refl _ | (simp; done) | (simp; omega)))) hx
    clear hx
    try (have hs0 := δ.lt (w.heap.size) (by first | (simp; done) | (simp; omega)))
    try (have hs1 := δ.lt (w.heap.size + 1) (by first | (simp; done) | (simp; omega)))
    go_wp2_with fail
    go_ret
    exact ⟨by rw [HT.out]; rfl, by (repeat' (first | with_reducible exact Ext.refl _ | with_reducible apply Ext.alloc | with_reducible apply Ext.drew | with_reducible apply Ext.drewN | with_reducible refine Ext.setCell ?_ ?_ _ | with_reducible apply Ext.step | with_reducible assumption | with_reducible exact Nat.le_refl _ | (simp; done) | (simp; omega)))⟩
  have HT := Lib.hid (show compareOf an ad bn bd = _ by rw [compareOf, h1, h2, Bool.and_true, if_pos rfl])
  obtain ⟨⟨ha1, ha2⟩, ha3, ha4⟩ := shapedB_iff.1 h1
  obtain ⟨⟨hb1, hb2⟩, hb3, hb4⟩ := shapedB_iff.1 h2
  obtain ⟨hm1, hm2⟩ := mul_bd ha3 (Int.le_trans ha4 ha2) (by omega : 0 ≤ bd) hb2
  obtain ⟨hm3, hm4⟩ := mul_bd hb3 (Int.le_trans hb4 hb2) (by omega : 0 ≤ ad) ha2
  go_enter Try.func23, Try.ntmps23
  go_wp2_with fail
  refine (shaped_any _ _ _).mono ?_
  rintro e _ ⟨rfl, hx⟩
  obtain ⟨δ, rfl⟩ : Ext ((w.alloc (.cells #[.int .i64 an, .int .i64 ad] 27)).alloc (.cells #[.int .i64 bn, .int .i64 bd] 27)) _ := Ext.trans (by (repeat' (first | with_reducible exact Ext.refl _ | with_reducible apply Ext.alloc | with_reducible apply Ext.drew | with_reducible apply Ext.drewN | with_reducible refine Ext.setCell ?_ ?_ _ | with_reducible apply Ext.step | with_reducible assumption | with_reducible exact Nat.le_refl _ | (simp; done) | (simp; omega)))) hx
  clear hx
  try (have hs0 := δ.lt (w.heap.size) (by first | (simp; done) | (simp; omega)))
  try (have hs1 := δ.lt (w.heap.size + 1) (by first | (simp; done) | (simp; omega)))
  go_wp2_with fail
  refine (shaped_any _ _ _).mono ?_
  rintro e _ ⟨rfl, hx⟩
  obtain ⟨δ, rfl⟩ : Ext ((w.alloc (.cells #[.int .i64 an, .int .i64 ad] 27)).alloc (.cells #[.int .i64 bn, .int .i64 bd] 27)) _ := Ext.trans (by (repeat' (first | with_reducible exact Ext.refl _ | with_reducible apply Ext.alloc | with_reducible apply Ext.drew | with_reducible apply Ext.drewN | with_reducible refine Ext.setCell ?_ ?_ _ | with_reducible apply Ext.step | with_reducible assumption | with_reducible exact Nat.le_refl _ | (simp; done) | (simp; omega)))) hx
  clear hx
  try (have hs0 := δ.lt (w.heap.size) (by first | (simp; done) | (simp; omega)))
  try (have hs1 := δ.lt (w.heap.size + 1) (by first | (simp; done) | (simp; omega)))
  go_wp2_with fail
  all_goals go_ret
  all_goals refine ⟨ret_i ?_, by (repeat' (first | with_reducible exact Ext.refl _ | with_reducible apply Ext.alloc | with_reducible apply Ext.drew | with_reducible apply Ext.drewN | with_reducible refine Ext.setCell ?_ ?_ _ | with_reducible apply Ext.step | with_reducible assumption | with_reducible exact Nat.le_refl _ | (simp; done) | (simp; omega)))⟩
  all_goals
    rw [HT.out]
    generalize an * bd = x at *
    generalize bn * ad = y at *
    (repeat' split) <;> omega

set_option maxHeartbeats 1000000 in
theorem Bright_any (tx ty p lx ly lz : Int) (w : World) :
    Calls Try.prog 21 #[tiltV tx ty, .int .i64 p, lightV lx ly lz] w fun e w' => e = .returned (brightV tx ty p lx ly lz) ∧ Ext w w' := by
  cases h1 : tiltB tx ty
  · have HE := Lib.hid (show brightE tx ty p lx ly lz = 2 by simp [brightE, h1])
    have HN := Lib.hid (show brightN tx ty p lx ly lz = 0 by simp [brightN, h1])
    have HD := Lib.hid (show brightD tx ty p lx ly lz = 0 by simp [brightD, h1])
    rw [tiltB] at h1
    go_enter Try.func21, Try.ntmps21
    go_wp2_with fail
    refine (lfrom_two _ tx ty _ _ _ _ (by go_cell) (by go_cell)).mono ?_
    rintro e _ ⟨rfl, hx⟩
    obtain ⟨δ, rfl⟩ : Ext (((w.alloc (.cells #[.int .i64 tx, .int .i64 ty] 23)).alloc (.cells #[.int .i64 lx, .int .i64 ly, .int .i64 lz] 25)).alloc (.cells #[.int .i64 0, .int .i64 0] 27)) _ := Ext.trans (by (repeat' (first | with_reducible exact Ext.refl _ | with_reducible apply Ext.alloc | with_reducible apply Ext.drew | with_reducible apply Ext.drewN | with_reducible refine Ext.setCell ?_ ?_ _ | with_reducible apply Ext.step | with_reducible assumption | with_reducible exact Nat.le_refl _ | (simp; done) | (simp; omega)))) hx
    clear hx
    try (have hs0 := δ.lt (w.heap.size) (by first | (simp; done) | (simp; omega)))
    try (have hs1 := δ.lt (w.heap.size + 1) (by first | (simp; done) | (simp; omega)))
    try (have hs2 := δ.lt (w.heap.size + 1 + 1) (by first | (simp; done) | (simp; omega)))
    go_wp2_with fail
    go_returns
    exact ⟨by rw [brightV, HE.out, HN.out, HD.out] <;> rfl, by (repeat' (first | with_reducible exact Ext.refl _ | with_reducible apply Ext.alloc | with_reducible apply Ext.drew | with_reducible apply Ext.drewN | with_reducible refine Ext.setCell ?_ ?_ _ | with_reducible apply Ext.step | with_reducible assumption | with_reducible exact Nat.le_refl _ | (simp; done) | (simp; omega)))⟩
  cases h2 : inB 1 100 p
  · have HE := Lib.hid (show brightE tx ty p lx ly lz = 2 by simp [brightE, h2])
    have HN := Lib.hid (show brightN tx ty p lx ly lz = 0 by simp [brightN, h2])
    have HD := Lib.hid (show brightD tx ty p lx ly lz = 0 by simp [brightD, h2])
    rw [tiltB] at h1
    go_enter Try.func21, Try.ntmps21
    go_wp2_with fail
    refine (lfrom_two _ tx ty _ _ _ _ (by go_cell) (by go_cell)).mono ?_
    rintro e _ ⟨rfl, hx⟩
    obtain ⟨δ, rfl⟩ : Ext (((w.alloc (.cells #[.int .i64 tx, .int .i64 ty] 23)).alloc (.cells #[.int .i64 lx, .int .i64 ly, .int .i64 lz] 25)).alloc (.cells #[.int .i64 0, .int .i64 0] 27)) _ := Ext.trans (by (repeat' (first | with_reducible exact Ext.refl _ | with_reducible apply Ext.alloc | with_reducible apply Ext.drew | with_reducible apply Ext.drewN | with_reducible refine Ext.setCell ?_ ?_ _ | with_reducible apply Ext.step | with_reducible assumption | with_reducible exact Nat.le_refl _ | (simp; done) | (simp; omega)))) hx
    clear hx
    try (have hs0 := δ.lt (w.heap.size) (by first | (simp; done) | (simp; omega)))
    try (have hs1 := δ.lt (w.heap.size + 1) (by first | (simp; done) | (simp; omega)))
    try (have hs2 := δ.lt (w.heap.size + 1 + 1) (by first | (simp; done) | (simp; omega)))
    go_wp2_with fail
    refine (lfrom_one _ p _ _ _ _ (by go_cell)).mono ?_
    rintro e _ ⟨rfl, hx⟩
    obtain ⟨δ, rfl⟩ : Ext (((w.alloc (.cells #[.int .i64 tx, .int .i64 ty] 23)).alloc (.cells #[.int .i64 lx, .int .i64 ly, .int .i64 lz] 25)).alloc (.cells #[.int .i64 0, .int .i64 0] 27)) _ := Ext.trans (by (repeat' (first | with_reducible exact Ext.refl _ | with_reducible apply Ext.alloc | with_reducible apply Ext.drew | with_reducible apply Ext.drewN | with_reducible refine Ext.setCell ?_ ?_ _ | with_reducible apply Ext.step | with_reducible assumption | with_reducible exact Nat.le_refl _ | (simp; done) | (simp; omega)))) hx
    clear hx
    try (have hs0 := δ.lt (w.heap.size) (by first | (simp; done) | (simp; omega)))
    try (have hs1 := δ.lt (w.heap.size + 1) (by first | (simp; done) | (simp; omega)))
    try (have hs2 := δ.lt (w.heap.size + 1 + 1) (by first | (simp; done) | (simp; omega)))
    go_wp2_with fail
    go_returns
    exact ⟨by rw [brightV, HE.out, HN.out, HD.out] <;> rfl, by (repeat' (first | with_reducible exact Ext.refl _ | with_reducible apply Ext.alloc | with_reducible apply Ext.drew | with_reducible apply Ext.drewN | with_reducible refine Ext.setCell ?_ ?_ _ | with_reducible apply Ext.step | with_reducible assumption | with_reducible exact Nat.le_refl _ | (simp; done) | (simp; omega)))⟩
  cases h3 : lightB lx ly lz
  · have HE := Lib.hid (show brightE tx ty p lx ly lz = 61 by simp [brightE, h1, h2, h3])
    have HN := Lib.hid (show brightN tx ty p lx ly lz = 0 by simp [brightN, h3])
    have HD := Lib.hid (show brightD tx ty p lx ly lz = 0 by simp [brightD, h3])
    have HC := checkLight_any lx ly lz
    rw [lightE, h3, if_neg (by decide)] at HC
    have HL := Lib.hid HC
    clear HC
    rw [tiltB] at h1
    go_enter Try.func21, Try.ntmps21
    go_wp2_with fail
    refine (lfrom_two _ tx ty _ _ _ _ (by go_cell) (by go_cell)).mono ?_
    rintro e _ ⟨rfl, hx⟩
    obtain ⟨δ, rfl⟩ : Ext (((w.alloc (.cells #[.int .i64 tx, .int .i64 ty] 23)).alloc (.cells #[.int .i64 lx, .int .i64 ly, .int .i64 lz] 25)).alloc (.cells #[.int .i64 0, .int .i64 0] 27)) _ := Ext.trans (by (repeat' (first | with_reducible exact Ext.refl _ | with_reducible apply Ext.alloc | with_reducible apply Ext.drew | with_reducible apply Ext.drewN | with_reducible refine Ext.setCell ?_ ?_ _ | with_reducible apply Ext.step | with_reducible assumption | with_reducible exact Nat.le_refl _ | (simp; done) | (simp; omega)))) hx
    clear hx
    try (have hs0 := δ.lt (w.heap.size) (by first | (simp; done) | (simp; omega)))
    try (have hs1 := δ.lt (w.heap.size + 1) (by first | (simp; done) | (simp; omega)))
    try (have hs2 := δ.lt (w.heap.size + 1 + 1) (by first | (simp; done) | (simp; omega)))
    go_wp2_with fail
    refine (lfrom_one _ p _ _ _ _ (by go_cell)).mono ?_
    rintro e _ ⟨rfl, hx⟩
    obtain ⟨δ, rfl⟩ : Ext (((w.alloc (.cells #[.int .i64 tx, .int .i64 ty] 23)).alloc (.cells #[.int .i64 lx, .int .i64 ly, .int .i64 lz] 25)).alloc (.cells #[.int .i64 0, .int .i64 0] 27)) _ := Ext.trans (by (repeat' (first | with_reducible exact Ext.refl _ | with_reducible apply Ext.alloc | with_reducible apply Ext.drew | with_reducible apply Ext.drewN | with_reducible refine Ext.setCell ?_ ?_ _ | with_reducible apply Ext.step | with_reducible assumption | with_reducible exact Nat.le_refl _ | (simp; done) | (simp; omega)))) hx
    clear hx
    try (have hs0 := δ.lt (w.heap.size) (by first | (simp; done) | (simp; omega)))
    try (have hs1 := δ.lt (w.heap.size + 1) (by first | (simp; done) | (simp; omega)))
    try (have hs2 := δ.lt (w.heap.size + 1 + 1) (by first | (simp; done) | (simp; omega)))
    go_wp2_with fail
    refine (HL.out _).mono ?_
    rintro e _ ⟨rfl, hx⟩
    obtain ⟨δ, rfl⟩ : Ext (((w.alloc (.cells #[.int .i64 tx, .int .i64 ty] 23)).alloc (.cells #[.int .i64 lx, .int .i64 ly, .int .i64 lz] 25)).alloc (.cells #[.int .i64 0, .int .i64 0] 27)) _ := Ext.trans (by (repeat' (first | with_reducible exact Ext.refl _ | with_reducible apply Ext.alloc | with_reducible apply Ext.drew | with_reducible apply Ext.drewN | with_reducible refine Ext.setCell ?_ ?_ _ | with_reducible apply Ext.step | with_reducible assumption | with_reducible exact Nat.le_refl _ | (simp; done) | (simp; omega)))) hx
    clear hx
    try (have hs0 := δ.lt (w.heap.size) (by first | (simp; done) | (simp; omega)))
    try (have hs1 := δ.lt (w.heap.size + 1) (by first | (simp; done) | (simp; omega)))
    try (have hs2 := δ.lt (w.heap.size + 1 + 1) (by first | (simp; done) | (simp; omega)))
    go_wp2_with fail
    go_returns
    exact ⟨by rw [brightV, HE.out, HN.out, HD.out] <;> rfl, by (repeat' (first | with_reducible exact Ext.refl _ | with_reducible apply Ext.alloc | with_reducible apply Ext.drew | with_reducible apply Ext.drewN | with_reducible refine Ext.setCell ?_ ?_ _ | with_reducible apply Ext.step | with_reducible assumption | with_reducible exact Nat.le_refl _ | (simp; done) | (simp; omega)))⟩
  have HE := Lib.hid (show brightE tx ty p lx ly lz = 0 by simp [brightE, h1, h2, h3])
  have HN := Lib.hid (show brightN tx ty p lx ly lz = shadeN tx ty p lx ly lz by simp [brightN, h1, h2, h3])
  have HD := Lib.hid (show brightD tx ty p lx ly lz = shadeD tx ty p lx ly lz by simp [brightD, h1, h2, h3])
  have HC := checkLight_any lx ly lz
  rw [lightE, h3, if_pos rfl] at HC
  have HL := Lib.hid HC
  clear HC
  obtain ⟨⟨ht1, ht2⟩, ht3, ht4⟩ := tiltB_iff.1 h1
  obtain ⟨⟨hl1, hl2⟩, ⟨hl3, hl4⟩, hl5, hl6⟩ := lightB_iff.1 h3
  obtain ⟨hp1, hp2⟩ := inB_iff.1 h2
  have HB := Lib.hid fun W => bright_any tx ty p lx ly lz W ht1 ht2 ht3 ht4 hp1 hp2 hl1 hl2 hl3 hl4 hl5 hl6
  rw [tiltB] at h1
  go_enter Try.func21, Try.ntmps21
  go_wp2_with fail
  refine (lfrom_two _ tx ty _ _ _ _ (by go_cell) (by go_cell)).mono ?_
  rintro e _ ⟨rfl, hx⟩
  obtain ⟨δ, rfl⟩ : Ext (((w.alloc (.cells #[.int .i64 tx, .int .i64 ty] 23)).alloc (.cells #[.int .i64 lx, .int .i64 ly, .int .i64 lz] 25)).alloc (.cells #[.int .i64 0, .int .i64 0] 27)) _ := Ext.trans (by (repeat' (first | with_reducible exact Ext.refl _ | with_reducible apply Ext.alloc | with_reducible apply Ext.drew | with_reducible apply Ext.drewN | with_reducible refine Ext.setCell ?_ ?_ _ | with_reducible apply Ext.step | with_reducible assumption | with_reducible exact Nat.le_refl _ | (simp; done) | (simp; omega)))) hx
  clear hx
  try (have hs0 := δ.lt (w.heap.size) (by first | (simp; done) | (simp; omega)))
  try (have hs1 := δ.lt (w.heap.size + 1) (by first | (simp; done) | (simp; omega)))
  try (have hs2 := δ.lt (w.heap.size + 1 + 1) (by first | (simp; done) | (simp; omega)))
  go_wp2_with fail
  refine (lfrom_one _ p _ _ _ _ (by go_cell)).mono ?_
  rintro e _ ⟨rfl, hx⟩
  obtain ⟨δ, rfl⟩ : Ext (((w.alloc (.cells #[.int .i64 tx, .int .i64 ty] 23)).alloc (.cells #[.int .i64 lx, .int .i64 ly, .int .i64 lz] 25)).alloc (.cells #[.int .i64 0, .int .i64 0] 27)) _ := Ext.trans (by (repeat' (first | with_reducible exact Ext.refl _ | with_reducible apply Ext.alloc | with_reducible apply Ext.drew | with_reducible apply Ext.drewN | with_reducible refine Ext.setCell ?_ ?_ _ | with_reducible apply Ext.step | with_reducible assumption | with_reducible exact Nat.le_refl _ | (simp; done) | (simp; omega)))) hx
  clear hx
  try (have hs0 := δ.lt (w.heap.size) (by first | (simp; done) | (simp; omega)))
  try (have hs1 := δ.lt (w.heap.size + 1) (by first | (simp; done) | (simp; omega)))
  try (have hs2 := δ.lt (w.heap.size + 1 + 1) (by first | (simp; done) | (simp; omega)))
  go_wp2_with fail
  refine (HL.out _).mono ?_
  rintro e _ ⟨rfl, hx⟩
  obtain ⟨δ, rfl⟩ : Ext (((w.alloc (.cells #[.int .i64 tx, .int .i64 ty] 23)).alloc (.cells #[.int .i64 lx, .int .i64 ly, .int .i64 lz] 25)).alloc (.cells #[.int .i64 0, .int .i64 0] 27)) _ := Ext.trans (by (repeat' (first | with_reducible exact Ext.refl _ | with_reducible apply Ext.alloc | with_reducible apply Ext.drew | with_reducible apply Ext.drewN | with_reducible refine Ext.setCell ?_ ?_ _ | with_reducible apply Ext.step | with_reducible assumption | with_reducible exact Nat.le_refl _ | (simp; done) | (simp; omega)))) hx
  clear hx
  try (have hs0 := δ.lt (w.heap.size) (by first | (simp; done) | (simp; omega)))
  try (have hs1 := δ.lt (w.heap.size + 1) (by first | (simp; done) | (simp; omega)))
  try (have hs2 := δ.lt (w.heap.size + 1 + 1) (by first | (simp; done) | (simp; omega)))
  go_wp2_with fail
  refine (HB.out _).mono ?_
  rintro e _ ⟨rfl, hx⟩
  obtain ⟨δ, rfl⟩ : Ext (((w.alloc (.cells #[.int .i64 tx, .int .i64 ty] 23)).alloc (.cells #[.int .i64 lx, .int .i64 ly, .int .i64 lz] 25)).alloc (.cells #[.int .i64 0, .int .i64 0] 27)) _ := Ext.trans (by (repeat' (first | with_reducible exact Ext.refl _ | with_reducible apply Ext.alloc | with_reducible apply Ext.drew | with_reducible apply Ext.drewN | with_reducible refine Ext.setCell ?_ ?_ _ | with_reducible apply Ext.step | with_reducible assumption | with_reducible exact Nat.le_refl _ | (simp; done) | (simp; omega)))) hx
  clear hx
  try (have hs0 := δ.lt (w.heap.size) (by first | (simp; done) | (simp; omega)))
  try (have hs1 := δ.lt (w.heap.size + 1) (by first | (simp; done) | (simp; omega)))
  try (have hs2 := δ.lt (w.heap.size + 1 + 1) (by first | (simp; done) | (simp; omega)))
  go_wp2_with fail
  go_returns
  exact ⟨by rw [brightV, HE.out, HN.out, HD.out], by (repeat' (first | with_reducible exact Ext.refl _ | with_reducible apply Ext.alloc | with_reducible apply Ext.drew | with_reducible apply Ext.drewN | with_reducible refine Ext.setCell ?_ ?_ _ | with_reducible apply Ext.step | with_reducible assumption | with_reducible exact Nat.le_refl _ | (simp; done) | (simp; omega)))⟩
end Go.Proofs.Ytlljhimaopnbfaa
