/- Fractions are compared by products of 128 bits. Conditions: bounds. -/
import Derived.Test.YtlljhimaopnbfaaLay
import Derived.Test.YtlljhimaopnbfaaProg
import Derived.Shelf.Bits.Mul64
import Derived.Deep.RegionLaw
import Derived.Test.YtlljhimaopnbfaaGeo
namespace Go.Proofs.Ytlljhimaopnbfaa
section
/- Mul64: math/bits.Mul64. Condition: 64 bits. -/
open Go.RowKit Go.Lib

set_option maxHeartbeats 1000000 in
theorem mul64_any (x y : Nat) (hx : x < 18446744073709551616) (hy : y < 18446744073709551616) (w : World) :
    Calls Try.prog 114 #[.int .u64 x, .int .u64 y] w fun e w' => e = .returned (.tuple #[.int .u64 ((x * y / 18446744073709551616 : Nat) : Int), .int .u64 ((x * y % 18446744073709551616 : Nat) : Int)]) ∧ w = w' := by
  obtain ⟨bd, bt, bw, hhi⟩ := Lib.mul64_hi x y hx hy
  have ba := Lib.half_mul_le (a := x / 4294967296) (b := y / 4294967296) (by omega) (by omega)
  have bb := Lib.half_mul_le (a := x / 4294967296) (b := y % 4294967296) (by omega) (by omega)
  have bc := Lib.half_mul_le (a := x % 4294967296) (b := y / 4294967296) (by omega) (by omega)
  have ba' : x / 4294967296 * (y / 4294967296) < 18446744073709551616 := by omega
  have bb' : x / 4294967296 * (y % 4294967296) < 18446744073709551616 := by omega
  have bc' : x % 4294967296 * (y / 4294967296) < 18446744073709551616 := by omega
  have bh1 : x / 4294967296 * (y / 4294967296) + (x / 4294967296 * (y % 4294967296) + x % 4294967296 * (y % 4294967296) / 4294967296) / 4294967296 < 18446744073709551616 := by omega
  have bh : x / 4294967296 * (y / 4294967296) + (x / 4294967296 * (y % 4294967296) + x % 4294967296 * (y % 4294967296) / 4294967296) / 4294967296 + ((x / 4294967296 * (y % 4294967296) + x % 4294967296 * (y % 4294967296) / 4294967296) % 4294967296 + x % 4294967296 * (y / 4294967296)) / 4294967296 < 18446744073709551616 := by omega
  go_enter Try.func114, Try.ntmps114
  go_wp2
  simp only [Mul64.maskN x hx, Mul64.maskN y hy, Mul64.divN, Mul64.mulN, Mul64.addN, Mul64.wrapN _ bd, Mul64.wrapN _ bb', Mul64.wrapN _ bt, Mul64.maskN _ bt, Mul64.wrapN _ bc', Mul64.wrapN _ bw, Mul64.wrapN _ ba', Mul64.wrapN _ bh1, Mul64.wrapN _ bh, Mul64.wrapM (x * y)]
  rw [hhi]
  go_ret2
  exact ⟨rfl, rfl⟩
end
open Go.RowKit Go.Lib

/-- A number that is not below 0 and fits. -/
structure Up (x : Int) : Prop where
  lo : 0 ≤ x
  hi : x ≤ 4611686018427387904
theorem Up.nat {x : Int} (h : Up x) : ∃ n : Nat, x = n ∧ n ≤ 4611686018427387904 := ⟨x.toNat, by have := h.lo; omega, by have := h.lo; have := h.hi; omega⟩

theorem lex_lt (A B : Nat) : (decide (A / 18446744073709551616 < B / 18446744073709551616) || (decide (A / 18446744073709551616 = B / 18446744073709551616) && decide (A % 18446744073709551616 < B % 18446744073709551616))) = decide (A < B) := by
  rw [Bool.eq_iff_iff]
  simp only [Bool.or_eq_true, Bool.and_eq_true, decide_eq_true_eq]
  omega

set_option maxHeartbeats 1000000 in
theorem less_any (a b c d : Int) (w : World) (h1 : Up a) (h2 : Up b) (h3 : Up c) (h4 : Up d) :
    Calls Try.prog 124 #[V2 a b, V2 c d] w fun e w' => e = .returned (.bool (decide (a * d < c * b))) ∧ Ext w w' := by
  obtain ⟨a, rfl, ha⟩ := h1.nat
  obtain ⟨b, rfl, hb⟩ := h2.nat
  obtain ⟨c, rfl, hc⟩ := h3.nat
  obtain ⟨d, rfl, hd⟩ := h4.nat
  have HL := Lib.hid (lex_lt (a * d) (c * b))
  have HG := Lib.hid (show decide ((a : Int) * d < (c : Int) * b) = decide (a * d < c * b) by
    rw [← Int.natCast_mul, ← Int.natCast_mul]
    exact decide_eq_decide.2 Int.ofNat_lt)
  have H1 := Lib.hid fun W : World => mul64_any a d (by omega) (by omega) W
  have H2 := Lib.hid fun W : World => mul64_any c b (by omega) (by omega) W
  have e1 : IntKind.u64.wrap (a : Int) = a := Mul64.wrapN a (by omega)
  have e2 : IntKind.u64.wrap (b : Int) = b := Mul64.wrapN b (by omega)
  have e3 : IntKind.u64.wrap (c : Int) = c := Mul64.wrapN c (by omega)
  have e4 : IntKind.u64.wrap (d : Int) = d := Mul64.wrapN d (by omega)
  generalize a * d / 18446744073709551616 = h at *
  generalize a * d % 18446744073709551616 = l at *
  generalize c * b / 18446744073709551616 = i at *
  generalize c * b % 18446744073709551616 = k at *
  clear h1 h2 h3 h4
  have HR := Lib.hid (show decide ((a : Int) * d < (c : Int) * b) = (decide (h < i) || (decide (h = i) && decide (l < k))) from HG.out.trans HL.out.symm)
  have i1 : decide ((h : Int) < (i : Int)) = decide (h < i) := decide_eq_decide.2 Int.ofNat_lt
  have i2 : ((h : Int) == (i : Int)) = decide (h = i) := by rw [Bool.eq_iff_iff, beq_iff_eq, decide_eq_true_eq]; exact Int.ofNat_inj
  have i3 : decide ((l : Int) < (k : Int)) = decide (l < k) := decide_eq_decide.2 Int.ofNat_lt
  cases q1 : decide (h < i) <;> cases q2 : decide (h = i) <;> cases q3 : decide (l < k)
  all_goals
    rw [q1, q2, q3] at HR
    rw [q1] at i1
    rw [q2] at i2
    rw [q3] at i3
    go_enter Try.func124, Try.ntmps124
    go_wp2_with fail
    refine (H1.out _).mono ?_
    rintro e _ ⟨rfl, rfl⟩
    go_wp2_with fail
    refine (H2.out _).mono ?_
    rintro e _ ⟨rfl, rfl⟩
    go_wp2_with fail
    go_ret
    exact ⟨by rw [HR.out]; rfl, by (repeat' (first | with_reducible exact Ext.refl _ | with_reducible apply Ext.alloc | with_reducible apply Ext.drew | with_reducible apply Ext.drewN | with_reducible refine Ext.setCell ?_ ?_ _ | with_reducible apply Ext.step | with_reducible assumption | with_reducible exact Nat.le_refl _ | (simp; done) | (simp; omega)))⟩
end Go.Proofs.Ytlljhimaopnbfaa
