/- The distance of two paths in plain Lean: what the program keeps, what the reference keeps. No program. -/
import Derived.Test.YtgeapenglcohfaaLay
import Derived.Test.YtgeapenglcohfaaProg
import Derived.Shelf.Bits.Mul64
import Derived.Deep.RegionLaw
import Derived.Test.YtgeapenglcohfaaGApart
import Derived.Test.YtgeapenglcohfaaGSegs
namespace Go.Proofs.Ytgeapenglcohfaa
section
/- Less: Fractions are compared by products of 128 bits. Conditions: bounds. -/
section
/- Mul64: math/bits.Mul64. Condition: 64 bits. -/
open Go.RowKit Go.Lib

set_option maxHeartbeats 1000000 in
theorem mul64_any (x y : Nat) (hx : x < 18446744073709551616) (hy : y < 18446744073709551616) (w : World) :
    Calls Try.prog 107 #[.int .u64 x, .int .u64 y] w fun e w' => e = .returned (.tuple #[.int .u64 ((x * y / 18446744073709551616 : Nat) : Int), .int .u64 ((x * y % 18446744073709551616 : Nat) : Int)]) ∧ w = w' := by
  obtain ⟨bd, bt, bw, hhi⟩ := Lib.mul64_hi x y hx hy
  have ba := Lib.half_mul_le (a := x / 4294967296) (b := y / 4294967296) (by omega) (by omega)
  have bb := Lib.half_mul_le (a := x / 4294967296) (b := y % 4294967296) (by omega) (by omega)
  have bc := Lib.half_mul_le (a := x % 4294967296) (b := y / 4294967296) (by omega) (by omega)
  have ba' : x / 4294967296 * (y / 4294967296) < 18446744073709551616 := by omega
  have bb' : x / 4294967296 * (y % 4294967296) < 18446744073709551616 := by omega
  have bc' : x % 4294967296 * (y / 4294967296) < 18446744073709551616 := by omega
  have bh1 : x / 4294967296 * (y / 4294967296) + (x / 4294967296 * (y % 4294967296) + x % 4294967296 * (y % 4294967296) / 4294967296) / 4294967296 < 18446744073709551616 := by omega
  have bh : x / 4294967296 * (y / 4294967296) + (x / 4294967296 * (y % 4294967296) + x % 4294967296 * (y % 4294967296) / 4294967296) / 4294967296 + ((x / 4294967296 * (y % 4294967296) + x % 4294967296 * (y % 4294967296) / 4294967296) % 4294967296 + x % 4294967296 * (y / 4294967296)) / 4294967296 < 18446744073709551616 := by omega
  go_enter Try.func107, Try.ntmps107
  go_wp2
  simp only [Mul64.maskN x hx, Mul64.maskN y hy, Mul64.divN, Mul64.mulN, Mul64.addN, Mul64.wrapN _ bd, Mul64.wrapN _ bb', Mul64.wrapN _ bt, Mul64.maskN _ bt, Mul64.wrapN _ bc', Mul64.wrapN _ bw, Mul64.wrapN _ ba', Mul64.wrapN _ bh1, Mul64.wrapN _ bh, Mul64.wrapM (x * y)]
  rw [hhi]
  go_ret2
  exact ⟨rfl, rfl⟩
end
open Go.RowKit Go.Lib

/-- A number that is not below 0 and fits. -/
structure Up (x : Int) : Prop where
  lo : 0 ≤ x
  hi : x ≤ 4611686018427387904
theorem Up.nat {x : Int} (h : Up x) : ∃ n : Nat, x = n ∧ n ≤ 4611686018427387904 := ⟨x.toNat, by have := h.lo; omega, by have := h.lo; have := h.hi; omega⟩

theorem lex_lt (A B : Nat) : (decide (A / 18446744073709551616 < B / 18446744073709551616) || (decide (A / 18446744073709551616 = B / 18446744073709551616) && decide (A % 18446744073709551616 < B % 18446744073709551616))) = decide (A < B) := by
  rw [Bool.eq_iff_iff]
  simp only [Bool.or_eq_true, Bool.and_eq_true, decide_eq_true_eq]
  omega

set_option maxHeartbeats 1000000 in
theorem less_any (a b c d : Int) (w : World) (h1 : Up a) (h2 : Up b) (h3 : Up c) (h4 : Up d) :
    Calls Try.prog 96 #[V2 a b, V2 c d] w fun e w' => e = .returned (.bool (decide (a * d < c * b))) ∧ Ext w w' := by
  obtain ⟨a, rfl, ha⟩ := h1.nat
  obtain ⟨b, rfl, hb⟩ := h2.nat
  obtain ⟨c, rfl, hc⟩ := h3.nat
  obtain ⟨d, rfl, hd⟩ := h4.nat
  have HL := Lib.hid (lex_lt (a * d) (c * b))
  have HG := Lib.hid (show decide ((a : Int) * d < (c : Int) * b) = decide (a * d < c * b) by
    rw [← Int.natCast_mul, ← Int.natCast_mul]
    exact decide_eq_decide.2 Int.ofNat_lt)
  have H1 := Lib.hid fun W : World => mul64_any a d (by omega) (by omega) W
  have H2 := Lib.hid fun W : World => mul64_any c b (by omega) (by omega) W
  have e1 : IntKind.u64.wrap (a : Int) = a := Mul64.wrapN a (by omega)
  have e2 : IntKind.u64.wrap (b : Int) = b := Mul64.wrapN b (by omega)
  have e3 : IntKind.u64.wrap (c : Int) = c := Mul64.wrapN c (by omega)
  have e4 : IntKind.u64.wrap (d : Int) = d := Mul64.wrapN d (by omega)
  generalize a * d / 18446744073709551616 = h at *
  generalize a * d % 18446744073709551616 = l at *
  generalize c * b / 18446744073709551616 = i at *
  generalize c * b % 18446744073709551616 = k at *
  clear h1 h2 h3 h4
  have HR := Lib.hid (show decide ((a : Int) * d < (c : Int) * b) = (decide (h < i) || (decide (h = i) && decide (l < k))) from HG.out.trans HL.out.symm)
  have i1 : decide ((h : Int) < (i : Int)) = decide (h < i) := decide_eq_decide.2 Int.ofNat_lt
  have i2 : ((h : Int) == (i : Int)) = decide (h = i) := by rw [Bool.eq_iff_iff, beq_iff_eq, decide_eq_true_eq]; exact Int.ofNat_inj
  have i3 : decide ((l : Int) < (k : Int)) = decide (l < k) := decide_eq_decide.2 Int.ofNat_lt
  cases q1 : decide (h < i) <;> cases q2 : decide (h = i) <;> cases q3 : decide (l < k)
  all_goals
    rw [q1, q2, q3] at HR
    rw [q1] at i1
    rw [q2] at i2
    rw [q3] at i3
    go_enter Try.func96, Try.ntmps96
    go_wp2_with fail
    refine (H1.out _).mono ?_
    rintro e _ ⟨rfl, rfl⟩
    go_wp2_with fail
    refine (H2.out _).mono ?_
    rintro e _ ⟨rfl, rfl⟩
    go_wp2_with fail
    go_ret
    exact ⟨by rw [HR.out]; rfl, by (repeat' (first | with_reducible exact Ext.refl _ | with_reducible apply Ext.alloc | with_reducible apply Ext.drew | with_reducible apply Ext.drewN | with_reducible refine Ext.setCell ?_ ?_ _ | with_reducible apply Ext.step | with_reducible assumption | with_reducible exact Nat.le_refl _ | (simp; done) | (simp; omega)))⟩
end
open Go.RowKit

/-- The lesser one of what was found and a new square. -/
def take1 (s : Int × Int) (n d : Int) : Int × Int := if s.2 = 0 ∨ n * s.2 < s.1 * d then (n, d) else s
def spotP (p a b : Int × Int) : Int × Int := (spotN p.1 p.2 a.1 a.2 b.1 b.2, spotD p.1 p.2 a.1 a.2 b.1 b.2)
def takeP (s t : Int × Int) : Int × Int := take1 s t.1 t.2
def apartP (a b c d : Int × Int) : Bool := apartB a.1 a.2 b.1 b.2 c.1 c.2 d.1 d.2
def four (s a b c d : Int × Int) : Int × Int := takeP (takeP (takeP (takeP s (spotP a c d)) (spotP b c d)) (spotP c a b)) (spotP d a b)
def farIn (a b : Int × Int) (ys : List (Int × Int)) (s : Int × Int) (k : Nat) : Option (Int × Int) := if apartP a b (sgA ys k) (sgB ys k) && apartP (sgA ys k) (sgB ys k) a b then none else some (four s a b (sgA ys k) (sgB ys k))
def farOut (xs ys : List (Int × Int)) (s : Int × Int) (i : Nat) : Option (Int × Int) := (List.range (segN ys.length)).foldlM (farIn (sgA xs i) (sgB xs i) ys) s
def farL (xs ys : List (Int × Int)) : Int × Int := ((List.range (segN xs.length)).foldlM (farOut xs ys) (1, 0)).getD (0, 1)

/-- The reference's. -/
def lowF (n d : Int) : Int × Int := (n / (Int.gcd n d : Int), d / (Int.gcd n d : Int))
def lessF (s t : Int × Int) : Bool := decide (s.1 * t.2 < t.1 * s.2)
def takeR (s t : Int × Int) : Int × Int := if lessF t s then t else s
def spotR (p a b : Int × Int) : Int × Int := lowF (spotP p a b).1 (spotP p a b).2
def fourR (s a b c d : Int × Int) : Int × Int := takeR (takeR (takeR (takeR s (spotR a c d)) (spotR b c d)) (spotR c a b)) (spotR d a b)
def farInR (a b : Int × Int) (ys : List (Int × Int)) (s : Int × Int) (k : Nat) : Option (Int × Int) := if apartP a b (sgA ys k) (sgB ys k) && apartP (sgA ys k) (sgB ys k) a b then none else some (fourR s a b (sgA ys k) (sgB ys k))
def farOutR (xs ys : List (Int × Int)) (s : Int × Int) (i : Nat) : Option (Int × Int) := (List.range (segN ys.length)).foldlM (farInR (sgA xs i) (sgB xs i) ys) s
def farR (xs ys : List (Int × Int)) : Int × Int := ((List.range (segN xs.length)).foldlM (farOutR xs ys) (4611686018427387904, 1)).getD (0, 1)

structure CoP (p : Int × Int) : Prop where
  x : Co p.1
  y : Co p.2
theorem CoP.zero : CoP (0, 0) := ⟨⟨by decide, by decide⟩, by decide, by decide⟩

/-- A square that was found. -/
structure SqB (t : Int × Int) : Prop where
  n0 : 0 ≤ t.1
  n1 : t.1 ≤ 937024000000000000
  d0 : 1 ≤ t.2
  d1 : t.2 ≤ 968000000
/-- What is kept: none yet, or one that was found. -/
def SqK (t : Int × Int) : Prop := t = (1, 0) ∨ SqB t
theorem SqK.up {t : Int × Int} (h : SqK t) : Up t.1 ∧ Up t.2 := by
  rcases h with rfl | h
  · exact ⟨⟨by decide, by decide⟩, by decide, by decide⟩
  · exact ⟨⟨h.n0, by have := h.n1; omega⟩, by have := h.d0; omega, by have := h.d1; omega⟩
theorem SqB.up {t : Int × Int} (h : SqB t) : Up t.1 ∧ Up t.2 := SqK.up (.inr h)

theorem sq_nn (x : Int) : 0 ≤ x * x := by
  rcases Int.le_total 0 x with h | h
  · exact Int.mul_nonneg h h
  · have := Int.mul_nonneg (Int.neg_nonneg.2 h) (Int.neg_nonneg.2 h); rwa [Int.neg_mul_neg] at this
theorem sizeP_bd {a b : Int × Int} (h : CoP a) (k : CoP b) : 0 ≤ sizeP a.1 a.2 b.1 b.2 ∧ sizeP a.1 a.2 b.1 b.2 ≤ 968000000 := by
  have h1 := pr_bd (k.x.sub h.x) (k.x.sub h.x)
  have h2 := pr_bd (k.y.sub h.y) (k.y.sub h.y)
  have h3 := sq_nn (b.1 - a.1)
  have h4 := sq_nn (b.2 - a.2)
  unfold sizeP
  omega
theorem spotP_bd {p a b : Int × Int} (h0 : CoP p) (h : CoP a) (k : CoP b) : SqB (spotP p a b) := by
  have s1 := sizeP_bd h h0
  have s2 := sizeP_bd h k
  have s3 := sizeP_bd k h0
  have c0 := sq_nn (crossP p.1 p.2 a.1 a.2 b.1 b.2)
  obtain ⟨c1, c2⟩ : -968000000 ≤ crossP p.1 p.2 a.1 a.2 b.1 b.2 ∧ crossP p.1 p.2 a.1 a.2 b.1 b.2 ≤ 968000000 := by
    have a1 := pr_bd (k.x.sub h.x) (h0.y.sub h.y)
    have a2 := pr_bd (k.y.sub h.y) (h0.x.sub h.x)
    unfold crossP
    omega
  have c3 : crossP p.1 p.2 a.1 a.2 b.1 b.2 * crossP p.1 p.2 a.1 a.2 b.1 b.2 ≤ 937024000000000000 := by
    generalize crossP p.1 p.2 a.1 a.2 b.1 b.2 = c at *
    have h : (c * c).natAbs ≤ 968000000 * 968000000 := by
      rw [Int.natAbs_mul]
      exact Nat.mul_le_mul (by omega) (by omega)
    omega
  unfold spotP spotN spotD
  constructor <;> simp only <;> (repeat' split) <;> omega

theorem gcd_parts {n d : Int} (hd : 1 ≤ d) : ∃ g : Int, g = (Int.gcd n d : Int) ∧ 1 ≤ g ∧ n = g * (n / g) ∧ d = g * (d / g) ∧ 1 ≤ d / g := by
  refine ⟨_, rfl, ?_, ?_, ?_, ?_⟩
  · have := Int.gcd_pos_of_ne_zero_right n (show d ≠ 0 by omega)
    omega
  · exact (Int.mul_ediv_cancel' (Int.gcd_dvd_left n d)).symm
  · exact (Int.mul_ediv_cancel' (Int.gcd_dvd_right n d)).symm
  · have h1 : (0 : Int) < (Int.gcd n d : Int) := by
      have := Int.gcd_pos_of_ne_zero_right n (show d ≠ 0 by omega)
      omega
    have h2 := Int.mul_ediv_cancel' (Int.gcd_dvd_right n d)
    rcases Int.lt_or_le (d / (Int.gcd n d : Int)) 1 with h | h
    · have := Int.mul_nonpos_of_nonneg_of_nonpos (show (0 : Int) ≤ (Int.gcd n d : Int) by omega) (show d / (Int.gcd n d : Int) ≤ 0 by omega)
      omega
    · exact h

theorem mul_lt_iff {g x y : Int} (hg : 1 ≤ g) : g * x < g * y ↔ x < y := ⟨fun h => Int.lt_of_mul_lt_mul_left h (by omega), fun h => Int.mul_lt_mul_of_pos_left h (by omega)⟩
theorem lessF_low {s t : Int × Int} (hs : 1 ≤ s.2) (ht : 1 ≤ t.2) : lessF (lowF s.1 s.2) (lowF t.1 t.2) = lessF s t := by
  obtain ⟨n, d⟩ := s
  obtain ⟨m, e⟩ := t
  simp only at hs ht
  obtain ⟨g, hg, g1, gn, gd, _⟩ := gcd_parts (n := n) hs
  obtain ⟨k, hk, k1, km, ke, _⟩ := gcd_parts (n := m) ht
  unfold lessF lowF
  simp only
  rw [← hg, ← hk]
  generalize n / g = n' at *
  generalize d / g = d' at *
  generalize m / k = m' at *
  generalize e / k = e' at *
  subst gn gd km ke
  refine decide_eq_decide.2 ?_
  rw [show g * n' * (k * e') = (g * k) * (n' * e') by simp only [Int.mul_left_comm, Int.mul_comm], show k * m' * (g * d') = (g * k) * (m' * d') by simp only [Int.mul_left_comm, Int.mul_comm]]
  refine (mul_lt_iff ?_).symm
  have := Int.mul_le_mul g1 k1 (by decide) (by omega)
  omega
theorem lowF_bd {n d : Int} (hn : 0 ≤ n) (hd : 1 ≤ d) : 0 ≤ (lowF n d).1 ∧ (lowF n d).1 ≤ n ∧ 1 ≤ (lowF n d).2 ∧ (lowF n d).2 ≤ d := by
  obtain ⟨g, hg, g1, gn, gd, g3⟩ := gcd_parts (n := n) hd
  unfold lowF
  simp only
  rw [← hg]
  exact ⟨Int.ediv_nonneg hn (by omega), Int.ediv_le_self g hn, g3, Int.ediv_le_self g (by omega)⟩
theorem lowF_one (n : Int) : lowF n 1 = (n, 1) := by simp [lowF]

/-- What the program keeps, what the reference keeps. -/
def Rl (s t : Int × Int) : Prop := (s = (1, 0) ∧ t = (4611686018427387904, 1)) ∨ (SqB s ∧ t = lowF s.1 s.2)
theorem take_rel {s t u : Int × Int} (h : Rl s t) (hu : SqB u) : Rl (takeP s u) (takeR t (lowF u.1 u.2)) := by
  obtain ⟨b0, b1, b2, b3⟩ := lowF_bd hu.n0 hu.d0
  have hn1 := hu.n1
  rcases h with ⟨rfl, rfl⟩ | ⟨hs, rfl⟩
  · refine .inr ?_
    have h1 : takeP (1, 0) u = u := by simp [takeP, take1]
    have h2 : lessF (lowF u.1 u.2) (4611686018427387904, 1) = true := by
      unfold lessF
      simp only [decide_eq_true_eq]
      have := Int.mul_le_mul_of_nonneg_left (show (1 : Int) ≤ (lowF u.1 u.2).2 from b2) (show (0 : Int) ≤ 4611686018427387904 by decide)
      omega
    rw [h1, takeR, h2]
    exact ⟨hu, rfl⟩
  · refine .inr ?_
    have hd := hs.d0
    have hz : ¬ s.2 = 0 := by omega
    rw [takeR, lessF_low hu.d0 hs.d0]
    unfold takeP take1 lessF
    by_cases hc : u.1 * s.2 < s.1 * u.2
    · rw [if_pos (.inr hc), if_pos (by simpa using hc)]
      exact ⟨hu, rfl⟩
    · rw [if_neg (by simp [hz, hc]), if_neg (by simpa using hc)]
      exact ⟨hs, rfl⟩
theorem take_found {s u : Int × Int} (h : SqK s) (hu : SqB u) : SqB (takeP s u) := by
  unfold takeP take1
  rcases h with rfl | h
  · simpa using hu
  · split
    · exact hu
    · exact h
theorem four_found {s a b c d : Int × Int} (h : SqK s) (ha : CoP a) (hb : CoP b) (hc : CoP c) (hd : CoP d) : SqB (four s a b c d) :=
  take_found (.inr (take_found (.inr (take_found (.inr (take_found h (spotP_bd ha hc hd))) (spotP_bd hb hc hd))) (spotP_bd hc ha hb))) (spotP_bd hd ha hb)
theorem four_rel {s t a b c d : Int × Int} (h : Rl s t) (ha : CoP a) (hb : CoP b) (hc : CoP c) (hd : CoP d) : Rl (four s a b c d) (fourR t a b c d) :=
  take_rel (take_rel (take_rel (take_rel h (spotP_bd ha hc hd)) (spotP_bd hb hc hd)) (spotP_bd hc ha hb)) (spotP_bd hd ha hb)

/-- Some squares, one after the other. -/
def quad (u0 u1 u2 u3 : Int × Int) : Nat → Int × Int
  | 0 => u0
  | 1 => u1
  | 2 => u2
  | _ => u3
def takes (s : Int × Int) (u : Nat → Int × Int) : Nat → Int × Int
  | 0 => s
  | i + 1 => takeP (takes s u i) (u i)
theorem takes_kept {s : Int × Int} {u : Nat → Int × Int} (h : SqK s) (hu : ∀ i, SqB (u i)) : ∀ i, SqK (takes s u i)
  | 0 => h
  | i + 1 => .inr (take_found (takes_kept h hu i) (hu i))
theorem quad_found {u0 u1 u2 u3 : Int × Int} (h0 : SqB u0) (h1 : SqB u1) (h2 : SqB u2) (h3 : SqB u3) : ∀ i, SqB (quad u0 u1 u2 u3 i)
  | 0 => h0
  | 1 => h1
  | 2 => h2
  | _ + 3 => h3
theorem four_takes (s a b c d : Int × Int) : four s a b c d = takes s (quad (spotP a c d) (spotP b c d) (spotP c a b) (spotP d a b)) 4 := rfl

def takesR (s : Int × Int) (u : Nat → Int × Int) : Nat → Int × Int
  | 0 => s
  | i + 1 => takeR (takesR s u i) (u i)
/-- What the reference keeps. -/
structure SqT (t : Int × Int) : Prop where
  n0 : 0 ≤ t.1
  n1 : t.1 ≤ 4611686018427387904
  d0 : 1 ≤ t.2
  d1 : t.2 ≤ 968000000
theorem SqT.start : SqT (4611686018427387904, 1) := ⟨by decide, by decide, by decide, by decide⟩
theorem takeR_kept {s t : Int × Int} (hs : SqT s) (ht : SqT t) : SqT (takeR s t) := by
  unfold takeR
  split
  · exact ht
  · exact hs
theorem takesR_kept {s : Int × Int} {u : Nat → Int × Int} (h : SqT s) (hu : ∀ i, SqT (u i)) : ∀ i, SqT (takesR s u i)
  | 0 => h
  | i + 1 => takeR_kept (takesR_kept h hu i) (hu i)
theorem SqB.low {t : Int × Int} (h : SqB t) : SqT (lowF t.1 t.2) := by
  obtain ⟨h0, h1, h2, h3⟩ := lowF_bd h.n0 h.d0
  have := h.n1
  have := h.d1
  exact ⟨h0, by omega, h2, by omega⟩
theorem quad_kept {u0 u1 u2 u3 : Int × Int} (h0 : SqT u0) (h1 : SqT u1) (h2 : SqT u2) (h3 : SqT u3) : ∀ i, SqT (quad u0 u1 u2 u3 i)
  | 0 => h0
  | 1 => h1
  | 2 => h2
  | _ + 3 => h3

theorem foldM_rel {σ τ α : Type} {R : σ → τ → Prop} {f : σ → α → Option σ} {g : τ → α → Option τ} (h : ∀ s t x, R s t → (f s x = none ∧ g t x = none) ∨ ∃ s' t', f s x = some s' ∧ g t x = some t' ∧ R s' t') :
    ∀ (l : List α) (s : σ) (t : τ), R s t → (l.foldlM f s = none ∧ l.foldlM g t = none) ∨ ∃ s' t', l.foldlM f s = some s' ∧ l.foldlM g t = some t' ∧ R s' t'
  | [], s, t, hr => .inr ⟨s, t, rfl, rfl, hr⟩
  | x :: l, s, t, hr => by
    simp only [List.foldlM_cons]
    rcases h s t x hr with ⟨h1, h2⟩ | ⟨s', t', h1, h2, h3⟩
    · rw [h1, h2]
      exact .inl ⟨rfl, rfl⟩
    · rw [h1, h2]
      exact foldM_rel h l s' t' h3
theorem foldM_inv {σ α : Type} {R : σ → Prop} {f : σ → α → Option σ} (h : ∀ s x s', R s → f s x = some s' → R s') :
    ∀ (l : List α) (s s' : σ), R s → l.foldlM f s = some s' → R s'
  | [], s, s', hr, he => by
    cases he
    exact hr
  | x :: l, s, s', hr, he => by
    simp only [List.foldlM_cons] at he
    cases hf : f s x with
    | none => rw [hf] at he; cases he
    | some s1 =>
      rw [hf] at he
      exact foldM_inv h l s1 s' (h s x s1 hr hf) he
theorem foldM_last {σ : Type} {R : σ → Prop} {f : σ → Nat → Option σ} {n : Nat} (hn : 1 ≤ n) (h : ∀ s x s', f s x = some s' → R s') {s s' : σ} (he : (List.range n).foldlM f s = some s') : R s' := by
  obtain ⟨m, rfl⟩ : ∃ m, n = m + 1 := ⟨n - 1, by omega⟩
  rw [List.range_succ, List.foldlM_append] at he
  cases hf : (List.range m).foldlM f s with
  | none => rw [hf] at he; cases he
  | some s1 =>
    rw [hf] at he
    have he' : [m].foldlM f s1 = some s' := he
    cases hx : f s1 m with
    | none => simp [hx] at he'
    | some s2 =>
      simp [hx] at he'
      subst he'
      exact h _ _ _ hx

theorem segN_pos (k : Nat) : 1 ≤ segN k := by unfold segN; omega
theorem sgA_co {xs : List (Int × Int)} (h : ∀ s ∈ xs, CoP s) (i : Nat) : CoP (sgA xs i) := by
  unfold sgA
  cases hx : xs[i]? with
  | none => exact CoP.zero
  | some v => exact h v (List.mem_of_getElem? hx)
theorem sgB_co {xs : List (Int × Int)} (h : ∀ s ∈ xs, CoP s) (i : Nat) : CoP (sgB xs i) := by
  unfold sgB
  cases hx : xs[min (i + 1) (xs.length - 1)]? with
  | none => exact CoP.zero
  | some v => exact h v (List.mem_of_getElem? hx)
theorem farIn_found {a b : Int × Int} {ys : List (Int × Int)} (ha : CoP a) (hb : CoP b) (hy : ∀ s ∈ ys, CoP s) {s s' : Int × Int} {k : Nat} (h : SqK s) (he : farIn a b ys s k = some s') : SqB s' := by
  unfold farIn at he
  split at he
  · cases he
  · cases he
    exact four_found h ha hb (sgA_co hy k) (sgB_co hy k)
theorem farIns_kept {a b : Int × Int} {ys : List (Int × Int)} (ha : CoP a) (hb : CoP b) (hy : ∀ s ∈ ys, CoP s) {l : List Nat} {s s' : Int × Int} (h : SqK s) (he : l.foldlM (farIn a b ys) s = some s') : SqK s' :=
  foldM_inv (R := SqK) (fun _ _ _ hr hf => .inr (farIn_found ha hb hy hr hf)) l s s' h he
theorem farOuts_kept {xs ys : List (Int × Int)} (hx : ∀ s ∈ xs, CoP s) (hy : ∀ s ∈ ys, CoP s) {l : List Nat} {s s' : Int × Int} (h : SqK s) (he : l.foldlM (farOut xs ys) s = some s') : SqK s' :=
  foldM_inv (R := SqK) (fun _ x _ hr hf => farIns_kept (sgA_co hx x) (sgB_co hx x) hy hr hf) l s s' h he

theorem farIn_rel {a b : Int × Int} {ys : List (Int × Int)} (ha : CoP a) (hb : CoP b) (hy : ∀ s ∈ ys, CoP s) (s t : Int × Int) (k : Nat) (h : Rl s t) :
    (farIn a b ys s k = none ∧ farInR a b ys t k = none) ∨ ∃ s' t', farIn a b ys s k = some s' ∧ farInR a b ys t k = some t' ∧ Rl s' t' := by
  unfold farIn farInR
  split
  · exact .inl ⟨rfl, rfl⟩
  · exact .inr ⟨_, _, rfl, rfl, four_rel h ha hb (sgA_co hy k) (sgB_co hy k)⟩
/-- What is kept at the end is not the start. -/
def NoZ (s : Int × Int) : Prop := s ≠ (1, 0)
theorem four_noz (s a b c d : Int × Int) (ha : CoP a) (hb : CoP b) (hd : CoP d) : NoZ (four s a b c d) := by
  have h := spotP_bd hd ha hb
  unfold four NoZ
  generalize takeP (takeP (takeP s (spotP a c d)) (spotP b c d)) (spotP c a b) = q
  unfold takeP take1
  have hd0 := h.d0
  split
  · rename_i hc
    intro e
    have : (spotP d a b).2 = 0 := (Prod.mk.inj e).2
    omega
  · rename_i hc
    intro e
    rw [e] at hc
    simp at hc
theorem farIn_noz {a b : Int × Int} {ys : List (Int × Int)} (ha : CoP a) (hb : CoP b) (hy : ∀ s ∈ ys, CoP s) (s : Int × Int) (k : Nat) (s' : Int × Int) (he : farIn a b ys s k = some s') : NoZ s' := by
  unfold farIn at he
  split at he
  · cases he
  · cases he
    exact four_noz _ _ _ _ _ ha hb (sgB_co hy k)
theorem farOut_noz {xs ys : List (Int × Int)} (hx : ∀ s ∈ xs, CoP s) (hy : ∀ s ∈ ys, CoP s) (s : Int × Int) (k : Nat) (s' : Int × Int) (he : farOut xs ys s k = some s') : NoZ s' :=
  foldM_last (segN_pos _) (farIn_noz (sgA_co hx k) (sgB_co hx k) hy) he

theorem zero_found : SqB (0, 1) := ⟨by decide, by decide, by decide, by decide⟩
theorem far_eq {xs ys : List (Int × Int)} (hx : ∀ s ∈ xs, CoP s) (hy : ∀ s ∈ ys, CoP s) : SqB (farL xs ys) ∧ farR xs ys = lowF (farL xs ys).1 (farL xs ys).2 := by
  have h := foldM_rel (f := farOut xs ys) (g := farOutR xs ys) (R := Rl) (fun s t k h => foldM_rel (fun s t k h => farIn_rel (sgA_co hx _) (sgB_co hx _) hy s t k h) _ s t h) (List.range (segN xs.length)) (1, 0) (4611686018427387904, 1) (.inl ⟨rfl, rfl⟩)
  unfold farL farR
  rcases h with ⟨h1, h2⟩ | ⟨s, t, h1, h2, h3⟩
  · rw [h1, h2]
    exact ⟨zero_found, by decide⟩
  · rw [h1, h2]
    rcases h3 with ⟨h3, _⟩ | ⟨h3, h4⟩
    · exact absurd h3 (foldM_last (segN_pos _) (farOut_noz hx hy) h1)
    · exact ⟨h3, h4⟩
end Go.Proofs.Ytgeapenglcohfaa
