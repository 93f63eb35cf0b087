/- groove's segments: an iterator. Condition: the slice reads as a list of at least one spot. -/
import Derived.Test.YtgeapenglcohfaaLay
import Derived.Test.YtgeapenglcohfaaProg
import Derived.Test.YtgeapenglcohfaaElem
import Derived.BigGuardPart
import Derived.Test.YtgeapenglcohfaaQS
namespace Go.Proofs.Ytgeapenglcohfaa
section
/- From: groove.from: whether all numbers are from lo to hi. Condition: the slice reads as a list. -/
open Go.RowKit

theorem from1_any (n lo hi : Int) (A B : Addr) (w : World) (hA : w.cell? A = some (.int .i64 lo)) (hB : w.cell? B = some (.int .i64 hi)) :
    Calls Try.prog 94 #[.int .i64 n, .pointer (some A), .pointer (some B)] w fun e w' => e = .returned (.bool (!inB lo hi n)) ∧ w = w' := by
  go_enter Try.func94, Try.ntmps94
  by_cases h1 : n < lo <;> by_cases h2 : hi < n
  all_goals
  go_wp2
  go_ret
  simp [inB]
  omega

set_option maxHeartbeats 400000 in
theorem indexFrom_any (A : Option Addr) (n c : Nat) (zs : List Int) (lo hi : Int) (P1 P2 : Addr) (w : World) (hA : w.cell? P1 = some (.int .i64 lo)) (hB : w.cell? P2 = some (.int .i64 hi)) (hz : RowI w A n zs) :
    Calls Try.prog 106 #[.slice A n c, .func (.func 94) #[] #[.pointer (some P1), .pointer (some P2)]] w (IxPost lo hi zs n w) := by
  have hn := hz.max
  unfold maxLen at hn
  go_enter Try.func106, Try.ntmps106
  go_wp2
  go_loop [8, 5] (fun i _ => ∃ k : Nat, k ≤ n ∧ i = .int .i64 k ∧ Hid (∀ j, j < k → inB lo hi (zs[j]?.getD 0) = true)) (fun i _ => n - (intOf i).toNat)
  case atStart => exact ⟨0, by omega, rfl, fun j hj => absurd hj (by omega)⟩
  case round =>
    obtain ⟨k, hk, rfl, Ha⟩ := hrel
    by_cases hlt : k < n
    · obtain ⟨b, o, rfl, _, hc⟩ := hz.at_ k hlt
      have H0 := Lib.hid (from1_any (zs[k]?.getD 0) lo hi P1 P2 w hA hB)
      cases hin : inB lo hi (zs[k]?.getD 0)
      · go_wp2_with (go_at_call 94; refine H0.out.mono ?_; rintro e w' ⟨rfl, rfl⟩)
        go_ret
        exact ⟨k, rfl, ⟨fun _ => ⟨k, hlt, hin⟩, fun _ => by omega⟩, rfl⟩
      · go_wp2_with (go_at_call 94; refine H0.out.mono ?_; rintro e w' ⟨rfl, rfl⟩)
        go_round
        case rel =>
          refine ⟨k + 1, by omega, by go_num, fun j hj => ?_⟩
          rcases (by omega : j < k ∨ j = k) with h | rfl
          · exact Ha.out j h
          · exact hin
        case measure => simp [intOf]; omega
    · go_wp2
      go_ret
      refine ⟨-1, rfl, ⟨fun h => absurd h (by omega), fun ⟨j, hj, h⟩ => ?_⟩, rfl⟩
      rw [Ha.out j (by omega)] at h
      cases h

theorem containsFrom_any (A : Option Addr) (n c : Nat) (zs : List Int) (lo hi : Int) (P1 P2 : Addr) (w : World) (hA : w.cell? P1 = some (.int .i64 lo)) (hB : w.cell? P2 = some (.int .i64 hi)) (hz : RowI w A n zs) :
    Calls Try.prog 93 #[.slice A n c, .func (.func 94) #[] #[.pointer (some P1), .pointer (some P2)]] w fun e w' => e = .returned (.bool (!allB lo hi zs)) ∧ w = w' := by
  have H := Lib.hid (indexFrom_any A n c zs lo hi P1 P2 w hA hB hz)
  go_enter Try.func93, Try.ntmps93
  go_wp2_with (go_at_call 106; refine H.out.mono ?_; rintro e w' ⟨i, rfl, hi0, rfl⟩)
  go_ret
  rw [← firstOut_all hz.len hi0]
  exact ⟨rfl, rfl⟩

theorem from_any (A : Option Addr) (n c : Nat) (zs : List Int) (lo hi : Int) (w : World) (hz : RowI w A n zs) :
    Calls Try.prog 61 #[.int .i64 lo, .int .i64 hi, .slice A n c] w fun e w' => e = .returned (.bool (allB lo hi zs)) ∧ Ext w w' := by
  have hz2 := hz.below (((Below.refl w.heap.size w).alloc (Nat.le_refl _) (.cells #[.int .i64 lo] 3)).alloc (by simp) (.cells #[.int .i64 hi] 3))
  have H := Lib.hid (fun p q => containsFrom_any A n c zs lo hi ⟨w.heap.size, 0, none⟩ ⟨w.heap.size + 1, 0, none⟩ _ p q hz2)
  go_enter Try.func61, Try.ntmps61
  go_wp2_with (go_at_call 93; refine (H.out (by go_simp) (by go_simp)).mono ?_; rintro e w' ⟨rfl, rfl⟩)
  go_ret
  exact ⟨by simp, ((Ext.refl _).alloc _).alloc _⟩

theorem from_one (b : Nat) (x lo hi : Int) (c : Nat) (w : World) (h : w.cell? ⟨b, 0, none⟩ = some (.int .i64 x)) :
    Calls Try.prog 61 #[.int .i64 lo, .int .i64 hi, .slice (some ⟨b, 0, none⟩) 1 c] w fun e w' => e = .returned (.bool (inB lo hi x)) ∧ Ext w w' := by
  have := from_any _ 1 c [x] lo hi w (rowI_one h)
  simpa [allB] using this
theorem from_two (b : Nat) (x y lo hi : Int) (c : Nat) (w : World) (h : w.cell? ⟨b, 0, none⟩ = some (.int .i64 x)) (h1 : w.cell? ⟨b, 1, none⟩ = some (.int .i64 y)) :
    Calls Try.prog 61 #[.int .i64 lo, .int .i64 hi, .slice (some ⟨b, 0, none⟩) 2 c] w fun e w' => e = .returned (.bool (inB lo hi x && inB lo hi y)) ∧ Ext w w' := by
  have := from_any _ 2 c [x, y] lo hi w (rowI_two h h1)
  simpa [allB] using this
end
section
/- GLine: groove.isLine, and the reference's Line. Condition: the slice reads as a list. -/
open Go.RowKit

def spotK : EK (Int × Int) := ⟨56, 43, 2, fun x => [.int .i64 x.1, .int .i64 x.2], .agg #[.int .i64 0, .int .i64 0], 16, Try.underlying43, by kernel_rfl, rfl, by decide, by decide, fun _ => rfl, by simp [Value.oneCell']⟩
def spotOk (s : Int × Int) : Bool := inB (-10000) 10000 s.1 && inB (-10000) 10000 s.2
def lineB (xs : List (Int × Int)) : Bool := xs.all spotOk && inB 1 12 xs.length
theorem spotK_at {w : World} {A : Option Addr} {xs : List (Int × Int)} (h : spotK.Row w A xs) {j : Nat} (hj : j < xs.length) : ∃ b o, A = some ⟨b, o, none⟩ ∧ b < w.heap.size ∧ w.cell? ⟨b, o + j * 2, none⟩ = some (.int .i64 xs[j].1) ∧ w.cell? ⟨b, o + j * 2 + 1, none⟩ = some (.int .i64 xs[j].2) := by
  obtain ⟨b, o, rfl, hb, hc⟩ := h j hj
  exact ⟨b, o, rfl, hb, hc 0 _ rfl, hc 1 _ rfl⟩
theorem all_upto {α : Type} {p : α → Bool} {xs : List α} {k : Nat} (hk : xs.length = k) (h : ∀ q (hq : q < xs.length), q < k → p xs[q] = true) : xs.all p = true := by
  rw [List.all_eq_true]
  intro x hx
  obtain ⟨q, hq, rfl⟩ := List.getElem_of_mem hx
  exact h q hq (by omega)
theorem not_all_at {α : Type} {p : α → Bool} {xs : List α} {j : Nat} (h : j < xs.length) (hn : p xs[j] = false) : xs.all p = false := by
  rw [List.all_eq_false]
  exact ⟨xs[j], List.getElem_mem h, by rw [hn]; simp⟩

set_option maxRecDepth 100000 in
set_option maxHeartbeats 4000000 in
theorem isLine_any (v : Value) (xs : List (Int × Int)) (w : World) (hI : spotK.Is w v xs) :
    Calls Try.prog 73 #[v] w fun e w' => e = .returned (.bool (lineB xs)) ∧ Ext w w' := by
  obtain ⟨A, k, c, rfl, hk, hk0, hr, hkm⟩ := hI.open_
  have HR := Lib.hid hr
  have HK := Lib.hid hk
  have HL := Lib.hid (show lineB xs = (xs.all spotOk && inB 1 12 k) by rw [lineB, hk])
  clear hI hr hk
  go_enter Try.func73, Try.ntmps73
  go_wp2_with fail
  go_loopw [7, 4] (fun iv _ wr => ∃ j : Nat, j ≤ k ∧ iv = .int .i64 j ∧ Hid (∀ (q : Nat) (hq : q < xs.length), q < j → spotOk xs[q] = true) ∧ Ext w wr) (fun iv _ _ => k - (intOf iv).toNat)
  case atStart => exact ⟨0, by omega, rfl, (fun q hq h => by omega), Ext.refl _⟩
  case round =>
    obtain ⟨j, hj, rfl, Ha, hx⟩ := hrel
    by_cases hlt : j < k
    · have hjl : j < xs.length := by rw [HK.out]; exact hlt
      obtain ⟨b, o, rfl, hb, h0, h1⟩ := spotK_at HR.out hjl
      have g0 := hx.cell_some h0
      have g1 := hx.cell_some h1
      have hbr := hx.lt hb
      have HJ := Lib.hid (show spotOk xs[j] = (inB (-10000) 10000 xs[j].1 && inB (-10000) 10000 xs[j].2) from rfl)
      have HX := Lib.hid hx
      generalize hl1 : xs[j].1 = lx at *
      generalize hl2 : xs[j].2 = ly at *
      have HF := Lib.hid fun (b : Nat) (W0 : World) (c0 : W0.cell? ⟨b, 0, none⟩ = some (.int .i64 lx)) (c1 : W0.cell? ⟨b, 1, none⟩ = some (.int .i64 ly)) => from_two b lx ly (-10000) 10000 2 W0 c0 c1
      clear h0 h1 hx hl1 hl2
      cases hv : (inB (-10000) 10000 lx && inB (-10000) 10000 ly)
      · have HA2 := Lib.hid (show xs.all spotOk = false from not_all_at hjl (HJ.out.trans hv))
        rw [hv] at HF
        clear hv
        go_wp2_with fail
        refine (HF.out _ _ (by go_cell) (by go_cell)).mono ?_
        rintro e W2 ⟨rfl, x2⟩
        have HX2 := Lib.hid (HX.out.trans (Ext.trans (by (repeat' (first | with_reducible exact Ext.refl _ | with_reducible apply Ext.alloc | with_reducible apply Ext.drew | with_reducible apply Ext.drewN | with_reducible refine Ext.setCell ?_ ?_ _ | with_reducible apply Ext.step | with_reducible assumption | with_reducible exact Nat.le_refl _ | (simp; done) | (simp; omega)))) x2))
        clear x2
        go_wp2_with fail
        go_ret
        exact ⟨by rw [HL.out, HA2.out]; rfl, HX2.out⟩
      · have HA2 := Lib.hid (show ∀ (q : Nat) (hq : q < xs.length), q < j + 1 → spotOk xs[q] = true from fun q hq h => by
          rcases (by omega : q < j ∨ q = j) with h | rfl
          · exact Ha.out q hq h
          · exact HJ.out.trans hv)
        rw [hv] at HF
        clear hv
        go_wp2_with fail
        refine (HF.out _ _ (by go_cell) (by go_cell)).mono ?_
        rintro e W2 ⟨rfl, x2⟩
        have HX2 := Lib.hid (HX.out.trans (Ext.trans (by (repeat' (first | with_reducible exact Ext.refl _ | with_reducible apply Ext.alloc | with_reducible apply Ext.drew | with_reducible apply Ext.drewN | with_reducible refine Ext.setCell ?_ ?_ _ | with_reducible apply Ext.step | with_reducible assumption | with_reducible exact Nat.le_refl _ | (simp; done) | (simp; omega)))) x2))
        clear x2
        go_wp2_with fail
        go_roundw
        case rel => exact ⟨j + 1, by omega, by go_num, HA2, HX2.out⟩
        case measure => simp [intOf]; omega
    · obtain rfl : j = k := by omega
      have HA2 := Lib.hid (show xs.all spotOk = true from all_upto HK.out Ha.out)
      have HX := Lib.hid hx
      have HF := Lib.hid fun (b : Nat) (W0 : World) (c0 : W0.cell? ⟨b, 0, none⟩ = some (.int .i64 (j : Int))) => from_one b (j : Int) 1 12 1 W0 c0
      clear hx
      go_wp2_with fail
      refine (HF.out _ _ (by go_cell)).mono ?_
      rintro e W2 ⟨rfl, x2⟩
      have HX2 := Lib.hid (HX.out.trans (Ext.trans (by (repeat' (first | with_reducible exact Ext.refl _ | with_reducible apply Ext.alloc | with_reducible apply Ext.drew | with_reducible apply Ext.drewN | with_reducible refine Ext.setCell ?_ ?_ _ | with_reducible apply Ext.step | with_reducible assumption | with_reducible exact Nat.le_refl _ | (simp; done) | (simp; omega)))) x2))
      clear x2
      go_wp2_with fail
      go_ret
      exact ⟨by rw [HL.out, HA2.out]; rfl, HX2.out⟩
end
section
/- RfQ: Ranges over functions that go on reading where the round was left: the contract of the function keeps what lay in both ways. No condition. -/
section
/- RfSt: Ranges over functions whose body turns the cells of a few boxes, and may return. No condition. -/
open Go.RowKit

def CellsAt (cs : List (Nat × Nat × Value)) (W : World) : Prop := ∀ t ∈ cs, W.cell? ⟨t.1, t.2.1, none⟩ = some t.2.2 ∧ W.frozen? ⟨t.1, t.2.1, none⟩ = false
def KpD (D : List Nat) (B0 : Nat) (W W' : World) : Prop := ∀ b o v, b < B0 → b ∉ D → W.cell? ⟨b, o, none⟩ = some v → W'.cell? ⟨b, o, none⟩ = some v
theorem KpD.trans {D : List Nat} {B0 : Nat} {A B C : World} (h : KpD D B0 A B) (k : KpD D B0 B C) : KpD D B0 A C := fun b o v hb hn hc => k b o v hb hn (h b o v hb hn hc)
theorem KpD.put {D : List Nat} {B0 : Nat} {W : World} {l : Nat} {o o' : Obj} (hl : W.heap[l]? = some o) (ho : o.isCells = false) : KpD D B0 W (W.putObj l o') := fun _ _ _ _ _ h =>
  cell_kept h (grownBy_putObj' W l o') (fun r e => by cases e; exact ⟨o, hl, ho⟩)
theorem But.kpD {D : List Nat} {W W' : World} (h : But D W W') (B0 : Nat) : KpD D B0 W W' := fun _ _ _ _ hn hc => h.cell hc hn
theorem CellsAt.grown {cs : List (Nat × Nat × Value)} {A B : World} {row : Option Nat} (h : CellsAt cs A) (hg : A.grownBy B row) (hr : ∀ r, row = some r → ∃ o : Obj, A.heap[r]? = some o ∧ o.isCells = false) : CellsAt cs B := fun t ht => by
  obtain ⟨h1, h2⟩ := h t ht
  exact ⟨cell_kept h1 hg hr, (frozen_kept h1 hg hr).trans h2⟩
theorem CellsAt.ext {cs : List (Nat × Nat × Value)} {A B : World} (h : CellsAt cs A) (x : Ext A B) : CellsAt cs B := h.grown (x.grow none) (fun r e => by cases e)

/-- All but the boxes D lies as it lay; these cells hold what they hold. -/
structure StAt (D : List Nat) (W0 : World) (cs : List (Nat × Nat × Value)) (W : World) : Prop where
  but : But D W0 W
  cells : CellsAt cs W
theorem StAt.grown {D : List Nat} {W0 A B : World} {cs : List (Nat × Nat × Value)} {row : Option Nat} (h : StAt D W0 cs A) (hg : A.grownBy B row) (hr : ∀ r, row = some r → W0.heap.size ≤ r ∧ ∃ o : Obj, A.heap[r]? = some o ∧ o.isCells = false) : StAt D W0 cs B :=
  ⟨h.but.grown hg (fun r e => .inr (hr r e).1), h.cells.grown hg (fun r e => (hr r e).2)⟩
theorem StAt.ext {D : List Nat} {W0 A B : World} {cs : List (Nat × Nat × Value)} (h : StAt D W0 cs A) (x : Ext A B) : StAt D W0 cs B := ⟨h.but.ext x, h.cells.ext x⟩

/-- How a round is left. -/
def StPost {σ : Type} (D : List Nat) (cells : σ → List (Nat × Nat × Value)) (X : World → Prop) (W : World) (r : Option σ) : Exit → Act → World → Prop
  | .normal, _, W' => ∃ s, r = some s ∧ But D W W' ∧ CellsAt (cells s) W'
  | .ret, _, W' => r = none ∧ But D W W' ∧ X W'
  | _, _, _ => False

theorem But.keepsFrom {D : List Nat} {W W' : World} {B : Nat} (h : But D W W') (hD : ∀ d ∈ D, d < B) : KeepsFrom B W W' :=
  ⟨h.size, fun k o hk ho _ => (h.block k (Array.getElem?_eq_some_iff.1 ho).1 (fun hd => by have := hD k hd; omega)).trans ho⟩

/-- The rounds so far. -/
def StI {σ : Type} {N : Nat} (D : List Nat) (cells : σ → List (Nat × Nat × Value)) (f : σ → Nat → Option σ) (s0 : σ) (w : World) (pre : List (Fin N)) (W : World) : Prop :=
  ∃ s, (pre.map Fin.val).foldlM f s0 = some s ∧ StAt D w (cells s) W
def StX {σ : Type} {N : Nat} (D : List Nat) (f : σ → Nat → Option σ) (s0 : σ) (X : World → Prop) (w : World) (c : Code) (pre : List (Fin N)) (W : World) : Prop :=
  c = .ret ∧ (pre.map Fin.val).foldlM f s0 = none ∧ But D w W ∧ X W

section
variable {σ : Type} {N : Nat} {D : List Nat} {cells : σ → List (Nat × Nat × Value)} {f : σ → Nat → Option σ} {s0 : σ} {X : World → Prop} {w : World}

theorem foldM_snoc (pre : List (Fin N)) (x : Fin N) : ((pre ++ [x]).map Fin.val).foldlM f s0 = ((pre.map Fin.val).foldlM f s0).bind fun s => f s x.val := by
  rw [List.map_append, List.foldlM_append]
  cases (pre.map Fin.val).foldlM f s0 with
  | none => rfl
  | some s =>
    show (List.foldlM f s (List.map Fin.val [x])) = f s x.val
    simp
theorem foldM_stop {c : Nat} (hc : c ≤ N) (h : (List.range c).foldlM f s0 = none) : (List.range N).foldlM f s0 = none := by
  obtain ⟨d, rfl⟩ := Nat.exists_eq_add_of_le hc
  rw [List.range_add, List.foldlM_append, h]
  rfl
theorem StI.own : OwnFrom w.heap.size (StI (N := N) D cells f s0 w) := fun _ _ _ _ hs hg hr => by
  obtain ⟨s, h1, h2⟩ := hs
  exact ⟨s, h1, h2.grown hg hr⟩
theorem StX.own (hX : OwnFrom w.heap.size (fun (_ : Unit) W => X W)) (c : Code) : OwnFrom w.heap.size (StX (N := N) D f s0 X w c) := fun _ _ _ _ hs hg hr => by
  obtain ⟨h1, h2, h3, h4⟩ := hs
  exact ⟨h1, h2, h3.grown hg (fun r e => .inr (hr r e).1), hX () _ _ _ h4 hg hr⟩
theorem StI.step {pre : List (Fin N)} {x : Fin N} {s : σ} {W : World} (hD : ∀ d ∈ D, d < w.heap.size) (h1 : (pre.map Fin.val).foldlM f s0 = some s) (h2 : But D w W) : ∀ (e : Exit) (a : Act) (W' : World), StPost D cells X W (f s x.val) e a W' →
    ownPostG w.heap.size (KpD D w.heap.size) (StI (N := N) D cells f s0 w) (StX D f s0 X w) (pre ++ [x]) W e a W'
  | .normal, _, W', ⟨s', h3, h4, h5⟩ => ⟨h4.keepsFrom hD, h4.kpD _, s', by rw [foldM_snoc, h1]; exact h3, h2.trans h4, h5⟩
  | .ret, _, W', ⟨h3, h4, h5⟩ => ⟨h4.keepsFrom hD, rfl, by rw [foldM_snoc, h1]; exact h3, h2.trans h4, h5⟩
  | .exit _, _, _, h => h.elim
  | .goto _, _, _, h => h.elim
  | .panic _, _, _, h => h.elim
  | .outgrown, _, _, h => h.elim

variable {F : Fence} {nn : Nat} {g : Operand} {ps : Array Tmp} {assign body : Code} {Q : Exit → Act → World → Prop} {a : Act}

def Upto (N : Nat) (ys : List (Fin N)) : Prop := ∃ c, c ≤ N ∧ ys.map Fin.val = List.range c

theorem wpIn_rangeFunc_st (cells : σ → List (Nat × Nat × Value)) (f : σ → Nat → Option σ) (s0 : σ) (X : World → Prop) (D : List Nat) (hro : F.round = none) (h1 : 1 ≤ nn) {gf : Nat} {lb : Array Value} (hg : a.eval g = .func (.func gf) #[] lb) (hFg : F.fn gf) (eg : ∀ args w, (callFunc gf args).run Try.prog w = .ok (.enter gf args) w)
    {encs : Fin N → Array Value} (hseq : SeqStopsK F (nn - 1) Try.prog gf lb encs (KpD D w.heap.size) (fun ys => ys.map Fin.val = List.range N) (Upto N) N w) (hps : ∀ x, (encs x).size = ps.size)
    (hD : ∀ d ∈ D, d < w.heap.size) (h0 : CellsAt (cells s0) w) (hX : OwnFrom w.heap.size (fun (_ : Unit) W => X W)) (Ax : Fin N → Act → World → Prop) (hAx : ∀ x a', OwnFrom w.heap.size (fun (_ : Unit) W => Ax x a' W))
    (hassign : ∀ (l : Nat) (x : Fin N) (W : World) (K : Act → World → Prop), w.heap.size ≤ W.heap.size → (∀ a' W', Ext W W' → Ax x a' W' → K a' W') →
      assign.wpIn (F.inRound l) (nn - 1 - 1) Try.prog (Exit.then K (fun _ _ _ => False)) { tmps := (ps.zip (encs x)).foldl (fun t (p, v) => t.setIfInBounds p v) a.tmps, defers := [] } W)
    (hbody : ∀ (l : Nat) (s : σ) (x : Fin N) (a' : Act) (W : World), w.heap.size ≤ l → (∃ r, W.heap[l]? = some (.loop r)) → StAt D w (cells s) W → Ax x a' W →
      body.wpIn (F.inRound l) (nn - 1 - 1) Try.prog (StPost D cells X W (f s x.val)) a' W)
    (hdone : ∀ (M : Nat) (s : σ) (W : World), w.heap.size ≤ M → (List.range N).foldlM f s0 = some s → StAt D w (cells s) W → W.heap[M]? = some (.deferred (some [])) → Q .normal { a with defers := { target := .collected M, args := #[] } :: a.defers } W)
    (hstop : ∀ (M : Nat) (W : World), w.heap.size ≤ M → (List.range N).foldlM f s0 = none → But D w W → X W → W.heap[M]? = some (.deferred (some [])) → Q .ret { a with defers := { target := .collected M, args := #[] } :: a.defers } W) :
    (Code.rangeFunc g ps assign body).wpIn F nn Try.prog Q a w := by
  refine wpIn_rangeFunc_ownH hro h1 hg hFg eg hseq KpD.trans (fun _ _ _ _ _ h1 h2 _ => KpD.put h1 h2) (Below.refl _ _) hps
    (StI D cells f s0 w) (StX D f s0 X w) StI.own (StX.own hX) ⟨s0, rfl, But.refl _ _, h0⟩ Ax hAx ?_ ?_ ?_ ?_
  · intro l pre x W K hI hK
    obtain ⟨s, h2, h3⟩ := hI
    exact hassign l x W K h3.but.size fun a' W' hx hax => hK a' W' ((KeepsOthers.of_ext hx).from _) (fun _ _ _ _ _ h => hx.cell_some h) ⟨s, h2, h3.ext hx⟩ hax
  · intro l pre x a' W hl hr hI hax _
    obtain ⟨s, h2, h3⟩ := hI
    exact wpIn_mono (hbody l s x a' W hl hr h3 hax) (StI.step hD h2 h3.but)
  · intro M xs W hM hS hI hmark
    obtain ⟨s, h2, h3⟩ := hI
    exact hdone M s W hM (by rw [← hS]; exact h2) h3 hmark
  · intro M c pre W hM hS hI hmark
    obtain ⟨rfl, h2, h3, h4⟩ := hI
    obtain ⟨c, hc, hp⟩ := hS
    exact wpIn_ret (hstop M W hM (foldM_stop hc (by rw [← hp]; exact h2)) h3 h4 hmark)

/-- The same within a round of another one. -/
theorem wpIn_rangeFunc_stN (cells : σ → List (Nat × Nat × Value)) (f : σ → Nat → Option σ) (s0 : σ) (X : World → Prop) (D : List Nat) {l₀ : Nat} {r₀ : Loop} (hro : F.round = some l₀) (hl₀ : w.heap[l₀]? = some (.loop r₀)) (h1 : 1 ≤ nn) {gf : Nat} {lb : Array Value} (hg : a.eval g = .func (.func gf) #[] lb) (hFg : F.fn gf) (eg : ∀ args w, (callFunc gf args).run Try.prog w = .ok (.enter gf args) w)
    {encs : Fin N → Array Value} (hseq : SeqStopsK F (nn - 1) Try.prog gf lb encs (KpD D w.heap.size) (fun ys => ys.map Fin.val = List.range N) (Upto N) N w) (hps : ∀ x, (encs x).size = ps.size)
    (hD : ∀ d ∈ D, d < w.heap.size) (h0 : CellsAt (cells s0) w) (hX : OwnFrom w.heap.size (fun (_ : Unit) W => X W)) (Ax : Fin N → Act → World → Prop) (hAx : ∀ x a', OwnFrom w.heap.size (fun (_ : Unit) W => Ax x a' W))
    (hassign : ∀ (l : Nat) (x : Fin N) (W : World) (K : Act → World → Prop), w.heap.size ≤ W.heap.size → (∀ a' W', Ext W W' → Ax x a' W' → K a' W') →
      assign.wpIn (F.inRound l) (nn - 1 - 1) Try.prog (Exit.then K (fun _ _ _ => False)) { tmps := (ps.zip (encs x)).foldl (fun t (p, v) => t.setIfInBounds p v) a.tmps, defers := [] } W)
    (hbody : ∀ (l : Nat) (s : σ) (x : Fin N) (a' : Act) (W : World), w.heap.size ≤ l → (∃ r, W.heap[l]? = some (.loop r)) → StAt D w (cells s) W → Ax x a' W →
      body.wpIn (F.inRound l) (nn - 1 - 1) Try.prog (StPost D cells X W (f s x.val)) a' W)
    (hdone : ∀ (s : σ) (W : World), (List.range N).foldlM f s0 = some s → StAt D w (cells s) W → Q .normal a W)
    (hstop : ∀ (W : World), (List.range N).foldlM f s0 = none → But D w W → X W → Q .ret a W) :
    (Code.rangeFunc g ps assign body).wpIn F nn Try.prog Q a w := by
  refine wpIn_rangeFunc_ownN hro hl₀ h1 hg hFg eg hseq KpD.trans (fun _ _ _ _ _ h1 h2 _ => KpD.put h1 h2) (Below.refl _ _) hps
    (StI D cells f s0 w) (StX D f s0 X w) StI.own (StX.own hX) ⟨s0, rfl, But.refl _ _, h0⟩ Ax hAx ?_ ?_ ?_ ?_
  · intro l pre x W K hI hK
    obtain ⟨s, h2, h3⟩ := hI
    exact hassign l x W K h3.but.size fun a' W' hx hax => hK a' W' ((KeepsOthers.of_ext hx).from _) (fun _ _ _ _ _ h => hx.cell_some h) ⟨s, h2, h3.ext hx⟩ hax
  · intro l pre x a' W hl hr hI hax _
    obtain ⟨s, h2, h3⟩ := hI
    exact wpIn_mono (hbody l s x a' W hl hr h3 hax) (StI.step hD h2 h3.but)
  · intro xs W hS hI
    obtain ⟨s, h2, h3⟩ := hI
    exact hdone s W (by rw [← hS]; exact h2) h3
  · intro c pre W hS hI
    obtain ⟨rfl, h2, h3, h4⟩ := hI
    obtain ⟨c, hc, hp⟩ := hS
    exact wpIn_ret (hstop W (foldM_stop hc (by rw [← hp]; exact h2)) h3 h4)
end
end
open Go.RowKit

/-- A function that yields the elements 0, 1, .. N - 1, in order; it is told that what it reads lies on, even where the round was left. -/
def SeqSt {N : Nat} (F : Fence) (n : Nat) (P : Program) (gf : Nat) (lb : Array Value) (encs : Fin N → Array Value) (D : List Nat) (w : World) : Prop :=
  ∀ (l : Nat) (J : Nat → World → Prop) (Jx : World → Prop) (W : World), Below w.heap.size w W → (∀ c A B, J c A → Ext A B → J c B) → (∀ A B, Jx A → Ext A B → Jx B) →
    (∀ (x : Fin N) (W1 : World), J x.val W1 → YieldAt F (n - 1) P l (encs x) W1 fun e W' =>
      KpD D w.heap.size W1 W' ∧ ((e = .returned (.bool true) ∧ J (x.val + 1) W') ∨ (e = .returned (.bool false) ∧ Jx W'))) →
    J 0 W → CallsIn F n P gf (#[.func (.yield l) #[] #[]] ++ lb) W fun e W' => (∃ v, e = .returned v) ∧ (J N W' ∨ Jx W')

section
variable {σ : Type} {N : Nat} {D : List Nat} {cells : σ → List (Nat × Nat × Value)} {f : σ → Nat → Option σ} {s0 : σ} {X : World → Prop} {w : World}
variable {F : Fence} {nn : Nat} {g : Operand} {ps : Array Tmp} {assign body : Code} {Q : Exit → Act → World → Prop} {a : Act}

theorem foldM_succ {c : Nat} {s : σ} (h : (List.range c).foldlM f s0 = some s) : (List.range (c + 1)).foldlM f s0 = f s c := by
  rw [List.range_succ, List.foldlM_append, h]
  show List.foldlM f s [c] = f s c
  simp

/-- The rounds, whatever the loop's record is. -/
theorem range_core {gf : Nat} {lb : Array Value} {encs : Fin N → Array Value} {W1 : World} {l fn dd : Nat} {a' : Act} {G : World → Prop} {rec : LoopState → Option Code → Loop}
    (hrec : rec = fun st pe => { state := st, pending := pe, fn := fn, tmps := a.tmps, params := ps, assign := assign, body := body, defers := dd }) (hfn : F.fn fn)
    (hseq : SeqSt F (nn - 1) Try.prog gf lb encs D w) (hps : ∀ x, (encs x).size = ps.size) (hD : ∀ d ∈ D, d < w.heap.size) (hb : Below w.heap.size w W1) (hl : w.heap.size ≤ l) (hl1 : W1.heap[l]? = some (.loop (rec .ready none)))
    (h0 : StAt D w (cells s0) W1) (hG1 : G W1) (hGb : ∀ A B, G A → But D A B → G B) (hGp : ∀ A o', G A → G (A.putObj l o'))
    (hX : OwnFrom w.heap.size (fun (_ : Unit) W => X W)) (Ax : Fin N → Act → World → Prop) (hAx : ∀ x a', OwnFrom w.heap.size (fun (_ : Unit) W => Ax x a' W))
    (hassign : ∀ (x : Fin N) (W : World) (K : Act → World → Prop), w.heap.size ≤ W.heap.size → (∀ a' W', Ext W W' → Ax x a' W' → K a' W') →
      assign.wpIn (F.inRound l) (nn - 1 - 1) Try.prog (Exit.then K (fun _ _ _ => False)) { tmps := (ps.zip (encs x)).foldl (fun t (p, v) => t.setIfInBounds p v) a.tmps, defers := [] } W)
    (hbody : ∀ (s : σ) (x : Fin N) (a' : Act) (W : World), (List.range x.val).foldlM f s0 = some s → (∃ r, W.heap[l]? = some (.loop r)) → StAt D w (cells s) W → Ax x a' W →
      body.wpIn (F.inRound l) (nn - 1 - 1) Try.prog (StPost D cells X W (f s x.val)) a' W)
    (hdone : ∀ (s : σ) (W : World), (List.range N).foldlM f s0 = some s → StAt D w (cells s) W → G W → Q .normal a' W)
    (hstop : ∀ (W : World), (List.range N).foldlM f s0 = none → But D w W → X W → G W → Q .ret a' W) :
    CallsIn F (nn - 1) Try.prog gf (#[.func (.yield l) #[] #[]] ++ lb) W1 (rangePost F nn Try.prog l Q a') := by
  have put : ∀ (A : World) (o o' : Obj) (cs : List (Nat × Nat × Value)), A.heap[l]? = some o → o.isCells = false → StAt D w cs A → StAt D w cs (A.putObj l o') := fun A o o' cs ho hc h =>
    h.grown (grownBy_putObj' A l o') (fun r e => by cases e; exact ⟨hl, o, ho, hc⟩)
  have hlD : l ∉ D := fun h => by have := hD l h; omega
  have rl : ∀ st pe, (Obj.loop (rec st pe)).isCells = false := fun _ _ => rfl
  refine (hseq l (fun c W => ∃ s, (List.range c).foldlM f s0 = some s ∧ StAt D w (cells s) W ∧ G W ∧ W.heap[l]? = some (.loop (rec .ready none)))
    (fun W => (List.range N).foldlM f s0 = none ∧ But D w W ∧ X W ∧ G W ∧ W.heap[l]? = some (.loop (rec .done (some .ret)))) W1 hb ?_ ?_ ?_ ⟨s0, rfl, h0, hG1, hl1⟩).mono ?_
  · rintro c A B ⟨s, h1, h2, h3, h4⟩ x
    exact ⟨s, h1, h2.ext x, hGb _ _ h3 x.but, (x.bel.block l (Array.getElem?_eq_some_iff.1 h4).1).trans h4⟩
  · rintro A B ⟨h1, h2, h3, h4, h5⟩ x
    exact ⟨h1, h2.ext x, hX () _ _ none h3 (x.grow none) (fun r e => by cases e), hGb _ _ h4 x.but, (x.bel.block l (Array.getElem?_eq_some_iff.1 h5).1).trans h5⟩
  · rintro x W ⟨s, h1, h2, h3, h4⟩
    have hy := run_yield (P := Try.prog) (args := encs x) h4 (by rw [hrec]; exact hps x)
    rw [hrec] at hy
    refine ⟨fn, _, assign, body, hy, roundIn_of_wpIn hfn (hassign x W _ h2.but.size ?_)⟩
    clear hy
    intro a1 Wa xa hax
    have h4a := (xa.bel.block l (Array.getElem?_eq_some_iff.1 h4).1).trans h4
    refine ⟨_, run_beginRound h4a (by rw [hrec]), ?_⟩
    have h2b := put Wa _ (.loop { rec .ready none with state := .busy }) _ h4a (rl _ _) (h2.ext xa)
    have h4b : (Wa.putObj l (.loop { rec .ready none with state := .busy })).heap[l]? = some (.loop { rec .ready none with state := .busy }) := World.putObj_heap_same (Array.getElem?_eq_some_iff.1 h4a).1
    have hGb' := hGp _ (.loop { rec .ready none with state := .busy }) (hGb _ _ h3 xa.but)
    refine wpIn_mono (hbody s x a1 _ h1 ⟨_, h4b⟩ h2b ((hAx x a1).putObj (s := ()) _ hax hl h4a (rl _ _))) ?_
    have k1 : KpD D w.heap.size W (Wa.putObj l (.loop { rec .ready none with state := .busy })) := KpD.trans (fun _ _ _ _ _ h => xa.cell_some h) (KpD.put h4a (rl _ _))
    rintro e a3 W3 hp
    cases e with
    | normal =>
      obtain ⟨s', e1, e2, e3⟩ := hp
      have h4c := (e2.block l (Array.getElem?_eq_some_iff.1 h4b).1 hlD).trans h4b
      have hr := run_endRound (P := Try.prog) none h4c
      refine ⟨_, _, hr, k1.trans ((e2.kpD _).trans (KpD.put h4c rfl)), .inl ⟨rfl, s', by rw [foldM_succ h1, e1], ?_, hGp _ _ (hGb _ _ hGb' e2), ?_⟩⟩
      · exact put W3 _ _ _ h4c rfl ⟨h2b.but.trans e2, e3⟩
      · rw [World.putObj_heap_same (Array.getElem?_eq_some_iff.1 h4c).1, hrec]
        rfl
    | ret =>
      obtain ⟨e1, e2, e3⟩ := hp
      have h4c := (e2.block l (Array.getElem?_eq_some_iff.1 h4b).1 hlD).trans h4b
      have hr := run_endRound (P := Try.prog) (some .ret) h4c
      refine ⟨_, _, hr, k1.trans ((e2.kpD _).trans (KpD.put h4c rfl)), .inr ⟨rfl, foldM_stop (c := x.val + 1) x.isLt (by rw [foldM_succ h1, e1]), ?_, hX.putObj (s := ()) _ e3 hl h4c rfl, hGp _ _ (hGb _ _ hGb' e2), ?_⟩⟩
      · exact (h2b.but.trans e2).grown (grownBy_putObj' _ l _) (fun r e => by cases e; exact .inr hl)
      · rw [World.putObj_heap_same (Array.getElem?_eq_some_iff.1 h4c).1, hrec]
        rfl
    | exit id => exact hp.elim
    | goto t => exact hp.elim
    | panic ch => exact hp.elim
    | outgrown => exact hp.elim
  · rintro e W2 ⟨⟨v, rfl⟩, (⟨s, h1, h2, h3, h4⟩ | ⟨h1, h2, h3, h4, h5⟩)⟩
    · exact ⟨none, _, by have := run_endLoop (P := Try.prog) h4 (by rw [hrec]; simp); rw [hrec] at this; exact this, hdone s _ h1 (put W2 _ _ _ h4 (rl _ _) h2) (hGp _ _ h3)⟩
    · exact ⟨some .ret, _, by have := run_endLoop (P := Try.prog) h5 (by rw [hrec]; simp); rw [hrec] at this; exact this,
        wpIn_ret (hstop _ h1 (h2.grown (grownBy_putObj' _ l _) (fun r e => by cases e; exact .inr hl)) (hX.putObj (s := ()) _ h3 hl h5 (rl _ _)) (hGp _ _ h4))⟩

theorem wpIn_range_out (cells : σ → List (Nat × Nat × Value)) (f : σ → Nat → Option σ) (s0 : σ) (X : World → Prop) (D : List Nat) (hro : F.round = none) (h1 : 1 ≤ nn) {gf : Nat} {lb : Array Value} (hg : a.eval g = .func (.func gf) #[] lb) (hFg : F.fn gf) (eg : ∀ args w, (callFunc gf args).run Try.prog w = .ok (.enter gf args) w)
    {encs : Fin N → Array Value} (hseq : SeqSt F (nn - 1) Try.prog gf lb encs D w) (hps : ∀ x, (encs x).size = ps.size)
    (hD : ∀ d ∈ D, d < w.heap.size) (h0 : CellsAt (cells s0) w) (hX : OwnFrom w.heap.size (fun (_ : Unit) W => X W)) (Ax : Fin N → Act → World → Prop) (hAx : ∀ x a', OwnFrom w.heap.size (fun (_ : Unit) W => Ax x a' W))
    (hassign : ∀ (l : Nat) (x : Fin N) (W : World) (K : Act → World → Prop), w.heap.size ≤ W.heap.size → (∀ a' W', Ext W W' → Ax x a' W' → K a' W') →
      assign.wpIn (F.inRound l) (nn - 1 - 1) Try.prog (Exit.then K (fun _ _ _ => False)) { tmps := (ps.zip (encs x)).foldl (fun t (p, v) => t.setIfInBounds p v) a.tmps, defers := [] } W)
    (hbody : ∀ (l : Nat) (s : σ) (x : Fin N) (a' : Act) (W : World), w.heap.size ≤ l → (List.range x.val).foldlM f s0 = some s → (∃ r, W.heap[l]? = some (.loop r)) → StAt D w (cells s) W → Ax x a' W →
      body.wpIn (F.inRound l) (nn - 1 - 1) Try.prog (StPost D cells X W (f s x.val)) a' W)
    (hdone : ∀ (M : Nat) (s : σ) (W : World), w.heap.size ≤ M → (List.range N).foldlM f s0 = some s → StAt D w (cells s) W → W.heap[M]? = some (.deferred (some [])) → Q .normal { a with defers := { target := .collected M, args := #[] } :: a.defers } W)
    (hstop : ∀ (M : Nat) (W : World), w.heap.size ≤ M → (List.range N).foldlM f s0 = none → But D w W → X W → W.heap[M]? = some (.deferred (some [])) → Q .ret { a with defers := { target := .collected M, args := #[] } :: a.defers } W) :
    (Code.rangeFunc g ps assign body).wpIn F nn Try.prog Q a w := by
  refine wpIn_rangeFunc ?_
  intro fn hfn
  rw [hro]
  obtain ⟨rec, hrec⟩ : ∃ rec : LoopState → Option Code → Loop, rec = fun st pe => { state := st, pending := pe, fn := fn, tmps := a.tmps, params := ps, assign := assign, body := body, defers := w.heap.size } := ⟨_, rfl⟩
  obtain ⟨W1, hW1⟩ : ∃ W1, (w.alloc (.deferred (some []))).alloc (.loop (rec .ready none)) = W1 := ⟨_, rfl⟩
  have hL1 : W1.heap[w.heap.size + 1]? = some (.loop (rec .ready none)) := by
    rw [← hW1]; have := World.alloc_heap_new (w.alloc (.deferred (some []))) (.loop (rec .ready none)); rwa [World.size_alloc] at this
  have hK1 : W1.heap[w.heap.size]? = some (.deferred (some [])) := by
    rw [← hW1]; exact (Below.heap_alloc _ _ _ (by simp)).trans (World.alloc_heap_new w _)
  have hx1 : Ext w W1 := by rw [← hW1]; exact ((Ext.refl w).alloc _).alloc _
  have hnd : w.heap.size ∉ D := fun h => by have := hD _ h; omega
  refine ⟨w.heap.size + 1, [{ target := .collected w.heap.size, args := #[] }], W1, { target := .fn (.func gf) lb, args := #[.func (.yield (w.heap.size + 1)) #[] #[]] }, W1, gf,
    #[.func (.yield (w.heap.size + 1)) #[] #[]] ++ lb, W1, ?_, ?_, ?_, ?_, fun _ => h1, ?_⟩
  · rw [← hW1, hrec]; exact run_enterLoop_outer _ _ _ _ _
  · simp only [resolve, hg]
    simp [go_sem]
  · intro f' hf'; simp [Target.leads] at hf'; subst hf'; exact hFg
  · simp [invoke, go_sem, eg]
  · exact range_core (G := fun W => W.heap[w.heap.size]? = some (.deferred (some []))) hrec hfn hseq hps hD hx1.bel (Nat.le_succ _) hL1 ⟨hx1.but, h0.ext hx1⟩ hK1
      (fun A B hA hb => (hb.block _ (Array.getElem?_eq_some_iff.1 hA).1 hnd).trans hA) (fun A o' hA => (World.putObj_heap_other (by omega)).trans hA) hX Ax hAx (hassign _)
      (fun s x a' W hf hr hs hax => hbody _ s x a' W (Nat.le_succ _) hf hr hs hax) (fun s W h2 h3 h4 => hdone _ s W (Nat.le_refl _) h2 h3 h4) (fun W h2 h3 h4 h5 => hstop _ W (Nat.le_refl _) h2 h3 h4 h5)

/-- Within a round of another one. -/
theorem wpIn_range_inn (cells : σ → List (Nat × Nat × Value)) (f : σ → Nat → Option σ) (s0 : σ) (X : World → Prop) (D : List Nat) {l₀ : Nat} {r₀ : Loop} (hro : F.round = some l₀) (hl₀ : w.heap[l₀]? = some (.loop r₀)) (h1 : 1 ≤ nn) {gf : Nat} {lb : Array Value} (hg : a.eval g = .func (.func gf) #[] lb) (hFg : F.fn gf) (eg : ∀ args w, (callFunc gf args).run Try.prog w = .ok (.enter gf args) w)
    {encs : Fin N → Array Value} (hseq : SeqSt F (nn - 1) Try.prog gf lb encs D w) (hps : ∀ x, (encs x).size = ps.size)
    (hD : ∀ d ∈ D, d < w.heap.size) (h0 : CellsAt (cells s0) w) (hX : OwnFrom w.heap.size (fun (_ : Unit) W => X W)) (Ax : Fin N → Act → World → Prop) (hAx : ∀ x a', OwnFrom w.heap.size (fun (_ : Unit) W => Ax x a' W))
    (hassign : ∀ (l : Nat) (x : Fin N) (W : World) (K : Act → World → Prop), w.heap.size ≤ W.heap.size → (∀ a' W', Ext W W' → Ax x a' W' → K a' W') →
      assign.wpIn (F.inRound l) (nn - 1 - 1) Try.prog (Exit.then K (fun _ _ _ => False)) { tmps := (ps.zip (encs x)).foldl (fun t (p, v) => t.setIfInBounds p v) a.tmps, defers := [] } W)
    (hbody : ∀ (l : Nat) (s : σ) (x : Fin N) (a' : Act) (W : World), w.heap.size ≤ l → (List.range x.val).foldlM f s0 = some s → (∃ r, W.heap[l]? = some (.loop r)) → StAt D w (cells s) W → Ax x a' W →
      body.wpIn (F.inRound l) (nn - 1 - 1) Try.prog (StPost D cells X W (f s x.val)) a' W)
    (hdone : ∀ (s : σ) (W : World), (List.range N).foldlM f s0 = some s → StAt D w (cells s) W → Q .normal a W)
    (hstop : ∀ (W : World), (List.range N).foldlM f s0 = none → But D w W → X W → Q .ret a W) :
    (Code.rangeFunc g ps assign body).wpIn F nn Try.prog Q a w := by
  refine wpIn_rangeFunc ?_
  intro fn hfn
  rw [hro]
  obtain ⟨rec, hrec⟩ : ∃ rec : LoopState → Option Code → Loop, rec = fun st pe => { state := st, pending := pe, fn := fn, tmps := a.tmps, params := ps, assign := assign, body := body, defers := r₀.defers } := ⟨_, rfl⟩
  obtain ⟨W1, hW1⟩ : ∃ W1, w.alloc (.loop (rec .ready none)) = W1 := ⟨_, rfl⟩
  have hL1 : W1.heap[w.heap.size]? = some (.loop (rec .ready none)) := by rw [← hW1]; exact World.alloc_heap_new w _
  have hx1 : Ext w W1 := by rw [← hW1]; exact (Ext.refl w).alloc _
  refine ⟨w.heap.size, [], W1, { target := .fn (.func gf) lb, args := #[.func (.yield w.heap.size) #[] #[]] }, W1, gf,
    #[.func (.yield w.heap.size) #[] #[]] ++ lb, W1, ?_, ?_, ?_, ?_, fun _ => h1, ?_⟩
  · rw [← hW1, hrec]; exact run_enterLoop_inner hl₀ _ _ _ _ _
  · simp only [resolve, hg]
    simp [go_sem]
  · intro f' hf'; simp [Target.leads] at hf'; subst hf'; exact hFg
  · simp [invoke, go_sem, eg]
  · exact range_core (G := fun _ => True) hrec hfn hseq hps hD hx1.bel (Nat.le_refl _) hL1 ⟨hx1.but, h0.ext hx1⟩ trivial
      (fun _ _ _ _ => trivial) (fun _ _ _ => trivial) hX Ax hAx (hassign _)
      (fun s x a' W hf hr hs hax => hbody _ s x a' W (Nat.le_refl _) hf hr hs hax) (fun s W h2 h3 _ => hdone s W h2 h3) (fun W h2 h3 h4 _ => hstop W h2 h3 h4)
end
end
open Go.RowKit

attribute [local go_sem] Oper.semAt_some

/-- How many segments, and which. -/
def segN (k : Nat) : Nat := max (k - 1) 1
def sgA (xs : List (Int × Int)) (i : Nat) : Int × Int := xs[i]?.getD (0, 0)
def sgB (xs : List (Int × Int)) (i : Nat) : Int × Int := xs[min (i + 1) (xs.length - 1)]?.getD (0, 0)
def segEnc (xs : List (Int × Int)) (N : Nat) (x : Fin N) : Array Value := #[.agg #[.int .i64 (sgA xs x.val).1, .int .i64 (sgA xs x.val).2], .agg #[.int .i64 (sgB xs x.val).1, .int .i64 (sgB xs x.val).2]]

theorem segments_in (F : Fence) (n : Nat) (h5 : F.fn 97) (hro : F.round = none) (A : Option Addr) (k c : Nat) (w : World) :
    CallsIn F n Try.prog 97 #[.slice A k c] w fun e w' => e = .returned (.func (.func 108) #[] #[.pointer (some ⟨w.heap.size, 0, none⟩)]) ∧ w' = w.alloc (.cells #[.slice A k c] 123) := by
  refine callsIn_of_wp Try.func97 rfl h5 ?_ hro
  simp only [Try.ntmps97, List.size_toArray, List.length_cons, List.length_nil, Nat.reduceAdd, Nat.reduceSub, Array.replicate_succ, Array.replicate_zero, List.push_toArray, List.append_toArray, List.nil_append, List.cons_append]
  gi_wp2
  go_ret
  exact ⟨rfl, rfl⟩

/-- The path lies there, in blocks that no box of D is. -/
structure PathAt (w : World) (D : List Nat) (Bs b o k c : Nat) (xs : List (Int × Int)) : Prop where
  box : w.cell? ⟨Bs, 0, none⟩ = some (.slice (some ⟨b, o, none⟩) k c)
  len : xs.length = k
  pos : 1 ≤ k
  cap : k ≤ c
  mx : c ≤ maxLen
  sm : k ≤ 1000
  cell : ∀ i (h : i < xs.length), w.cell? ⟨b, o + i * 2, none⟩ = some (.int .i64 xs[i].1) ∧ w.cell? ⟨b, o + i * 2 + 1, none⟩ = some (.int .i64 xs[i].2)
  nD : Bs ∉ D ∧ b ∉ D
theorem PathAt.keep {w W W' : World} {D : List Nat} {Bs b o k c : Nat} {xs : List (Int × Int)} (h : PathAt W D Bs b o k c xs) (hk : KpD D w.heap.size W W') (h1 : Bs < w.heap.size) (h2 : b < w.heap.size) : PathAt W' D Bs b o k c xs :=
  ⟨hk _ _ _ h1 h.nD.1 h.box, h.len, h.pos, h.cap, h.mx, h.sm, fun i hi => ⟨hk _ _ _ h2 h.nD.2 (h.cell i hi).1, hk _ _ _ h2 h.nD.2 (h.cell i hi).2⟩, h.nD⟩
theorem PathAt.ext {W W' : World} {D : List Nat} {Bs b o k c : Nat} {xs : List (Int × Int)} (h : PathAt W D Bs b o k c xs) (x : Ext W W') : PathAt W' D Bs b o k c xs :=
  ⟨x.cell_some h.box, h.len, h.pos, h.cap, h.mx, h.sm, fun i hi => ⟨x.cell_some (h.cell i hi).1, x.cell_some (h.cell i hi).2⟩, h.nD⟩
theorem PathAt.lt {W : World} {D : List Nat} {Bs b o k c : Nat} {xs : List (Int × Int)} (h : PathAt W D Bs b o k c xs) : Bs < W.heap.size ∧ b < W.heap.size :=
  ⟨cell_lt h.box, cell_lt (h.cell 0 (by have := h.len; have := h.pos; omega)).1⟩

set_option maxRecDepth 100000 in
set_option maxHeartbeats 4000000 in
theorem segs1_in (nn : Nat) (hnn : 1 ≤ nn) (l B0 : Nat) (D : List Nat) (Bs b o k c : Nat) (xs : List (Int × Int)) (J : Nat → World → Prop) (Jx : World → Prop)
    (hJE : ∀ c A B, J c A → Ext A B → J c B) (hXE : ∀ A B, Jx A → Ext A B → Jx B)
    (hY : ∀ (x : Fin (segN k)) (W1 : World), J x.val W1 → YieldAt Fence.wide (nn - 1) Try.prog l (segEnc xs (segN k) x) W1 fun e W' => KpD D B0 W1 W' ∧ ((e = .returned (.bool true) ∧ J (x.val + 1) W') ∨ (e = .returned (.bool false) ∧ Jx W')))
    (W : World) (hP : PathAt W D Bs b o k c xs) (hB1 : Bs < B0) (hB2 : b < B0) (h0 : J 0 W) :
    CallsIn Fence.wide nn Try.prog 108 #[.func (.yield l) #[] #[], .pointer (some ⟨Bs, 0, none⟩)] W fun e W' => (∃ v, e = .returned v) ∧ (J (segN k) W' ∨ Jx W') := by
  have HY := Lib.hid hY
  have HJE := Lib.hid hJE
  have HXE := Lib.hid hXE
  have hlen := hP.len
  have hpos := hP.pos
  have hcap := hP.cap
  have hsm := hP.sm
  have hmx : c ≤ 9223372036854775807 := by have := hP.mx; simpa [maxLen] using this
  have HKP := Lib.hid fun (W' : World) (hk : KpD D B0 W W') => (show PathAt W' D Bs b o k c xs from ⟨hk _ _ _ hB1 hP.nD.1 hP.box, hP.len, hP.pos, hP.cap, hP.mx, hP.sm, fun i hi => ⟨hk _ _ _ hB2 hP.nD.2 (hP.cell i hi).1, hk _ _ _ hB2 hP.nD.2 (hP.cell i hi).2⟩, hP.nD⟩)
  have c0 := hP.box
  have l0 := cell_lt c0
  have HP := Lib.hid hP
  have HJ0 := Lib.hid h0
  clear hY hJE hXE hP h0
  refine callsIn_of_wp Try.func108 rfl trivial ?_ rfl
  simp only [Try.ntmps108, List.size_toArray, List.length_cons, List.length_nil, Nat.reduceAdd, Nat.reduceSub, Array.replicate_succ, Array.replicate_zero, List.push_toArray, List.append_toArray, List.nil_append, List.cons_append]
  by_cases hk1 : k = 1
  · subst hk1
    obtain ⟨d0, d1⟩ := HP.out.cell 0 (by omega)
    simp only [Nat.zero_mul, Nat.add_zero] at d0 d1
    have q0 := But.cells (D := []) c0 (by simp)
    have q1 := But.cells (D := []) d0 (by simp)
    have q2 := But.cells (D := []) d1 (by simp)
    have HE : sgA xs 0 = xs[0] ∧ sgB xs 0 = xs[0] := by
      simp [sgA, sgB, hlen]
    have HEE := Lib.hid HE
    clear HE d0 d1
    gi_wp2
    refine wpIn_region_steps [] 7 [(0, true), (1, true), (2, true), (3, true), (4, true), (5, true), (6, true)] (by kernel_rfl) (by kernel_rfl) ?_
    repeat (refine wpSD_q (by rfl) (fun _ _ _ => trivial) (fun K hK => ?_); go_simp; refine hK _ ?_; clear hK K)
    refine wpSD_nil ?_
    intro W3 x3
    have HJ3 := Lib.hid (HJE.out _ _ _ HJ0.out x3)
    have HK3 := Lib.hid (show KpD D B0 W W3 from fun _ _ _ _ _ h => x3.cell_some h)
    obtain ⟨fn, tmps, assign, body, hy, hR⟩ := HY.out ⟨0, by decide⟩ W3 HJ3.out
    simp only [segEnc, HEE.out.1, HEE.out.2] at hy
    have HR := Lib.hid hR
    clear hR q0 q1 q2 x3
    simp only [List.drop_succ_cons, List.drop_zero]
    gi_wp2
    refine HR.out.mono ?_
    rintro e W4 ⟨hk4, h4⟩
    obtain ⟨bb, rfl, hfin⟩ : ∃ bb, e = .returned (.bool bb) ∧ (J 1 W4 ∨ Jx W4) := by
      rcases h4 with ⟨rfl, h⟩ | ⟨rfl, h⟩
      · exact ⟨_, rfl, .inl h⟩
      · exact ⟨_, rfl, .inr h⟩
    have c4 := (HKP.out W4 (HK3.out.trans hk4)).box
    have HF := Lib.hid hfin
    clear hk4 h4 hfin
    rcases (by omega : c = 1 ∨ 1 < c) with rfl | hc
    · gi_wp2
      gi_loopw [18, 3] (fun iv _ wr => ∃ z : Nat, z ≤ 0 ∧ iv = .int .i64 z ∧ (J 1 wr ∨ Jx wr)) (fun iv _ _ => 0 - (intOf iv).toNat)
      case atStart => exact ⟨0, by omega, rfl, HF.out⟩
      case round =>
        obtain ⟨z, hz, rfl, hj⟩ := hrel
        obtain rfl : z = 0 := by omega
        have HFF := Lib.hid hj
        clear hj
        gi_wp2
        go_end0
        exact ⟨⟨_, rfl⟩, HFF.out⟩
    · have hcn : ¬ c = 1 := by omega
      have hcn2 : ¬ c - 1 = 0 := by omega
      gi_wp2
      gi_loopw [18, 3] (fun iv _ wr => ∃ z : Nat, z ≤ 0 ∧ iv = .int .i64 z ∧ (J 1 wr ∨ Jx wr)) (fun iv _ _ => 0 - (intOf iv).toNat)
      case atStart => exact ⟨0, by omega, rfl, HF.out⟩
      case round =>
        obtain ⟨z, hz, rfl, hj⟩ := hrel
        obtain rfl : z = 0 := by omega
        have HFF := Lib.hid hj
        clear hj
        gi_wp2
        go_end0
        exact ⟨⟨_, rfl⟩, HFF.out⟩
  · obtain ⟨m, rfl⟩ : ∃ m, k = m + 1 := ⟨k - 1, by omega⟩
    have hm1 : 1 ≤ m := by omega
    have hsn : segN (m + 1) = m := by simp [segN]; omega
    have hb1 : ((m : Int) + 1 == 1) = false := by simp; omega
    have HSN := Lib.hid hsn
    have HLEN := Lib.hid hlen
    clear hk1 hsn hlen
    gi_wp2
    gi_loopw [18, 3] (fun iv _ wr => ∃ i : Nat, i ≤ m ∧ iv = .int .i64 i ∧ J i wr ∧ KpD D B0 W wr) (fun iv _ _ => m - (intOf iv).toNat)
    case atStart => exact ⟨0, by omega, rfl, HJ0.out, fun _ _ _ _ _ h => h⟩
    case round =>
      obtain ⟨i, hi, rfl, hj, hkp⟩ := hrel
      have HKR := Lib.hid hkp
      have HJR := Lib.hid hj
      by_cases hlt : i < m
      · have hp := HKP.out wr hkp
        have e0 := hp.box
        obtain ⟨d0, d1⟩ := hp.cell i (by rw [HLEN.out]; omega)
        have hi2l : i + 1 < xs.length := by rw [HLEN.out]; omega
        obtain ⟨f0, f1⟩ := hp.cell (i + 1) hi2l
        have HEE := Lib.hid (show sgA xs i = xs[i]'(by rw [HLEN.out]; omega) ∧ sgB xs i = xs[i + 1]'hi2l by
          have h1 : i < xs.length := by rw [HLEN.out]; omega
          have h2 : i + 1 < xs.length := by rw [HLEN.out]; omega
          have h3 : min (i + 1) (xs.length - 1) = i + 1 := by omega
          simp [sgA, sgB, h1, h2, h3])
        have q0 := But.cells (D := []) e0 (by simp)
        have q1 := But.cells (D := []) d0 (by simp)
        have q2 := But.cells (D := []) d1 (by simp)
        have q3 := But.cells (D := []) f0 (by simp)
        have q4 := But.cells (D := []) f1 (by simp)
        have hi1 : (i : Int) < (m : Int) + 1 := by omega
        have hi3 : (0 : Int) ≤ (i : Int) + 1 := by omega
        have hw : IntKind.i64.wrap ((i : Int) + 1) = (i : Int) + 1 := IntWalk.i64_in _ (by omega)
        clear hp hj hkp e0 d0 d1 f0 f1
        gi_wp2
        refine wpIn_region_steps [] 10 [(0, true), (1, true), (2, true), (3, true), (4, true), (5, true), (6, true), (7, true), (8, true), (9, true)] (by kernel_rfl) (by kernel_rfl) ?_
        repeat (refine wpSD_q (by rfl) (fun _ _ _ => trivial) (fun K hK => ?_); go_simp; refine hK _ ?_; clear hK K)
        refine wpSD_nil ?_
        intro W3 x3
        have HJ3 := Lib.hid (HJE.out _ _ _ HJR.out x3)
        have HK3 := Lib.hid (show KpD D B0 W W3 from HKR.out.trans (fun _ _ _ _ _ h => x3.cell_some h))
        obtain ⟨fn, tmps, assign, body, hy, hR⟩ := HY.out ⟨i, by rw [HSN.out]; exact hlt⟩ W3 HJ3.out
        simp only [segEnc, HEE.out.1, HEE.out.2] at hy
        have HR := Lib.hid hR
        clear hR q0 q1 q2 q3 q4 x3
        simp only [List.drop_succ_cons, List.drop_zero]
        gi_wp2
        refine HR.out.mono ?_
        rintro e W4 ⟨hk4, ⟨rfl, h4⟩ | ⟨rfl, h4⟩⟩
        · have HJ4 := Lib.hid h4
          have HK4 := Lib.hid (HK3.out.trans hk4)
          clear h4 hk4
          gi_wp2
          go_roundw
          case rel => exact ⟨i + 1, by omega, by simp, HJ4.out, HK4.out⟩
          case measure => simp [intOf]; omega
        · have HJ4 := Lib.hid h4
          clear h4 hk4
          gi_wp2
          refine bodyPost_ret (results_none rfl _ _ _) rfl ?_
          exact ⟨⟨_, rfl⟩, .inr HJ4.out⟩
      · obtain rfl : i = m := by omega
        clear hj hkp
        gi_wp2
        go_end0
        exact ⟨⟨_, rfl⟩, .inl (by rw [HSN.out]; exact HJR.out)⟩

theorem segs_seq (nn : Nat) (hnn : 1 ≤ nn) (D : List Nat) (Bs b o k c : Nat) (xs : List (Int × Int)) (w : World) (hP : PathAt w D Bs b o k c xs) :
    SeqSt Fence.wide nn Try.prog 108 #[.pointer (some ⟨Bs, 0, none⟩)] (segEnc xs (segN k)) D w := fun l J Jx W hW hJE hXE hY h0 =>
  segs1_in nn hnn l w.heap.size D Bs b o k c xs J Jx hJE hXE hY W (hP.ext (.of hW)) hP.lt.1 hP.lt.2 h0
end Go.Proofs.Ytgeapenglcohfaa
