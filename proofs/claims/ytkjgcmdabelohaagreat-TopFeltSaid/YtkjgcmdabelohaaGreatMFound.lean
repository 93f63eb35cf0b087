/- read.mounts: an iterator over heads and throws. Condition: the picture lies there, valid, in blocks that are not the body's. -/
/- What read.Find finds, as a list: heads, throws, advances, Starts. Plain, no program. No condition. -/
/- The bases' spans are in bounds, their keys are cuts. Plain, no program. No condition. -/
/- read.found: an iterator over what fits. Condition: the picture lies there, valid. -/
import Derived.Test.YtkjgcmdabelohaaGreatFRange
import Derived.Test.YtkjgcmdabelohaaGreatFStarts
namespace Go.Proofs.YtkjgcmdabelohaaGreat
open Go.RowKit Go.ChangeMaps

attribute [local go_sem] Oper.semAt_some

/-- A picture: heads, throws, advances, readings. -/
structure PicT where
  hs : List (List Int × List Int)
  tl : Nat
  tu : Nat
  al : Int
  au : Int
  rd : List (Int × Int × Int × Int)
structure HeadsAt (W : World) (hb ho hn : Nat) (hs : List (List Int × List Int)) : Prop where
  len : hs.length = hn
  row : ∀ i (h : i < hs.length), ∃ va vb, W.cell? ⟨hb, ho + i * 2, none⟩ = some va ∧ W.cell? ⟨hb, ho + i * 2 + 1, none⟩ = some vb ∧ IsI W va hs[i].1 ∧ IsI W vb hs[i].2
/-- A valid picture. n: the steps of its heads. -/
structure PicOk (p : PicT) (n : Nat) : Prop where
  n1 : 1 ≤ n ∧ n ≤ 1000
  h4 : 1 ≤ p.hs.length ∧ p.hs.length ≤ 4
  fine : ∀ h ∈ p.hs, Fine h.1 h.2 ∧ h.1.length = n
  t : 1 ≤ p.tl ∧ p.tl ≤ p.tu ∧ p.tu ≤ 16
  a : -1000 ≤ p.al ∧ p.al ≤ p.au ∧ p.au ≤ 1000 ∧ p.au - p.al ≤ 40
  rl : p.rd.length ≤ 60
  rd : ∀ r ∈ p.rd, RdOk n r
def PicT.T (p : PicT) : Nat := p.tu - p.tl + 1
def PicT.base (p : PicT) (i : Nat) (th : Nat) : Int → List (Int × Int) := basesF (liftL (p.hs[i]?.getD ([], [])).1 (p.hs[i]?.getD ([], [])).2) (th : Int) p.rd
abbrev picC (p : PicT) (hb ho hn hc : Nat) (rv : Value) : Array Value := #[.slice (some ⟨hb, ho, none⟩) hn hc, .int .i64 (p.tl : Int), .int .i64 (p.tu : Int), .int .i64 p.al, .int .i64 p.au, rv]
/-- What is yielded: a mount in blocks of its own. -/
def mntEnc (p : PicT) (n bp : Nat) (x : Nat) (g : Option Nat) (args : Array Value) (W : World) : Prop :=
  ∃ M B, args = #[.agg #[.int .i64 ((x / p.T : Nat) : Int), .int .i64 ((p.tl + x % p.T : Nat) : Int), .map (some M)]] ∧ (B ≤ M ∧ bp < B) ∧ (∀ r, g = some r → r < B) ∧ BasesAt n B (p.base (x / p.T) (p.tl + x % p.T)) M W

set_option maxRecDepth 100000 in
set_option maxHeartbeats 8000000 in
theorem mounts_seq (nn : Nat) (hnn : 1 ≤ nn) (D : List Nat) (G : Nat → Prop) (bp hb ho hn hc n : Nat) (rv : Value) (p : PicT) (w0 w : World) (hx0 : Ext w0 w) (hD : bp ∉ D ∧ ∀ d ∈ D, w0.heap.size ≤ d) (hG : ¬ G bp ∧ ∀ r, G r → w0.heap.size ≤ r)
    (hbox : BoxAt bp (picC p hb ho hn hc rv) 28 w) (hH : HeadsAt w0 hb ho hn p.hs) (hR : readK.Is w0 rv p.rd) (hok : PicOk p n) :
    SeqG Fence.wide nn Tryz.prog 80 #[.pointer (some ⟨bp, 0, none⟩)] (p.hs.length * p.T) (mntEnc p n bp) D G w := by
  intro l J Jx W g0 hW hlW hlw hJg hJk hXk hY h0
  obtain ⟨Av, nv, cv, rfl, -, -, -⟩ := hR.open_
  have hbw := hbox.lt
  have HY := Lib.hid hY
  have HJG := Lib.hid hJg
  have HJK := Lib.hid hJk
  have hTpos : 0 < p.T := by unfold PicT.T; omega
  have hTt : p.tl + p.T = p.tu + 1 := by have := hok.t; unfold PicT.T; omega
  have ht16 := hok.t.2.2
  have hh4 := hok.h4.2
  have hln := hH.len
  have HM := Lib.hid fun (i th : Nat) (W' : World) (hi : i < hn) (ht : 1 ≤ th ∧ th ≤ 16) (x : Ext w0 W') => (show Calls Tryz.prog 65 #[.agg (picC p hb ho hn hc (.slice Av nv cv)), .int .i64 (i : Int), .int .i64 (th : Int)] W' fun e w' =>
      ∃ M, e = .returned (.agg #[.int .i64 (i : Int), .int .i64 (th : Int), .map (some M)]) ∧ W'.heap.size ≤ M ∧ BasesAt n W'.heap.size (p.base i th) M w' ∧ Ext W' w' from by
    have hi' : i < p.hs.length := by omega
    obtain ⟨va, vb, c0, c1, i0, i1⟩ := hH.row i hi'
    obtain ⟨f1, f2⟩ := hok.fine _ (List.getElem_mem hi')
    have := mntd_any hb ho hn hc i (.slice Av nv cv) va vb p.tl p.tu p.al p.au th p.hs[i].1 p.hs[i].2 p.rd W' hi (x.cell_some c0) (x.cell_some c1) (i0.ext x) (i1.ext x) f1 (hR.ext x) (by rw [f2]; exact hok.rd) hok.rl (by omega)
    rw [f2] at this
    unfold PicT.base
    rw [List.getElem?_eq_getElem hi', Option.getD_some]
    exact this)
  have HB := Lib.hid (show BoxAt bp (picC p hb ho hn hc (.slice Av nv cv)) 28 W from hbox.ext (.of hW))
  have HX := Lib.hid (show Ext w0 W from hx0.trans (.of hW))
  have HKP := Lib.hid fun (g : Option Nat) (A B : World) (c : Nat) (hj : J c g A) (hbA : BoxAt bp (picC p hb ho hn hc (.slice Av nv cv)) 28 A) (hx : Ext w0 A) (hbt : But (g.toList ++ (l :: D)) A B) => (show BoxAt bp (picC p hb ho hn hc (.slice Av nv cv)) 28 B ∧ Ext w0 B from by
    have hw0 := hx0.bel.size
    have hg := hJg c g A hj
    refine ⟨(hbt.block bp hbA.lt (fun h => ?_)).trans hbA, hbt.below hx (fun d hd => ?_)⟩
    · rcases List.mem_append.1 h with h | h
      · exact hG.1 (hg bp (by simpa using h)).1
      · rcases List.mem_cons.1 h with h | h
        · omega
        · exact hD.1 h
    · rcases List.mem_append.1 hd with h | h
      · exact hG.2 d (hg d (by simpa using h)).1
      · rcases List.mem_cons.1 h with h | h
        · omega
        · exact hD.2 d h)
  have HJ0 := Lib.hid h0
  have hc0 := HB.out.cell (i := 0) rfl
  have lc0 := cell_lt hc0
  have HOK := Lib.hid hok
  clear hY hJg hJk hXk hok hH hR hbox hx0 hD hG h0 hW
  refine callsIn_of_wp Tryz.func80 rfl trivial ?_ rfl
  simp only [Tryz.ntmps80, List.size_toArray, List.length_cons, List.length_nil, Nat.reduceAdd, Nat.reduceSub, Array.replicate_succ, Array.replicate_zero, List.push_toArray, List.append_toArray, List.nil_append, List.cons_append]
  gi_wp2
  clear hc0 lc0
  gi_loopw [3, 4, 8] (fun _ _ iv wr => ∃ (i : Nat) (g : Option Nat), i ≤ hn ∧ iv = .int .i64 (i : Int) ∧ J (i * p.T) g wr ∧ BoxAt bp (picC p hb ho hn hc (.slice Av nv cv)) 28 wr ∧ Ext w0 wr) (fun _ _ iv _ => hn - (intOf iv).toNat)
  case atStart => exact ⟨0, g0, by omega, rfl, by rw [Nat.zero_mul]; exact HJ0.out, HB.out, HX.out⟩
  case round =>
    obtain ⟨i, g, hi, rfl, hj, hbx, hx⟩ := hrel
    by_cases hlt : i < hn
    · have HJR := Lib.hid hj
      have HBR := Lib.hid hbx
      have HXR := Lib.hid hx
      have c1 := hbx.cell (i := 1) rfl
      have l1 := cell_lt c1
      have hii : (i : Int) < (hn : Int) := by omega
      clear hj hbx hx
      gi_wp2
      obtain ⟨wo, hwo⟩ : ∃ wo, wo = wr := ⟨_, rfl⟩
      rw [← hwo]
      have HWO := Lib.hid hwo
      clear c1 l1 hwo
      gi_loopw [4] (fun tv wr => ∃ (j : Nat) (g : Option Nat), j ≤ p.T ∧ tv = .int .i64 ((p.tl + j : Nat) : Int) ∧ J (i * p.T + j) g wr ∧ BoxAt bp (picC p hb ho hn hc (.slice Av nv cv)) 28 wr ∧ Ext w0 wr) (fun tv _ => p.tl + p.T - (intOf tv).toNat)
      case atStart => exact ⟨0, g, by omega, by simp, by rw [Nat.add_zero, HWO.out]; exact HJR.out, by rw [HWO.out]; exact HBR.out, by rw [HWO.out]; exact HXR.out⟩
      case round =>
        obtain ⟨j, g, hjT, rfl, hj, hbx, hx⟩ := hrel
        have hjn : p.tl + j ≤ 17 := by omega
        by_cases hlt2 : j < p.T
        · have HJR := Lib.hid hj
          have HBR := Lib.hid hbx
          have HXR := Lib.hid hx
          have c0 := hbx.cell (i := 0) rfl
          have c1 := hbx.cell (i := 1) rfl
          have c2 := hbx.cell (i := 2) rfl
          have c3 := hbx.cell (i := 3) rfl
          have c4 := hbx.cell (i := 4) rfl
          have c5 := hbx.cell (i := 5) rfl
          have l0 := cell_lt c0
          have HMM := Lib.hid (HM.out i (p.tl + j) wr hlt (by have := HOK.out.t.1; omega) hx)
          obtain ⟨th, hth⟩ : ∃ th, th = p.tl + j := ⟨_, rfl⟩
          rw [← hth] at HMM ⊢
          have hle : (th : Int) ≤ (p.tu : Int) := by omega
          have hthn : th ≤ 17 := by omega
          have HIX := Lib.hid (show i * p.T + j < p.hs.length * p.T ∧ (i * p.T + j) / p.T = i ∧ (i * p.T + j) % p.T = j from by
            refine ⟨?_, ?_, ?_⟩
            · rw [hln]
              calc i * p.T + j < i * p.T + p.T := by omega
                _ = (i + 1) * p.T := by rw [Nat.succ_mul]
                _ ≤ hn * p.T := Nat.mul_le_mul_right _ hlt
            · rw [Nat.add_comm, Nat.add_mul_div_right _ _ hTpos, Nat.div_eq_of_lt hlt2, Nat.zero_add]
            · rw [Nat.add_comm, Nat.add_mul_mod_self_right, Nat.mod_eq_of_lt hlt2])
          have HTH := Lib.hid hth
          have wt : IntKind.i64.wrap ((th : Int) + 1) = (th : Int) + 1 := IntWalk.i64_in _ (by omega)
          clear hj hbx hx hth
          gi_wp2
          refine ⟨trivial, (callsIn_wide.2 HMM.out).mono ?_⟩
          rintro e w1 ⟨M, rfl, hM, hBs, x1⟩
          have hJ1 := HJK.out _ _ _ _ HJR.out (Keep.of_ext x1)
          obtain ⟨fn, tmps, assign, body, hy, hRd⟩ := HY.out (i * p.T + j) g _ w1 HIX.out.1 hJ1 ⟨M, wr.heap.size, rfl, ⟨hM, HBR.out.lt⟩, fun r e => by obtain ⟨-, o, h, -⟩ := HJG.out _ _ _ HJR.out r e; exact (Array.getElem?_eq_some_iff.1 h).1, by rw [HIX.out.2.1, HIX.out.2.2, ← HTH.out]; exact hBs⟩
          rw [HIX.out.2.1, HIX.out.2.2, ← HTH.out] at hy
          have HRD := Lib.hid hRd
          have HB1 := Lib.hid (HBR.out.ext x1)
          have HX1 := Lib.hid (HXR.out.trans x1)
          have HJ1 := Lib.hid hJ1
          clear hRd x1 hBs hM hJ1 c0 c1 c2 c3 c4 c5 l0
          gi_wp2
          refine HRD.out.mono ?_
          rintro e w2 ⟨hbt, ⟨rfl, g', hng, h4⟩ | ⟨rfl, h4⟩⟩
          · have hkp := HKP.out g w1 w2 _ HJ1.out HB1.out HX1.out hbt
            have HJ4 := Lib.hid h4
            have HK4 := Lib.hid hkp
            clear h4 hkp hbt hng
            gi_wp2
            go_roundw
            case rel => exact ⟨j + 1, g', by omega, by have := HTH.out; congr 1; omega, HJ4.out, HK4.out.1, HK4.out.2⟩
            case measure => have := HTH.out; simp [intOf]; omega
          · have HJ4 := Lib.hid h4
            clear h4 hbt
            gi_wp2
            refine bodyPost_ret (results_none rfl _ _ _) rfl ?_
            exact ⟨⟨_, rfl⟩, .inr HJ4.out⟩
        · obtain rfl : j = p.T := by omega
          have HJR := Lib.hid (show J ((i + 1) * p.T) g wr by rw [Nat.succ_mul]; exact hj)
          have HBR := Lib.hid hbx
          have HXR := Lib.hid hx
          have c2 := hbx.cell (i := 2) rfl
          have l2 := cell_lt c2
          have hle : ¬ ((p.tl + p.T : Nat) : Int) ≤ (p.tu : Int) := by omega
          clear hj hbx hx
          gi_wp2
          go_roundw
          case rel => exact ⟨i + 1, g, by omega, by go_num, HJR.out, HBR.out, HXR.out⟩
          case measure => simp [intOf]; omega
    · obtain rfl : i = hn := by omega
      have HJR := Lib.hid hj
      clear hj hbx hx
      gi_wp2
      go_end0
      exact ⟨⟨_, rfl⟩, .inl ⟨g, by rw [hln]; exact HJR.out⟩⟩
end Go.Proofs.YtkjgcmdabelohaaGreat

namespace Go.Proofs.YtkjgcmdabelohaaGreat

abbrev FoundT := Int × Int × Int × Int × Int
def PicT.A (p : PicT) : Nat := (p.au - p.al + 1).toNat
/-- At mount x and the k-th advance. -/
noncomputable def advL (p : PicT) (x k : Nat) : List FoundT := (startsL (p.base (x / p.T) (p.tl + x % p.T)) (p.al + k)).map fun s => (((x / p.T : Nat) : Int), ((p.tl + x % p.T : Nat) : Int), p.al + k, s.1, s.2)
noncomputable def rowL (p : PicT) (x m : Nat) : List FoundT := (List.range m).flatMap (advL p x)
noncomputable def preL (p : PicT) (m : Nat) : List FoundT := (List.range m).flatMap fun x => rowL p x p.A
noncomputable def foundL (p : PicT) : List FoundT := preL p (p.hs.length * p.T)
theorem rowL_succ (p : PicT) (x k : Nat) : rowL p x (k + 1) = rowL p x k ++ advL p x k := by
  unfold rowL
  rw [List.range_succ, List.flatMap_append]
  simp
theorem preL_succ (p : PicT) (x : Nat) : preL p (x + 1) = preL p x ++ rowL p x p.A := by
  unfold preL
  rw [List.range_succ, List.flatMap_append]
  simp
theorem preL_pre (p : PicT) {x m : Nat} (h : x ≤ m) : ∃ r, preL p m = preL p x ++ r := by
  obtain ⟨d, rfl⟩ := Nat.exists_eq_add_of_le h
  unfold preL
  rw [List.range_add, List.flatMap_append]
  exact ⟨_, rfl⟩
theorem rowL_pre (p : PicT) (x : Nat) {k m : Nat} (h : k ≤ m) : ∃ r, rowL p x m = rowL p x k ++ r := by
  obtain ⟨d, rfl⟩ := Nat.exists_eq_add_of_le h
  unfold rowL
  rw [List.range_add, List.flatMap_append]
  exact ⟨_, rfl⟩
/-- How many have come when q of those of (x, k) have. -/
noncomputable def fndN (p : PicT) (x k q : Nat) : Nat := (preL p x).length + (rowL p x k).length + q
theorem found_at {p : PicT} {x k q : Nat} (hx : x < p.hs.length * p.T) (hk : k < p.A) (hq : q < (advL p x k).length) : fndN p x k q < (foundL p).length ∧ (foundL p)[fndN p x k q]? = (advL p x k)[q]? := by
  obtain ⟨r, hr⟩ := preL_pre p (show x + 1 ≤ p.hs.length * p.T from hx)
  obtain ⟨r', hr'⟩ := rowL_pre p x (show k + 1 ≤ p.A from hk)
  have e : foundL p = preL p x ++ (rowL p x k ++ (advL p x k ++ (r' ++ r))) := by
    unfold foundL
    rw [hr, preL_succ, hr', rowL_succ]
    simp only [List.append_assoc]
  refine ⟨?_, ?_⟩
  · rw [e]
    unfold fndN
    simp only [List.length_append]
    omega
  · rw [e]
    unfold fndN
    rw [List.getElem?_append_right (by omega), List.getElem?_append_right (by omega), List.getElem?_append_left (by omega)]
    congr 1
    omega
theorem off_adv (p : PicT) (x k : Nat) : fndN p x k (advL p x k).length = fndN p x (k + 1) 0 := by
  unfold fndN
  rw [rowL_succ, List.length_append]
  omega
theorem off_row (p : PicT) (x : Nat) : fndN p x p.A 0 = fndN p (x + 1) 0 0 := by
  unfold fndN
  rw [preL_succ, List.length_append]
  simp [rowL]
theorem off_end (p : PicT) : fndN p (p.hs.length * p.T) 0 0 = (foundL p).length := by simp [fndN, foundL, rowL]
theorem off_start (p : PicT) : fndN p 0 0 0 = 0 := by simp [fndN, preL, rowL]
end Go.Proofs.YtkjgcmdabelohaaGreat

namespace Go.Proofs.YtkjgcmdabelohaaGreat
open Go.ChangeMaps

def BInv (F : Int → List (Int × Int)) : Prop := ∀ c, F c ≠ [] → (0 ≤ c ∧ c ≤ 11) ∧ ∀ s ∈ F c, BdF s
theorem bdF_get {xs : List (Int × Int)} (h : ∀ s ∈ xs, BdF s) (i : Nat) : BdF (xs[i]?.getD (0, 0)) := by
  rcases hx : xs[i]? with _ | s
  · rw [Option.getD_none]
    unfold BdF
    simp
  · exact h s (List.mem_of_getElem? hx)
theorem addF_inv {n : Nat} {F : Int → List (Int × Int)} (h : BInv F) {d : Int} (hd : 0 ≤ d ∧ d ≤ 11) : BInv (addF n F d) := by
  unfold addF
  split
  · intro c hc
    unfold updM' at hc ⊢
    by_cases e : c = d
    · subst e
      rw [if_pos rfl]
      refine ⟨hd, fun s hs => ?_⟩
      unfold infS at hs
      obtain ⟨-, rfl⟩ := List.mem_replicate.1 hs
      unfold BdF
      decide
    · rw [if_neg e] at hc ⊢
      exact h c hc
  · exact h
theorem baseUp_inv {L : List Int} {th : Int} {n : Nat} {F : Int → List (Int × Int)} {r : Int × Int × Int × Int} (hl : L.length = n) (hL : ∀ i : Nat, 0 ≤ L[i]?.getD 0 ∧ L[i]?.getD 0 ≤ 10000) (ht : 1 ≤ th ∧ th ≤ 16)
    (h : BInv F) (hr : RdOk n r) : BInv (baseUp L th F r) := by
  obtain ⟨hr1, hr2, hr3, hr4⟩ := hr
  have ha := addF_inv (n := L.length) h (d := r.1) ⟨hr1.1, by omega⟩
  unfold baseUp
  intro c hc
  unfold updM' at hc ⊢
  by_cases e : c = r.1
  · rw [if_pos e] at hc ⊢
    subst e
    refine ⟨⟨hr1.1, by omega⟩, fun s hs => ?_⟩
    have hrow : ∀ s ∈ addF L.length F r.1 r.1, BdF s := by
      by_cases hz : addF L.length F r.1 r.1 = []
      · rw [hz]; simp
      · exact (ha _ hz).2
    unfold rowTo at hs
    obtain ⟨ph, hph, rfl⟩ := List.mem_map.1 hs
    have hg := bdF_get hrow ph
    split
    · have hm : 0 ≤ highM L th r.2.1.toNat ph ∧ highM L th r.2.1.toNat ph ≤ 160000 := by
        obtain ⟨k, _, _, _, h1, h2⟩ := high_fact hl (show r.2.1.toNat < n by omega) (show ph < n by rw [← hl]; exact List.mem_range.1 hph) ht hL
        exact ⟨h1, h2⟩
      unfold spanUp BdF
      unfold BdF at hg
      simp only
      omega
    · exact hg
  · rw [if_neg e] at hc ⊢
    exact ha c hc
theorem bases_inv {L : List Int} {th : Int} {n : Nat} {rd : List (Int × Int × Int × Int)} (hl : L.length = n) (hL : ∀ i : Nat, 0 ≤ L[i]?.getD 0 ∧ L[i]?.getD 0 ≤ 10000) (ht : 1 ≤ th ∧ th ≤ 16) (hr : ∀ r ∈ rd, RdOk n r) : BInv (basesF L th rd) := by
  unfold basesF
  suffices H : ∀ (rd : List (Int × Int × Int × Int)) (F : Int → List (Int × Int)), (∀ r ∈ rd, RdOk n r) → BInv F → BInv (rd.foldl (baseUp L th) F) from H rd _ hr (fun c h => absurd rfl h)
  intro rd
  induction rd with
  | nil => intro F _ h; exact h
  | cons r rd ih =>
    intro F h1 h2
    exact ih _ (fun q hq => h1 q (List.mem_cons_of_mem _ hq)) (baseUp_inv hl hL ht h2 (h1 r (by simp)))
theorem base_inv {p : PicT} {n i th : Nat} (hok : PicOk p n) (hi : i < p.hs.length) (ht : 1 ≤ th ∧ th ≤ 16) : BInv (p.base i th) := by
  obtain ⟨h1, h2⟩ := hok.fine _ (List.getElem_mem hi)
  unfold PicT.base
  rw [List.getElem?_eq_getElem hi, Option.getD_some]
  exact bases_inv (n := n) (by rw [liftL_len]; exact h2) (fun k => h1.lift.hx k) (by omega) hok.rd
end Go.Proofs.YtkjgcmdabelohaaGreat

namespace Go.Proofs.YtkjgcmdabelohaaGreat
open Go.RowKit Go.ChangeMaps

attribute [local go_sem] Oper.semAt_some

/-- The blocks from B on that A had are as they were. -/
structure Mid (B : Nat) (A C : World) : Prop where
  size : A.heap.size ≤ C.heap.size
  block : ∀ i, B ≤ i → i < A.heap.size → C.heap[i]? = A.heap[i]?
theorem Mid.refl (B : Nat) (A : World) : Mid B A A := ⟨Nat.le_refl _, fun _ _ _ => rfl⟩
theorem Mid.ext {B : Nat} {A C E : World} (h : Mid B A C) (x : Ext C E) : Mid B A E := ⟨Nat.le_trans h.size x.bel.size, fun i hb hi => (x.bel.block i (Nat.lt_of_lt_of_le hi h.size)).trans (h.block i hb hi)⟩
theorem Mid.but {B : Nat} {D : List Nat} {A C E : World} (h : Mid B A C) (x : But D C E) (hD : ∀ d ∈ D, d < B ∨ A.heap.size ≤ d) : Mid B A E :=
  ⟨Nat.le_trans h.size x.size, fun i hb hi => (x.block i (Nat.lt_of_lt_of_le hi h.size) (fun hd => by have := hD i hd; omega)).trans (h.block i hb hi)⟩
theorem Mid.cell {B b o : Nat} {A C : World} {v : Value} (h : Mid B A C) (hb : B ≤ b) (hc : A.cell? ⟨b, o, none⟩ = some v) : C.cell? ⟨b, o, none⟩ = some v := by
  have := h.block b hb (cell_lt hc)
  unfold World.cell? at hc ⊢
  simp only [this]
  exact hc
theorem Mid.box {B b : Nat} {A C : World} {cs : Array Value} {T : TypeId} (h : Mid B A C) (hb : B ≤ b) (hc : BoxAt b cs T A) : BoxAt b cs T C := (h.block b hb hc.lt).trans hc
theorem Mid.own {α : Type} {K : EK α} {B B0 : Nat} {A C : World} {v : Value} {xs : List α} (h : Mid B A C) (hb : B ≤ B0) (ho : K.Own B0 A v xs) : K.Own B0 C v xs := by
  refine ⟨ho.1, ?_⟩
  rcases ho.2 with h1 | ⟨g, cap, cur, h1, h2, h3, h4⟩
  · exact .inl h1
  · exact .inr ⟨g, cap, cur, h1, h2, (h.block g (Nat.le_trans hb h2) (Array.getElem?_eq_some_iff.1 h3).1).trans h3, h4⟩
theorem Mid.bases {n B M : Nat} {F : Int → List (Int × Int)} {A C : World} (h : Mid B A C) (hM : B ≤ M) (hb : BasesAt n B F M A) : BasesAt n B F M C := by
  obtain ⟨f, h1, h2, h3, h4⟩ := hb.ex
  refine ⟨f, ?_, h2, fun c g k e => h.own (Nat.le_refl _) (h3 c g k e), h4⟩
  obtain ⟨es, ck, h5, h6⟩ := h1
  exact ⟨es, ck, (h.block M hM (Array.getElem?_eq_some_iff.1 h5).1).trans h5, h6⟩

theorem keep_putAt {b0 : Nat} {g : Option Nat} {Ds : List Nat} {A C : World} (h : PutAt Ds A C) (hD : ∀ d ∈ Ds, b0 ≤ d ∧ g ≠ some d) : Keep b0 g A C :=
  ⟨h.os, h.tape, h.output, Nat.le_of_eq h.size.symm, fun i _ hc => h.block i fun hd => by
    obtain ⟨h1, h2⟩ := hD i hd
    rcases hc with h3 | h3
    · omega
    · exact h2 h3⟩
theorem bases_put {n B M l : Nat} {F : Int → List (Int × Int)} {A : World} {r : Loop} {o : Obj} (hl : A.heap[l]? = some (.loop r)) (hb : BasesAt n B F M A) : BasesAt n B F M (A.putObj l o) := by
  obtain ⟨f, h1, h2, h3, h4⟩ := hb.ex
  refine ⟨f, ?_, h2, fun c g k e => (h3 c g k e).kept (grownBy_putObj' A l o) (.inr ?_), h4⟩
  · obtain ⟨es, ck, h5, h6⟩ := h1
    refine ⟨es, ck, (World.putObj_heap_other ?_).trans h5, h6⟩
    rintro rfl
    rw [h5] at hl
    cases hl
  · rcases (h3 c g k e).2 with ⟨e0, _⟩ | ⟨g', cap, cur, e0, _, hg, _⟩
    · cases e0
    · simp only [Value.slice.injEq, Option.some.injEq, Addr.mk.injEq] at e0
      obtain ⟨⟨rfl, -⟩, -⟩ := e0
      intro e1
      simp only [Value.ownBlock, Option.some.injEq] at e1
      subst e1
      rw [hg] at hl
      cases hl

theorem mounts_in (F : Fence) (nn : Nat) (h5 : F.fn 63) (hro : F.round = none) (p : PicT) (hb ho hn hc : Nat) (Av : Option Addr) (nv cv : Nat) (w : World) :
    CallsIn F nn Tryz.prog 63 #[.agg (picC p hb ho hn hc (.slice Av nv cv))] w fun e w' => e = .returned (.func (.func 80) #[] #[.pointer (some ⟨w.heap.size, 0, none⟩)]) ∧
      w' = w.alloc (.cells (picC p hb ho hn hc (.slice Av nv cv)) 28) := by
  refine callsIn_of_wp Tryz.func63 rfl h5 ?_ hro
  simp only [Tryz.ntmps63, List.size_toArray, List.length_cons, List.length_nil, Nat.reduceAdd, Nat.reduceSub, Array.replicate_succ, Array.replicate_zero, List.push_toArray, List.append_toArray, List.nil_append, List.cons_append]
  gi_wp2
  go_ret
  exact ⟨rfl, rfl⟩

theorem roundIn_any {n m l l2 : Nat} {P : Program} {f : FuncId} {tmps : Array Value} {assign body : Code} {w : World} {R : Ending → World → Prop} (h : RoundIn Fence.wide n P l f tmps assign body w R) : RoundIn (Fence.wide.inRound l2) m P l f tmps assign body w R :=
  ⟨h.1, fun c cs _ => h.2 c cs (room_wide _)⟩

abbrev fndV (f : FoundT) : Value := .agg #[.int .i64 f.1, .int .i64 f.2.1, .int .i64 f.2.2.1, .int .i64 f.2.2.2.1, .int .i64 f.2.2.2.2]
/-- What is yielded. -/
def fndEnc (p : PicT) (c : Nat) (_g : Option Nat) (args : Array Value) (_W : World) : Prop := ∃ f, (foundL p)[c]? = some f ∧ args = #[fndV f]

set_option maxRecDepth 100000 in
set_option maxHeartbeats 8000000 in
theorem found_seq (nn : Nat) (hnn : 3 ≤ nn) (D : List Nat) (G : Nat → Prop) (bp hb ho hn hc n : Nat) (rv : Value) (p : PicT) (w0 w : World) (hx0 : Ext w0 w) (hD : bp ∉ D ∧ ∀ d ∈ D, w0.heap.size ≤ d ∧ d < w.heap.size) (hG : ¬ G bp ∧ ∀ r, G r → w0.heap.size ≤ r)
    (hbox : BoxAt bp (picC p hb ho hn hc rv) 28 w) (hH : HeadsAt w0 hb ho hn p.hs) (hR : readK.Is w0 rv p.rd) (hok : PicOk p n) :
    SeqG Fence.wide nn Tryz.prog 62 #[.pointer (some ⟨bp, 0, none⟩)] (foundL p).length (fndEnc p) D G w := by
  intro l J Jx W g0 hW hlW hlw hJg hJk hXk hY h0
  obtain ⟨Av, nv, cv, rfl, -, -, -⟩ := hR.open_
  have hbw := hbox.lt
  have HY := Lib.hid hY
  have HJG := Lib.hid hJg
  have HJK := Lib.hid hJk
  have HXK := Lib.hid hXk
  have HOK := Lib.hid hok
  have HH := Lib.hid hH
  have HRR := Lib.hid hR
  have HD := Lib.hid hD
  have HG := Lib.hid hG
  have HX0 := Lib.hid hx0
  have HB := Lib.hid (show BoxAt bp (picC p hb ho hn hc (.slice Av nv cv)) 28 W from hbox.ext (.of hW))
  have HX := Lib.hid (show Ext w0 W from hx0.trans (.of hW))
  have HSW := Lib.hid hW.size
  have HJ0 := Lib.hid h0
  have c0 := HB.out.cell (i := 0) rfl
  have c1 := HB.out.cell (i := 1) rfl
  have c2 := HB.out.cell (i := 2) rfl
  have c3 := HB.out.cell (i := 3) rfl
  have c4 := HB.out.cell (i := 4) rfl
  have c5 := HB.out.cell (i := 5) rfl
  have l0 := cell_lt c0
  have F63 : Fence.wide.fn 63 := trivial
  have HMI := Lib.hid fun W' => mounts_in Fence.wide (nn - 1) trivial rfl p hb ho hn hc Av nv cv W'
  clear hY hJg hJk hXk hok hH hR hbox hx0 hD hG h0 hW
  refine callsIn_of_wp_marks Tryz.func62 rfl trivial ?_ rfl
  simp only [Tryz.ntmps62, List.size_toArray, List.length_cons, List.length_nil, Nat.reduceAdd, Nat.reduceSub, Array.replicate_succ, Array.replicate_zero, List.push_toArray, List.append_toArray, List.nil_append, List.cons_append]
  gi_wp2
  refine ⟨fun _ => by omega, (HMI.out _).mono ?_⟩
  rintro e W2 ⟨rfl, hW2⟩
  gi_wp2
  rw [← hW2]
  have hx2 : Ext W W2 := by rw [hW2]; exact ((Ext.refl _).alloc _).alloc _
  have hs2 : W2.heap.size = W.heap.size + 1 + 1 := by rw [hW2]; simp
  have hyb : BoxAt W.heap.size #[.func (.yield l) #[] #[]] 113 W2 := by
    rw [hW2]
    exact (BoxAt.new W _ _).ext ((Ext.refl _).alloc _)
  have hpb : BoxAt (W.heap.size + 1) (picC p hb ho hn hc (.slice Av nv cv)) 28 W2 := by
    rw [hW2]
    have := BoxAt.new (W.alloc (.cells #[.func (.yield l) #[] #[]] 113)) (picC p hb ho hn hc (.slice Av nv cv)) 28
    simpa using this
  have HX2 := Lib.hid hx2
  have HS2 := Lib.hid hs2
  have HYB := Lib.hid hyb
  have HPB := Lib.hid hpb
  obtain ⟨yb, hybe⟩ : ∃ yb, yb = W.heap.size := ⟨_, rfl⟩
  rw [← hybe] at HYB HPB ⊢
  have HYE := Lib.hid hybe
  clear hW2 hx2 hs2 hyb hpb c0 c1 c2 c3 c4 c5 l0 hybe
  refine wpIn_range_g (N := p.hs.length * p.T) (mntEnc p n (yb + 1)) (fun x g A => J (fndN p x 0 0) g A ∧ BoxAt yb #[.func (.yield l) #[] #[]] 113 A ∧ BoxAt bp (picC p hb ho hn hc (.slice Av nv cv)) 28 A ∧ ∀ r, g = some r → r ≠ yb ∧ r ≠ yb + 1) Jx (l :: D) (fun r => G r ∧ r ≠ yb + 1) g0 rfl (by omega) (gf := 80) (lb := #[.pointer (some ⟨yb + 1, 0, none⟩)]) rfl trivial (enters_of Tryz.func80 (by kernel_rfl) rfl)
    (mounts_seq (nn - 1) (by omega) (l :: D) (fun r => G r ∧ r ≠ yb + 1) (yb + 1) hb ho hn hc n (.slice Av nv cv) p w0 W2 (HX.out.trans HX2.out) ⟨?dD1, ?dD2⟩ ⟨fun h => h.2 rfl, fun r h => HG.out.2 r h.1⟩ HPB.out HH.out HRR.out HOK.out) ?hps ?hD ?hIk ?hIg ?hXk ?h0 ?Ax ?hAx ?assign ?body ?done ?stop
  case dD1 =>
    intro h
    have h1 := HYE.out
    rcases List.mem_cons.1 h with h | h
    · omega
    · have := (HD.out.2 _ h).2
      have := HSW.out
      omega
  case dD2 =>
    intro d h
    have h2 := HX0.out.bel.size
    rcases List.mem_cons.1 h with h | h
    · omega
    · exact (HD.out.2 d h).1
  case hps =>
    rintro x g args A ⟨M, B, rfl, _⟩
    rfl
  case hD =>
    intro d h
    have h1 := HS2.out
    rcases List.mem_cons.1 h with h | h
    · omega
    · have := (HD.out.2 d h).2
      have := HSW.out
      omega
  case hIk =>
    rintro c g A E ⟨h1, h2, h3, h4⟩ hk
    have e1 := HS2.out
    have e2 := HYE.out
    have e3 := HSW.out
    exact ⟨HJK.out _ _ _ _ h1 (hk.mono (by omega)), (hk.block _ h2.lt (.inl (by omega))).trans h2, (hk.block _ h3.lt (.inl (by omega))).trans h3, h4⟩
  case hIg =>
    rintro c g A ⟨h1, -, -, h5⟩ r e
    obtain ⟨h2, o, h3, h4⟩ := HJG.out _ _ _ h1 r e
    exact ⟨⟨h2, (h5 r e).2⟩, o, h3, h4⟩
  case hXk =>
    intro A E h hk
    have e1 := HS2.out
    exact HXK.out _ _ h (hk.mono (by omega))
  case h0 => exact ⟨by rw [off_start]; exact HJK.out _ _ _ _ HJ0.out (Keep.of_ext HX2.out), HYB.out, HB.out.ext HX2.out, fun r e => by obtain ⟨-, o, h3, -⟩ := HJG.out _ _ _ HJ0.out r e; have := (Array.getElem?_eq_some_iff.1 h3).1; have := HYE.out; omega⟩
  case Ax => exact fun x g a' Z => ∃ bm M B, (B ≤ bm ∧ B ≤ M ∧ (∀ r, g = some r → r < B) ∧ yb + 1 < B) ∧ BoxAt bm #[.int .i64 ((x / p.T : Nat) : Int), .int .i64 ((p.tl + x % p.T : Nat) : Int), .map (some M)] 119 Z ∧ BasesAt n B (p.base (x / p.T) (p.tl + x % p.T)) M Z ∧
    a' = { tmps := #[.func (.yield l) #[] #[], .pointer (some ⟨bp, 0, none⟩), .pointer (some ⟨yb, 0, none⟩), .pointer (some ⟨bm, 0, none⟩), undef, undef, undef, .agg (picC p hb ho hn hc (.slice Av nv cv)), .func (.func 80) #[] #[.pointer (some ⟨yb + 1, 0, none⟩)],
      .agg #[.int .i64 ((x / p.T : Nat) : Int), .int .i64 ((p.tl + x % p.T : Nat) : Int), .map (some M)]] ++ (List.replicate 30 undef).toArray, defers := [] }
  case hAx =>
    rintro x g a' Z l' o' hl' ⟨r, hr⟩ ⟨bm, M, B, h1, h2, h3, h4⟩
    refine ⟨bm, M, B, h1, (World.putObj_heap_other ?_).trans h2, bases_put hr h3, h4⟩
    rintro rfl
    rw [h2] at hr
    cases hr
  case assign =>
    rintro l2 x g args A K hx ⟨hj, -, -, -⟩ ⟨M, B, rfl, ⟨hM, hBp⟩, hgB, hBs⟩ hsz hK
    gi_wp2
    refine hK _ _ (by (repeat' (first | with_reducible exact Ext.refl _ | with_reducible apply Ext.alloc | with_reducible apply Ext.drew | with_reducible apply Ext.drewN | with_reducible refine Ext.setCell ?_ ?_ _ | with_reducible apply Ext.step | with_reducible assumption | with_reducible exact Nat.le_refl _ | (simp; done) | (simp; omega)))) ⟨A.heap.size, M, B, ⟨?b1, hM, hgB, hBp⟩, BoxAt.new A _ _, hBs.ext ((Ext.refl _).alloc _), by simp [List.replicate]⟩
    case b1 => have := hBs.lt; omega
  case body =>
    rintro l2 x g a' Z hl2 - hx ⟨hj, hy, hp, hgn⟩ ⟨bm, M, B, ⟨hbm, hM, hgB, hyB⟩, hbx, hBs, rfl⟩
    have HJZ := Lib.hid hj
    have HYZ := Lib.hid hy
    have HPZ := Lib.hid hp
    have HGN := Lib.hid hgn
    have HGB := Lib.hid hgB
    have HBX := Lib.hid hbx
    have HBS := Lib.hid hBs
    have d3 := hp.cell (i := 3) rfl
    have ld := cell_lt d3
    obtain ⟨xi, hxi⟩ : ∃ xi, xi = x / p.T := ⟨_, rfl⟩
    obtain ⟨xt, hxt⟩ : ∃ xt, xt = p.tl + x % p.T := ⟨_, rfl⟩
    rw [← hxi, ← hxt]
    have HXI := Lib.hid hxi
    have HXT := Lib.hid hxt
    clear hj hy hp hgn hgB hbx hBs hxi hxt
    gi_wp2
    clear d3 ld
    gi_loopw [4] (fun av wr => ∃ (k : Nat) (g' : Option Nat), k ≤ p.A ∧ av = .int .i64 (p.al + k) ∧ J (fndN p x k 0) g' wr ∧ (BoxAt yb #[.func (.yield l) #[] #[]] 113 wr ∧ BoxAt bp (picC p hb ho hn hc (.slice Av nv cv)) 28 wr) ∧ (∀ r, g' = some r → r ≠ yb ∧ r ≠ yb + 1) ∧
      Mid B Z wr ∧ (Nxt Z g g' ∧ But (g.toList ++ (l :: D)) Z wr)) (fun av _ => (p.al + p.A - (match av with | .int _ v => v | _ => 0)).toNat)
    case atStart => exact ⟨0, g, Nat.zero_le _, by simp, HJZ.out, ⟨HYZ.out, HPZ.out⟩, HGN.out, Mid.refl _ _, Nxt.refl _ _, But.refl _ _⟩
    case round =>
      obtain ⟨k, g', hk, rfl, hj, ⟨hy, hp⟩, hgn, hmid, hnx, hbt⟩ := hrel
      have HJR := Lib.hid hj
      have HYR := Lib.hid hy
      have HPR := Lib.hid hp
      have HGR := Lib.hid hgn
      have HMR := Lib.hid hmid
      have HNR := Lib.hid hnx
      have HBR := Lib.hid hbt
      have d4 := hp.cell (i := 4) rfl
      have ld := cell_lt d4
      have hAe : p.al + (p.A : Int) = p.au + 1 := by have := HOK.out.a.2.1; unfold PicT.A; omega
      clear hj hy hp hgn hmid hnx hbt
      by_cases hkA : k < p.A
      · have hle : p.al + (k : Int) ≤ p.au := by omega
        have hadv : -1000 ≤ p.al + (k : Int) ∧ p.al + (k : Int) ≤ 1000 := by have := HOK.out.a; omega
        have hbxr := HMR.out.box hbm HBX.out
        have b0 := hbxr.cell (i := 0) rfl
        have b1 := hbxr.cell (i := 1) rfl
        have b2 := hbxr.cell (i := 2) rfl
        have lb := cell_lt b0
        have HST := Lib.hid (starts_any n B M (p.base xi xt) (xi : Int) (xt : Int) (p.al + k) wr (by rw [HXI.out, HXT.out]; exact HMR.out.bases hM HBS.out) HOK.out.n1 (base_inv HOK.out ?q1 ?q2) hadv)
        case q1 => rw [HXI.out]; exact Nat.div_lt_of_lt_mul (by rw [Nat.mul_comm]; exact hx)
        case q2 =>
          have h1 := HOK.out.t
          have h2 : x % p.T < p.T := Nat.mod_lt _ (by unfold PicT.T; omega)
          have h3 := HXT.out
          unfold PicT.T at h2 h3
          omega
        clear hbxr
        rw [← HXI.out] at b0
        rw [← HXT.out] at b1
        gi_wp2
        refine ⟨trivial, fun _ => by omega, (CallsIn.inRound l2 (callsIn_wide.2 HST.out)).mono ?_⟩
        rintro e w1 ⟨u, ls, rfl, ou, hst, x1⟩
        have HLS := Lib.hid hst.eq
        have HBD := Lib.hid hst.bd
        obtain ⟨Au, ku, cu, rfl, hku, -⟩ := ou.is.open_
        have HOU := Lib.hid ou
        have HX1 := Lib.hid x1
        have HKU := Lib.hid hku
        have HJ1 := Lib.hid (HJK.out _ _ _ _ HJR.out (Keep.of_ext x1))
        clear b0 b1 b2 lb d4 ld ou hst x1 hku
        gi_wp2
        obtain ⟨Zo, hZo⟩ : ∃ Zo, Zo = w1 := ⟨_, rfl⟩
        rw [← hZo]
        have HZO := Lib.hid hZo
        clear hZo
        gi_loopw [22] (fun qv wq => ∃ (q : Nat) (g2 : Option Nat), q ≤ ku ∧ qv = .int .i64 (q : Int) ∧ J (fndN p x k q) g2 wq ∧ (BoxAt yb #[.func (.yield l) #[] #[]] 113 wq ∧ BoxAt bp (picC p hb ho hn hc (.slice Av nv cv)) 28 wq) ∧ (∀ r, g2 = some r → r ≠ yb ∧ r ≠ yb + 1) ∧
          (Mid B Z wq ∧ Mid wr.heap.size w1 wq) ∧ ((Nxt Z g g2 ∧ Nxt w1 g' g2) ∧ But (g.toList ++ (l :: D)) Z wq)) (fun qv _ => ku - (intOf qv).toNat)
        case atStart => exact ⟨0, g', Nat.zero_le _, rfl, by rw [HZO.out]; exact HJ1.out, by rw [HZO.out]; exact ⟨HYR.out.ext HX1.out, HPR.out.ext HX1.out⟩, HGR.out, by rw [HZO.out]; exact ⟨HMR.out.ext HX1.out, Mid.refl _ _⟩, by rw [HZO.out]; exact ⟨⟨HNR.out, Nxt.refl _ _⟩, HBR.out.ext HX1.out⟩⟩
        case round =>
          obtain ⟨q, g2, hq, rfl, hj, ⟨hy, hp⟩, hgn, ⟨hm1, hm2⟩, ⟨hn1, hn2⟩, hbt⟩ := hrel
          by_cases hqk : q < ku
          · have HJ2 := Lib.hid hj
            have HG2 := Lib.hid hgn
            have HN2 := Lib.hid (And.intro hn1 hn2)
            have HB2 := Lib.hid hbt
            have HM2 := Lib.hid (And.intro hm1 hm2)
            have HYP := Lib.hid (And.intro hy hp)
            have hol := hm2.own (Nat.le_refl _) HOU.out
            obtain ⟨gu, cu', heq, -⟩ := hol.slot (show q < ls.length by rw [HKU.out]; exact hqk)
            simp only [Value.slice.injEq] at heq
            obtain ⟨rfl, -, rfl⟩ := heq
            obtain ⟨⟨s0, s1⟩, -⟩ := spn_at hol HKU.out hqk
            have HF := Lib.hid (show fndN p x k q < (foundL p).length ∧ (foundL p)[fndN p x k q]? = some ((xi : Int), (xt : Int), p.al + k, (ls[q]?.getD (0, 0)).1, (ls[q]?.getD (0, 0)).2) from by
              have hl : advL p x k = ls.map fun s => ((xi : Int), (xt : Int), p.al + k, s.1, s.2) := by unfold advL; rw [← HXI.out, ← HXT.out, ← HLS.out]
              have hq2 : q < ls.length := by rw [HKU.out]; exact hqk
              obtain ⟨h1, h2⟩ := found_at (p := p) (x := x) (k := k) (q := q) hx hkA (by rw [hl, List.length_map]; exact hq2)
              refine ⟨h1, h2.trans ?_⟩
              rw [hl, List.getElem?_map, List.getElem?_eq_getElem hq2]
              rfl)
            obtain ⟨sa, hsa⟩ : ∃ z, z = (ls[q]?.getD (0, 0)).1 := ⟨_, rfl⟩
            obtain ⟨sb, hsb⟩ : ∃ z, z = (ls[q]?.getD (0, 0)).2 := ⟨_, rfl⟩
            rw [← hsa, ← hsb] at HF
            rw [← hsa] at s0
            rw [← hsb] at s1
            have ls0 := cell_lt s0
            have hbxr := hm1.box hbm HBX.out
            have b0 := hbxr.cell (i := 0) rfl
            have b1 := hbxr.cell (i := 1) rfl
            have lb := cell_lt b0
            have y0 := hy.cell (i := 0) rfl
            have ly := cell_lt y0
            have hqi : (q : Int) < (ku : Int) := by omega
            have hku1 : ku ≤ 10001 := by rw [← HKU.out]; exact HBD.out.1
            have wq1 : IntKind.i64.wrap ((q : Int) + 1) = (q : Int) + 1 := IntWalk.i64_in _ (by omega)
            rw [← HXI.out] at b0
            rw [← HXT.out] at b1
            have xs3 := (Ext.refl wr).alloc (.cells #[.int .i64 sa, .int .i64 sb] 123)
            have hJ3 := HJK.out _ _ _ _ hj (Keep.of_ext xs3)
            obtain ⟨fn, tmps, assign, body, hyd, hRd⟩ := HY.out (fndN p x k q) g2 #[fndV ((xi : Int), (xt : Int), p.al + k, sa, sb)] _ HF.out.1 hJ3 ⟨_, HF.out.2, rfl⟩
            have HRD := Lib.hid hRd
            clear hj hgn hn1 hn2 hbt hm1 hm2 hy hp hol hsa hsb hbxr xs3 hJ3 hRd
            gi_wp2
            refine ⟨fun _ => by omega, (roundIn_any HRD.out).mono ?_⟩
            rintro e w4 ⟨hb4, ⟨rfl, g4, hn4, h4⟩ | ⟨rfl, h4⟩⟩
            · have HFS := Lib.hid (show J (fndN p x k (q + 1)) g4 w4 from h4)
              have hyw := HYE.out
              have hsw := HSW.out
              have hyl := HYP.out.1.lt
              have hxa : Ext wr (wr.alloc (.cells #[.int .i64 sa, .int .i64 sb] 123)) := (Ext.refl _).alloc _
              have hsa := hxa.bel.size
              have hdl : ∀ d, d ∈ l :: D → d < yb := fun d hd => by
                rcases List.mem_cons.1 hd with h | h
                · omega
                · have := (HD.out.2 d h).2; omega
              have HY4 := Lib.hid ((HYP.out.1.ext hxa).but hb4 (fun h => by
                rcases List.mem_append.1 h with h | h
                · exact (HG2.out yb (by simpa using h)).1 rfl
                · have := hdl _ h; omega))
              have HP4 := Lib.hid ((HYP.out.2.ext hxa).but hb4 (fun h => by
                rcases List.mem_append.1 h with h | h
                · exact HG.out.1 (HJG.out _ _ _ HJ2.out bp (by simpa using h)).1
                · rcases List.mem_cons.1 h with h | h
                  · omega
                  · exact HD.out.1 h))
              have HG4 := Lib.hid (show ∀ r, g4 = some r → r ≠ yb ∧ r ≠ yb + 1 from fun r e => by
                rcases hn4 with e2 | e2
                · exact HG2.out r (by rw [← e2]; exact e)
                · have := e2 r e; omega)
              have HM4 := Lib.hid (And.intro ((HM2.out.1.ext hxa).but hb4 (fun d hd => by
                rcases List.mem_append.1 hd with h | h
                · have h' : g2 = some d := by simpa using h
                  rcases HN2.out.1 with e2 | e2
                  · exact .inl (HGB.out d (by rw [← e2]; exact h'))
                  · exact .inr (e2 d h')
                · have := hdl _ h; left; omega)) ((HM2.out.2.ext hxa).but hb4 (fun d hd => by
                rcases List.mem_append.1 hd with h | h
                · have h' : g2 = some d := by simpa using h
                  rcases HN2.out.2 with e2 | e2
                  · obtain ⟨-, o, h5, -⟩ := HJG.out _ _ _ HJR.out d (by rw [← e2]; exact h')
                    exact .inl (Array.getElem?_eq_some_iff.1 h5).1
                  · exact .inr (e2 d h')
                · have := hdl _ h; have := HYR.out.lt; left; omega)))
              have HN4 := Lib.hid (And.intro (HN2.out.1.trans (Nat.le_trans HM2.out.1.size hsa) hn4) (HN2.out.2.trans (Nat.le_trans HM2.out.2.size hsa) hn4))
              have HB4 := Lib.hid (but_nxt (HB2.out.ext hxa) HN2.out.1 hb4)
              clear h4 hb4 hn4 hyw hsw hyl hxa hsa hdl s0 s1 ls0 b0 b1 lb y0 ly hyd
              gi_wp2
              go_roundw
              case rel => exact ⟨q + 1, g4, by omega, by go_num, HFS.out, ⟨HY4.out, HP4.out⟩, HG4.out, HM4.out, HN4.out, HB4.out⟩
              case measure => simp [intOf]; omega
            · have HB4 := Lib.hid (but_nxt (HB2.out.ext ((Ext.refl wr).alloc (.cells #[.int .i64 sa, .int .i64 sb] 123))) HN2.out.1 hb4)
              have HX4 := Lib.hid h4
              clear h4 hb4 s0 s1 ls0 b0 b1 lb y0 ly hyd
              gi_wp2
              exact ⟨HB4.out, HX4.out⟩
          · obtain rfl : q = ku := by omega
            have HJ2 := Lib.hid (show J (fndN p x (k + 1) 0) g2 _ by
              have e : (advL p x k).length = q := by unfold advL; rw [List.length_map, ← HXI.out, ← HXT.out, ← HLS.out, HKU.out]
              rw [← off_adv, e]
              exact hj)
            have HY2 := Lib.hid hy
            have HP2 := Lib.hid hp
            have HG2 := Lib.hid hgn
            have HM2 := Lib.hid hm1
            have HN2 := Lib.hid hn1
            have HB2 := Lib.hid hbt
            have wk : IntKind.i64.wrap (p.al + (k : Int) + 1) = p.al + (k : Int) + 1 := IntWalk.i64_in _ (by omega)
            clear hj hy hp hgn hm1 hm2 hn1 hn2 hbt
            gi_wp2
            go_roundw
            case rel => exact ⟨k + 1, g2, by omega, by congr 1; omega, HJ2.out, ⟨HY2.out, HP2.out⟩, HG2.out, HM2.out, HN2.out, HB2.out⟩
            case measure => simp; omega
      · obtain rfl : k = p.A := by omega
        have hle : ¬ (p.al + (p.A : Int) ≤ p.au) := by omega
        have HJ2 := Lib.hid (show J (fndN p (x + 1) 0 0) g' wr by rw [← off_row]; exact HJR.out)
        clear hAe
        gi_wp2
        exact ⟨HBR.out, g', HNR.out, HJ2.out, HYR.out, HPR.out, HGR.out⟩
  case done =>
    rintro M g A hM ⟨hj, -⟩ hmark
    have HJ := Lib.hid (show J (foundL p).length g A by rw [← off_end]; exact hj)
    clear hj
    gi_wp2
    refine leaves_marks [M] _ (by simp) (mark_one hmark) (fun W' hW => ⟨.tuple #[], by simp [results, Tryz.results62, go_sem], ⟨_, rfl⟩, .inl ⟨g, HJK.out _ _ _ _ HJ.out (keep_putAt hW fun d hd => ?_)⟩⟩)
    obtain rfl := List.mem_singleton.1 hd
    refine ⟨by have := HS2.out; omega, fun e => ?_⟩
    obtain ⟨-, o, h3, h4⟩ := HJG.out _ _ _ HJ.out _ e
    rw [hmark] at h3
    cases h3
    cases h4
  case stop =>
    intro M A hM hx hmark
    refine leaves_marks [M] _ (by simp) (mark_one hmark) (fun W' hW => ⟨.tuple #[], by simp [results, Tryz.results62, go_sem], ⟨_, rfl⟩, .inr (HXK.out _ _ hx (keep_putAt hW fun d hd => ?_))⟩)
    obtain rfl := List.mem_singleton.1 hd
    exact ⟨by have := HS2.out; omega, by simp⟩
end Go.Proofs.YtkjgcmdabelohaaGreat
