/- Spans of numbers: lists in order, none of which touch; unions and meets in plain words. No program. No condition. -/
/- What read.union does before it sorts: Clone, IndexFunc and DeleteFunc over spans. Condition: the slice reads as a list. -/
/- read.meet: what two lists of spans have in common. Condition: the slices read as lists. -/
import Derived.Test.YtkjgcmdabelohaaGreatMAcc
import Derived.Test.YtkjgcmdabelohaaGreatMKind
import Derived.Lib.SliceRun
import Derived.Maps.AppendAt
import Derived.Deep.Upon
namespace Go.Proofs.YtkjgcmdabelohaaGreat

abbrev Spn := Int × Int
def InS (l : List Spn) (x : Int) : Prop := ∃ s ∈ l, s.1 ≤ x ∧ x ≤ s.2
/-- Spans in order, none of which touch. -/
structure Canon (l : List Spn) : Prop where
  ne : ∀ s ∈ l, s.1 ≤ s.2
  pw : l.Pairwise fun s t => s.2 + 1 < t.1
theorem Canon.nil : Canon [] := ⟨by simp, List.Pairwise.nil⟩
theorem Canon.tail {s : Spn} {l : List Spn} (h : Canon (s :: l)) : Canon l := ⟨fun t ht => h.ne t (List.mem_cons_of_mem _ ht), (List.pairwise_cons.1 h.pw).2⟩
theorem Canon.head {s : Spn} {l : List Spn} (h : Canon (s :: l)) : s.1 ≤ s.2 ∧ ∀ t ∈ l, s.2 + 1 < t.1 := ⟨h.ne s (by simp), (List.pairwise_cons.1 h.pw).1⟩
theorem inS_cons {s : Spn} {l : List Spn} {x : Int} : InS (s :: l) x ↔ (s.1 ≤ x ∧ x ≤ s.2) ∨ InS l x := by simp [InS]
theorem inS_nil {x : Int} : ¬ InS [] x := by simp [InS]
theorem inS_append {a b : List Spn} {x : Int} : InS (a ++ b) x ↔ InS a x ∨ InS b x := by
  unfold InS
  constructor
  · rintro ⟨s, hs, h⟩
    rcases List.mem_append.1 hs with h1 | h1
    · exact .inl ⟨s, h1, h⟩
    · exact .inr ⟨s, h1, h⟩
  · rintro (⟨s, hs, h⟩ | ⟨s, hs, h⟩)
    · exact ⟨s, List.mem_append.2 (.inl hs), h⟩
    · exact ⟨s, List.mem_append.2 (.inr hs), h⟩
theorem Canon.low {s : Spn} {l : List Spn} (h : Canon (s :: l)) {x : Int} (hx : InS (s :: l) x) : s.1 ≤ x := by
  obtain ⟨h1, h2⟩ := h.head
  rcases inS_cons.1 hx with h3 | ⟨t, ht, h3⟩
  · omega
  · have := h2 t ht; omega
/-- There is but one such list for a set. -/
theorem canon_eq : ∀ {a b : List Spn}, Canon a → Canon b → (∀ x, InS a x ↔ InS b x) → a = b
  | [], [], _, _, _ => rfl
  | [], t :: b, _, hb, h => by
    have := (h t.1).2 (inS_cons.2 (.inl ⟨Int.le_refl _, hb.head.1⟩))
    exact absurd this inS_nil
  | s :: a, [], ha, _, h => by
    have := (h s.1).1 (inS_cons.2 (.inl ⟨Int.le_refl _, ha.head.1⟩))
    exact absurd this inS_nil
  | s :: a, t :: b, ha, hb, h => by
    obtain ⟨s1, s2⟩ := ha.head
    obtain ⟨t1, t2⟩ := hb.head
    have e1 : s.1 = t.1 := by
      have h1 := hb.low ((h s.1).1 (inS_cons.2 (.inl ⟨Int.le_refl _, s1⟩)))
      have h2 := ha.low ((h t.1).2 (inS_cons.2 (.inl ⟨Int.le_refl _, t1⟩)))
      omega
    have e2 : s.2 = t.2 := by
      rcases Int.lt_trichotomy s.2 t.2 with hlt | he | hlt
      · have h1 := (h (s.2 + 1)).2 (inS_cons.2 (.inl ⟨by omega, by omega⟩))
        rcases inS_cons.1 h1 with h2 | ⟨u, hu, h2⟩
        · omega
        · have := s2 u hu; omega
      · exact he
      · have h1 := (h (t.2 + 1)).1 (inS_cons.2 (.inl ⟨by omega, by omega⟩))
        rcases inS_cons.1 h1 with h2 | ⟨u, hu, h2⟩
        · omega
        · have := t2 u hu; omega
    have est : s = t := Prod.ext e1 e2
    subst est
    congr 1
    refine canon_eq ha.tail hb.tail fun x => ?_
    constructor
    · rintro ⟨u, hu, h1⟩
      have h2 := s2 u hu
      rcases inS_cons.1 ((h x).1 (inS_cons.2 (.inr ⟨u, hu, h1⟩))) with h3 | h3
      · omega
      · exact h3
    · rintro ⟨u, hu, h1⟩
      have h2 := t2 u hu
      rcases inS_cons.1 ((h x).2 (inS_cons.2 (.inr ⟨u, hu, h1⟩))) with h3 | h3
      · omega
      · exact h3

/-- What two lists have in common, from a place in each on. -/
def meetAt (a b : List Spn) : Nat → Nat → Nat → List Spn
  | 0, _, _ => []
  | f + 1, i, k => if i < a.length ∧ k < b.length then
      (if max (a[i]?.getD (0, 0)).1 (b[k]?.getD (0, 0)).1 ≤ min (a[i]?.getD (0, 0)).2 (b[k]?.getD (0, 0)).2 then [(max (a[i]?.getD (0, 0)).1 (b[k]?.getD (0, 0)).1, min (a[i]?.getD (0, 0)).2 (b[k]?.getD (0, 0)).2)] else []) ++
      (if (a[i]?.getD (0, 0)).2 < (b[k]?.getD (0, 0)).2 then meetAt a b f (i + 1) k else meetAt a b f i (k + 1)) else []
def meetF (a b : List Spn) : List Spn := meetAt a b (a.length + b.length) 0 0
def meetR : List Spn → List Spn → List Spn
  | [], _ => []
  | _ :: _, [] => []
  | s :: a', t :: b' => (if max s.1 t.1 ≤ min s.2 t.2 then [(max s.1 t.1, min s.2 t.2)] else []) ++ (if s.2 < t.2 then meetR a' (t :: b') else meetR (s :: a') b')
termination_by a b => a.length + b.length
theorem meetAt_R (a b : List Spn) : ∀ (f i k : Nat), i ≤ a.length → k ≤ b.length → (a.length - i) + (b.length - k) ≤ f → meetAt a b f i k = meetR (a.drop i) (b.drop k)
  | 0, i, k, hi, hk, h => by
    rw [show i = a.length by omega, List.drop_length]
    simp [meetAt, meetR]
  | f + 1, i, k, hi, hk, h => by
    unfold meetAt
    by_cases h1 : i < a.length
    · by_cases h2 : k < b.length
      · rw [if_pos ⟨h1, h2⟩, List.drop_eq_getElem_cons h1, List.drop_eq_getElem_cons h2, meetR]
        have e1 : a[i]?.getD (0, 0) = a[i] := by rw [List.getElem?_eq_getElem h1, Option.getD_some]
        have e2 : b[k]?.getD (0, 0) = b[k] := by rw [List.getElem?_eq_getElem h2, Option.getD_some]
        rw [e1, e2, meetAt_R a b f (i + 1) k (by omega) hk (by omega), meetAt_R a b f i (k + 1) hi (by omega) (by omega), List.drop_eq_getElem_cons h1, List.drop_eq_getElem_cons h2]
      · rw [if_neg (fun e => h2 e.2), show b.drop k = [] by rw [show k = b.length by omega, List.drop_length], List.drop_eq_getElem_cons h1, meetR]
    · rw [if_neg (fun e => h1 e.1), show a.drop i = [] by rw [show i = a.length by omega, List.drop_length], meetR]
theorem meetF_R (a b : List Spn) : meetF a b = meetR a b := by
  have := meetAt_R a b (a.length + b.length) 0 0 (Nat.zero_le _) (Nat.zero_le _) (by omega)
  simpa [meetF] using this
theorem meetR_mem : ∀ {a b : List Spn} {u : Spn}, u ∈ meetR a b → ∃ s ∈ a, ∃ t ∈ b, u = (max s.1 t.1, min s.2 t.2) ∧ u.1 ≤ u.2
  | [], _, u, h => by simp [meetR] at h
  | _ :: _, [], u, h => by simp [meetR] at h
  | s :: a', t :: b', u, h => by
    rw [meetR] at h
    rcases List.mem_append.1 h with h1 | h1
    · split at h1
      · rename_i hc
        rw [List.mem_singleton] at h1
        exact ⟨s, by simp, t, by simp, h1, by rw [h1]; exact hc⟩
      · simp at h1
    · split at h1
      · obtain ⟨s', hs', t', ht', h2⟩ := meetR_mem h1
        exact ⟨s', List.mem_cons_of_mem _ hs', t', ht', h2⟩
      · obtain ⟨s', hs', t', ht', h2⟩ := meetR_mem h1
        exact ⟨s', hs', t', List.mem_cons_of_mem _ ht', h2⟩
termination_by a b => a.length + b.length
theorem meetR_canon : ∀ {a b : List Spn}, Canon a → Canon b → Canon (meetR a b)
  | [], _, _, _ => by rw [meetR]; exact Canon.nil
  | _ :: _, [], _, _ => by rw [meetR]; exact Canon.nil
  | s :: a', t :: b', ha, hb => by
    rw [meetR]
    obtain ⟨s1, s2⟩ := ha.head
    obtain ⟨t1, t2⟩ := hb.head
    have hrest : Canon (if s.2 < t.2 then meetR a' (t :: b') else meetR (s :: a') b') := by
      split
      · exact meetR_canon ha.tail hb
      · exact meetR_canon ha hb.tail
    split
    · rename_i hc
      refine ⟨fun u hu => ?_, ?_⟩
      · rcases List.mem_cons.1 hu with rfl | hu
        · exact hc
        · exact hrest.ne u hu
      · show List.Pairwise _ (_ :: _)
        refine List.pairwise_cons.2 ⟨fun u hu => ?_, hrest.pw⟩
        split at hu
        · obtain ⟨s', hs', t', ht', rfl, _⟩ := meetR_mem hu
          have := s2 s' hs'
          simp only
          omega
        · obtain ⟨s', hs', t', ht', rfl, _⟩ := meetR_mem hu
          have := t2 t' ht'
          simp only
          omega
    · exact hrest
termination_by a b => a.length + b.length
theorem meetR_in : ∀ {a b : List Spn}, Canon a → Canon b → ∀ x, InS (meetR a b) x ↔ InS a x ∧ InS b x
  | [], _, _, _, x => by rw [meetR]; simp [InS]
  | _ :: _, [], _, _, x => by rw [meetR]; simp [InS]
  | s :: a', t :: b', ha, hb, x => by
    rw [meetR, inS_append]
    obtain ⟨s1, s2⟩ := ha.head
    obtain ⟨t1, t2⟩ := hb.head
    have hh : InS (if max s.1 t.1 ≤ min s.2 t.2 then [(max s.1 t.1, min s.2 t.2)] else []) x ↔ (s.1 ≤ x ∧ x ≤ s.2) ∧ (t.1 ≤ x ∧ x ≤ t.2) := by
      split
      · rw [inS_cons]
        simp only [inS_nil, or_false]
        omega
      · simp only [inS_nil, false_iff]
        omega
    rw [hh, inS_cons, inS_cons]
    have hsa : InS a' x → s.2 + 1 < x := fun ⟨u, hu, h⟩ => by have := s2 u hu; omega
    have htb : InS b' x → t.2 + 1 < x := fun ⟨u, hu, h⟩ => by have := t2 u hu; omega
    split
    · rw [meetR_in ha.tail hb x, inS_cons]
      constructor
      · rintro (h | ⟨h1, h2⟩)
        · exact ⟨.inl h.1, .inl h.2⟩
        · exact ⟨.inr h1, h2⟩
      · rintro ⟨h1 | h1, h2 | h2⟩
        · exact .inl ⟨h1, h2⟩
        · have := htb h2; omega
        · exact .inr ⟨h1, .inl h2⟩
        · exact .inr ⟨h1, .inr h2⟩
    · rw [meetR_in ha hb.tail x, inS_cons]
      constructor
      · rintro (h | ⟨h1, h2⟩)
        · exact ⟨.inl h.1, .inl h.2⟩
        · exact ⟨h1, .inr h2⟩
      · rintro ⟨h1 | h1, h2 | h2⟩
        · exact .inl ⟨h1, h2⟩
        · exact .inr ⟨.inl h1, h2⟩
        · have := hsa h1; omega
        · exact .inr ⟨.inr h1, h2⟩
termination_by a b => a.length + b.length

/-- One more span, none of which begins earlier. -/
def stepU (out : List Spn) (s : Spn) : List Spn := match out.getLast? with
  | none => [s]
  | some u => if s.1 ≤ u.2 + 1 then out.dropLast ++ [(u.1, max u.2 s.2)] else out ++ [s]
def unionF (l : List Spn) : List Spn := l.foldl stepU []
theorem getLast?_split {out : List Spn} {u : Spn} (h : out.getLast? = some u) : out = out.dropLast ++ [u] := by
  obtain ⟨ys, rfl⟩ := List.getLast?_eq_some_iff.1 h
  simp
theorem stepU_ok {out : List Spn} {s : Spn} (hc : Canon out) (hs : s.1 ≤ s.2) (hl : ∀ u ∈ out, u.1 ≤ s.1) : Canon (stepU out s) ∧ (∀ x, InS (stepU out s) x ↔ InS out x ∨ (s.1 ≤ x ∧ x ≤ s.2)) ∧ ∀ u ∈ stepU out s, u.1 ≤ s.1 := by
  unfold stepU
  cases h : out.getLast? with
  | none =>
    have e : out = [] := List.getLast?_eq_none_iff.1 h
    subst e
    refine ⟨⟨by simpa using hs, by simp⟩, fun x => ?_, by simp⟩
    simp [InS]
  | some u =>
    have e := getLast?_split h
    obtain ⟨ini, hini⟩ : ∃ ini, ini = out.dropLast := ⟨_, rfl⟩
    rw [← hini] at e ⊢
    subst e
    have hpw := List.pairwise_append.1 hc.pw
    have hu1 := hc.ne u (by simp)
    have hus := hl u (by simp)
    have hiu : ∀ v ∈ ini, v.2 + 1 < u.1 := fun v hv => hpw.2.2 v hv u (by simp)
    simp only
    split
    · rename_i hle
      refine ⟨⟨fun v hv => ?_, ?_⟩, fun x => ?_, fun v hv => ?_⟩
      · rcases List.mem_append.1 hv with h1 | h1
        · exact hc.ne v (List.mem_append.2 (.inl h1))
        · rw [List.mem_singleton] at h1
          subst h1
          simp only
          omega
      · refine List.pairwise_append.2 ⟨hpw.1, by simp, fun v hv w hw => ?_⟩
        rw [List.mem_singleton] at hw
        subst hw
        exact hiu v hv
      · rw [inS_append, inS_append, inS_cons, inS_cons]
        simp only [inS_nil, or_false]
        constructor
        · rintro (h1 | h1)
          · exact .inl (.inl h1)
          · by_cases h2 : x ≤ u.2
            · exact .inl (.inr ⟨h1.1, h2⟩)
            · exact .inr ⟨by omega, by omega⟩
        · rintro ((h1 | h1) | h1)
          · exact .inl h1
          · exact .inr ⟨h1.1, by omega⟩
          · exact .inr ⟨by omega, by omega⟩
      · rcases List.mem_append.1 hv with h1 | h1
        · exact hl v (List.mem_append.2 (.inl h1))
        · rw [List.mem_singleton] at h1
          subst h1
          exact hus
    · rename_i hgt
      refine ⟨⟨fun v hv => ?_, ?_⟩, fun x => ?_, fun v hv => ?_⟩
      · rcases List.mem_append.1 hv with h1 | h1
        · exact hc.ne v h1
        · rw [List.mem_singleton] at h1
          subst h1
          exact hs
      · refine List.pairwise_append.2 ⟨hc.pw, by simp, fun v hv w hw => ?_⟩
        rw [List.mem_singleton] at hw
        subst hw
        rcases List.mem_append.1 hv with h1 | h1
        · have := hiu v h1; omega
        · rw [List.mem_singleton] at h1
          subst h1
          omega
      · rw [inS_append, inS_cons]
        simp only [inS_nil, or_false]
      · rcases List.mem_append.1 hv with h1 | h1
        · exact hl v h1
        · rw [List.mem_singleton] at h1
          subst h1
          exact Int.le_refl _
theorem fold_ok : ∀ {l out : List Spn}, Canon out → (∀ s ∈ l, s.1 ≤ s.2) → (l.Pairwise fun s t => s.1 ≤ t.1) → (∀ u ∈ out, ∀ s ∈ l, u.1 ≤ s.1) →
    Canon (l.foldl stepU out) ∧ ∀ x, InS (l.foldl stepU out) x ↔ InS out x ∨ InS l x
  | [], out, hc, _, _, _ => ⟨hc, fun x => by simp [InS]⟩
  | s :: l, out, hc, hn, hp, hl => by
    obtain ⟨h1, h2, h3⟩ := stepU_ok hc (hn s (by simp)) (fun u hu => hl u hu s (by simp))
    obtain ⟨p1, p2⟩ := List.pairwise_cons.1 hp
    obtain ⟨r1, r2⟩ := fold_ok (l := l) h1 (fun t ht => hn t (List.mem_cons_of_mem _ ht)) p2 (fun u hu t ht => Int.le_trans (h3 u hu) (p1 t ht))
    refine ⟨r1, fun x => ?_⟩
    rw [List.foldl_cons, r2, h2, inS_cons, or_assoc]
/-- A sorted list's union: in order, and the same set. -/
theorem union_ok {l : List Spn} (hn : ∀ s ∈ l, s.1 ≤ s.2) (hp : l.Pairwise fun s t => s.1 ≤ t.1) : Canon (unionF l) ∧ ∀ x, InS (unionF l) x ↔ InS l x := by
  obtain ⟨h1, h2⟩ := fold_ok (l := l) (out := []) Canon.nil hn hp (by simp)
  exact ⟨h1, fun x => by rw [unionF, h2]; simp [InS]⟩
/-- The spans of a row that are not empty are what it holds. -/
theorem inS_filter {l : List Spn} {x : Int} : InS (l.filter fun s => decide (s.1 ≤ s.2)) x ↔ InS l x := by
  unfold InS
  constructor
  · rintro ⟨s, hs, h⟩
    exact ⟨s, (List.mem_filter.1 hs).1, h⟩
  · rintro ⟨s, hs, h⟩
    exact ⟨s, List.mem_filter.2 ⟨hs, by rw [decide_eq_true_iff]; omega⟩, h⟩
theorem inS_perm {a b : List Spn} (h : a.Perm b) {x : Int} : InS a x ↔ InS b x := by
  unfold InS
  exact ⟨fun ⟨s, hs, h1⟩ => ⟨s, h.mem_iff.1 hs, h1⟩, fun ⟨s, hs, h1⟩ => ⟨s, h.mem_iff.2 hs, h1⟩⟩

/-- The Starts that fit, as a set. -/
def StS (F : Int → List Spn) (ad : Int) (C : Int → Prop) (x : Int) : Prop := (0 ≤ x ∧ x ≤ 10000) ∧ ∀ c, C c → ∃ s ∈ F c, s.1 - c * ad ≤ x ∧ x ≤ s.2 - c * ad
structure StartsIs (F : Int → List Spn) (ad : Int) (l : List Spn) : Prop where
  can : Canon l
  set : ∀ x, InS l x ↔ StS F ad (fun c => F c ≠ []) x
theorem StartsIs.uniq {F : Int → List Spn} {ad : Int} {a b : List Spn} (ha : StartsIs F ad a) (hb : StartsIs F ad b) : a = b := canon_eq ha.can hb.can fun x => (ha.set x).trans (hb.set x).symm
open Classical in
noncomputable def startsL (F : Int → List Spn) (ad : Int) : List Spn := if h : ∃ l, StartsIs F ad l then Classical.choose h else []
theorem StartsIs.eq {F : Int → List Spn} {ad : Int} {l : List Spn} (h : StartsIs F ad l) : l = startsL F ad := by
  unfold startsL
  rw [dif_pos ⟨l, h⟩]
  exact h.uniq (Classical.choose_spec (p := fun l => StartsIs F ad l) ⟨l, h⟩)
end Go.Proofs.YtkjgcmdabelohaaGreat

namespace Go.Proofs.YtkjgcmdabelohaaGreat
open Go.RowKit

abbrev spanV (a b : Int) : Value := .agg #[.int .i64 a, .int .i64 b]
/-- A span that is not empty. -/
def okS (s : Int × Int) : Bool := decide (s.1 ≤ s.2)
section
variable {α : Type} {K : EK α}
theorem EK.Is.flatL {w : World} {ad : Addr} {m c : Nat} {xs : List α} (h : K.Is w (.slice (some ad) m c) xs) : ∀ j u, (xs.flatMap K.enc)[j]? = some u → w.cell? (ad.add j) = some u := by
  intro j u hj
  obtain ⟨A, c', he, _, _, hr⟩ := h
  simp only [Value.slice.injEq] at he
  obtain ⟨rfl, rfl, rfl⟩ := he
  have hp := K.pos
  have hlt : j < xs.length * K.k := by
    rw [← flat_len K xs]
    exact (List.getElem?_eq_some_iff.1 hj).1
  have hq : j / K.k < xs.length := Nat.div_lt_of_lt_mul (by rw [Nat.mul_comm]; exact hlt)
  have hi : j % K.k < K.k := Nat.mod_lt _ hp
  have hj' : j / K.k * K.k + j % K.k = j := by rw [Nat.mul_comm]; exact Nat.div_add_mod j K.k
  obtain ⟨b, o, hA, _, hc⟩ := hr (j / K.k) hq
  simp only [Option.some.injEq] at hA
  subst hA
  rw [← hj', flat_at K xs _ hq _ hi] at hj
  have := hc _ _ hj
  rw [Nat.add_assoc, hj'] at this
  simp only [Addr.add]
  split
  · rename_i h0
    subst h0
    exact this
  · exact this

theorem EK.appAllL {w : World} {ops : Array Oper} {rest : List Oper} {o : Oper} {a : Act} {Q : Exit → Act → World → Prop} (hgd : o.guard = none) (s x : Operand)
    (ho : o.op = .call { callee := .builtin .append, args := #[s, x], argTypes := #[K.st, K.st] })
    {B : Nat} {v : Value} {xs ys : List α} {A : Option Addr} {m c : Nat} (hs : a.eval s = v) (hx : a.eval x = .slice A m c)
    (hu : K.Is w (.slice A m c) ys) (hown : K.Own B w v xs) (hB : B ≤ w.heap.size) (hlen : xs.length + ys.length ≤ 1000000000)
    (h : ∀ v' w', K.Own B w' v' (xs ++ ys) → Below B w w' → w.grownBy w' v.ownBlock → wpList Tryz.prog ops Q rest (a.put o.dst v') w') : wpList Tryz.prog ops Q (o :: rest) a w := by
  obtain ⟨i0, hi, hz0, hz1, hz2⟩ := info_parts K.info
  have hsm := K.small
  have hm : m = ys.length := by
    obtain ⟨_, _, he, _⟩ := hu
    simp only [Value.slice.injEq] at he
    exact he.2.1
  match A with
  | none =>
    obtain ⟨A', c', he, h0, _, hr⟩ := hu
    simp only [Value.slice.injEq] at he
    obtain ⟨rfl, -, rfl⟩ := he
    have hy : ys = [] := by
      rcases ys with _ | ⟨y, ys⟩
      · rfl
      · obtain ⟨_, _, he, _⟩ := hr 0 (by simp)
        cases he
    subst hy
    obtain rfl := h0 rfl
    subst hm
    refine wpList_append_own_none hgd s x K.st ho B K.ty i0 K.k K.und hi v _ _ hs hown hx (h v w (by simpa using hown) (Below.refl B w) ⟨rfl, rfl, rfl, Nat.le_refl _, fun _ _ _ => rfl⟩)
  | some ad =>
    have hf := hu.flatL
    refine wpList_append_own w hgd s x K.st ho B K.ty i0 K.z K.k K.bytes K.und hi hz0 hz1 hz2 K.hzs K.pos v _ _ hs hown ad m c (ys.flatMap K.enc) hx (by rw [flat_len, hm]) hf (fun u hu => ?_) (by simp only [maxLen]; omega) ?_ hB (fun v' w' h1 h2 _ => h v' w' (by simpa [EK.Own, hm] using h1) ?_ h2)
    · obtain ⟨y, _, hy⟩ := List.mem_flatMap.1 hu
      exact K.one y u hy
    · exact Nat.le_trans (Nat.mul_le_mul (show xs.length + m ≤ 1000000000 by omega) hsm) (by decide)
    · exact (Below.refl B w).grown h2 hB fun k hk => (World.ownsRow.lt hown k hk).1

end


theorem flat_take {α : Type} (K : EK α) : ∀ (xs : List α) (k : Nat), (xs.take k).flatMap K.enc = (xs.flatMap K.enc).take (k * K.k)
  | [], k => by simp
  | x :: xs, 0 => by simp
  | x :: xs, k + 1 => by
    rw [List.take_succ_cons, List.flatMap_cons, List.flatMap_cons, flat_take K xs k, Nat.succ_mul, List.take_append, List.take_of_length_le (l := K.enc x) (by rw [K.len]; omega), K.len, show k * K.k + K.k - K.k = k * K.k by omega]
/-- The first elements of an own slice are an own slice. -/
theorem own_take {α : Type} {K : EK α} {B g n c k : Nat} {w : World} {zs : List α} (ho : K.Own B w (.slice (some ⟨g, 0, none⟩) n c) zs) (hz : zs.length = n) (hk : k ≤ n) : K.Own B w (.slice (some ⟨g, 0, none⟩) k c) (zs.take k) := by
  subst hz
  rcases ho.2 with ⟨e0, _⟩ | ⟨g', cap', cur, e0, hb, hg, hn, hm, hs, ht⟩
  · cases e0
  · injection e0 with e1 e2 e3
    injection e1 with e1
    injection e1 with e1
    subst e1 e3
    have hl : (zs.take k).length = k := by rw [List.length_take]; omega
    refine ⟨by rw [flat_len], .inr ⟨g, c, cur, by rw [hl], hb, hg, by rw [hl]; omega, hm, hs, ?_⟩⟩
    rw [hl, flat_take, ← ht, List.take_take, Nat.min_eq_left (Nat.mul_le_mul_right _ hk)]
theorem own_beyond {α : Type} {K : EK α} {B g k c : Nat} {xs : List α} (hk : xs.length = k) : ∀ (vs : List Value) (o : Nat) (w : World), K.Own B w (.slice (some ⟨g, 0, none⟩) k c) xs → k * K.k ≤ o → K.Own B (w.setCells g o vs) (.slice (some ⟨g, 0, none⟩) k c) xs
  | [], _, _, h, _ => h
  | v :: r, o, w, h, ho => by
    refine own_beyond hk r (o + 1) (w.setCell ⟨g, o, none⟩ v) ?_ (by omega)
    subst hk
    have := (World.ownsRow.stored h o v).1
    rwa [List.set_eq_of_length_le (by rw [flat_len]; omega)] at this
theorem but_setCells {g o : Nat} {vs : List Value} {w : World} : But [g] w (w.setCells g o vs) := by
  induction vs generalizing o w with
  | nil => exact But.refl _ _
  | cons v r ih =>
    have h1 : But [g] w (w.setCell ⟨g, o, none⟩ v) := (But.refl _ _).setCell (by simp) _
    have h2 := ih (o := o + 1) (w := w.setCell ⟨g, o, none⟩ v)
    exact ⟨h2.os.trans h1.os, h2.tape.trans h1.tape, h2.output.trans h1.output, Nat.le_trans h1.size h2.size, fun i hi hd => (h2.block i (Nat.lt_of_lt_of_le hi h1.size) hd).trans (h1.block i hi hd)⟩
theorem spn_at {B g n c : Nat} {w : World} {zs : List (Int × Int)} (ho : spanK.Own B w (.slice (some ⟨g, 0, none⟩) n c) zs) (hz : zs.length = n) {j : Nat} (hj : j < n) :
    (w.cell? ⟨g, j * 2, none⟩ = some (.int .i64 (zs[j]?.getD (0, 0)).1) ∧ w.cell? ⟨g, j * 2 + 1, none⟩ = some (.int .i64 (zs[j]?.getD (0, 0)).2)) ∧ ∀ o, w.frozen? ⟨g, o, none⟩ = false := by
  have hj' : j < zs.length := by omega
  obtain ⟨g', c', he, _, _, h1, h2⟩ := ho.slot hj'
  cases he
  rw [List.getElem?_eq_getElem hj']
  exact ⟨⟨h1 0 _ rfl, h1 1 _ rfl⟩, h2⟩
theorem run_clear_spans (w : World) (g o n c : Nat) (hn : 0 < n) (hc : ∀ j, j < n * 2 → (w.cell? ⟨g, o + j, none⟩).isSome = true) (hf : ∀ j, w.frozen? ⟨g, j, none⟩ = false) :
    ∃ vs : List Value, ∀ ty : TypeId, (Builtin.clear_ #[120] ty #[.slice (some ⟨g, o, none⟩) n c]).run Tryz.prog w = .ok (.tuple #[]) (w.setCells g o vs) := by
  obtain ⟨m, rfl⟩ : ∃ m, n = m + 1 := ⟨n - 1, by omega⟩
  have hz : ∀ w, (zeroValue 123).run Tryz.prog w = .ok (.agg #[.int .i64 0, .int .i64 0]) w := Tryz.zeroValue123
  have hlen : (Builtin.zeroCells (Value.agg #[.int .i64 0, .int .i64 0]).cells (m + 1)).toList.length = (m + 1) * 2 := by simp [Builtin.zeroCells, Value.cells]
  have hst := run_storeCells_cells (P := Tryz.prog) g o (Builtin.zeroCells (Value.agg #[.int .i64 0, .int .i64 0]).cells (m + 1)).toList 0 w (by rw [hlen]; simpa using hc) (by rw [hlen]; intro j _; exact hf _) (by
    intro v hv
    simp only [Builtin.zeroCells, Value.cells, Array.toList_map, List.mem_map] at hv
    obtain ⟨i, _, rfl⟩ := hv
    have : ∀ q, q < 2 → Value.oneCell' ((#[Value.int .i64 0, Value.int .i64 0] : Array Value)[q]!) = true := by decide
    exact this _ (Nat.mod_lt _ (by decide)))
  simp only [Nat.add_zero] at hst
  exact ⟨(Builtin.zeroCells (Value.agg #[.int .i64 0, .int .i64 0]).cells (m + 1)).toList, fun ty => by simp [Builtin.clear_, run_underlying Tryz.underlying120, hz, hst]⟩

set_option maxHeartbeats 1000000 in
theorem cloneS_any (v : Value) (xs : List (Int × Int)) (w : World) (hI : spanK.Is w v xs) (hl : xs.length ≤ 1000000) :
    Calls Tryz.prog 91 #[v] w fun e w' => ∃ u, e = .returned u ∧ spanK.Own w.heap.size w' u xs ∧ Ext w w' := by
  have HI := Lib.hid hI
  obtain ⟨A, n, c, rfl, hn, h0, hr, hm⟩ := hI.open_
  have he : ∀ w : World, (binOp .eql 120 (.slice A n c) (.slice none 0 0)).run Tryz.prog w = .ok (.bool A.isNone) w := fun w => Lib.run_eql_slice_nil w _ _ A n c 0 0 Tryz.underlying120
  cases A with
  | none =>
    have hx0 : xs = [] := by
      cases xs with
      | nil => rfl
      | cons x xs =>
        obtain ⟨_, _, hA, _⟩ := hr 0 (by simp)
        cases hA
    subst hx0
    simp only [Option.isNone_none] at he
    clear hI hr h0
    go_enter Tryz.func91, Tryz.ntmps91
    go_wp2_with fail
    go_ret
    exact ⟨_, rfl, EK.Own.nil _ _, by (repeat' (first | with_reducible exact Ext.refl _ | with_reducible apply Ext.alloc | with_reducible apply Ext.drew | with_reducible apply Ext.drewN | with_reducible refine Ext.setCell ?_ ?_ _ | with_reducible apply Ext.step | with_reducible assumption | with_reducible exact Nat.le_refl _ | (simp; done) | (simp; omega)))⟩
  | some ad =>
    simp only [Option.isNone_some] at he
    have HM := Lib.hid (EK.Own.lit (K := spanK) (B := w.heap.size) w #[] [] rfl (Nat.le_refl _) (by decide))
    have HU := Lib.hid (HI.out.ext ((Ext.refl w).alloc (.cells #[] 123)))
    have HBB := Lib.hid (show w.heap.size ≤ (w.alloc (.cells #[] 123)).heap.size by simp)
    have HZ := Lib.hid (show ([] : List (Int × Int)).length + xs.length ≤ 1000000000 by rw [List.length_nil]; omega)
    clear hI hr h0 hn
    go_enter Tryz.func91, Tryz.ntmps91
    go_wp2_with (at_builtin; refine EK.appAllL (K := spanK) rfl (.tmp 5) (.tmp 6) rfl rfl rfl HU.out HM.out HBB.out HZ.out ?_; intro v1 w1 o1 b1 _; have HO1 := Lib.hid o1; have HB1 := Lib.hid b1; clear o1 b1)
    go_ret
    exact ⟨_, rfl, by simpa using HO1.out, ((Ext.refl w).alloc _).below HB1.out (Nat.le_refl _)⟩

theorem bad_any (lo hi : Int) (w : World) :
    Calls Tryz.prog 92 #[spanV lo hi] w fun e w' => e = .returned (.bool (decide (hi < lo))) ∧ Ext w w' := by
  go_enter Tryz.func92, Tryz.ntmps92
  go_wp2_with fail
  go_ret
  exact ⟨rfl, by (repeat' (first | with_reducible exact Ext.refl _ | with_reducible apply Ext.alloc | with_reducible apply Ext.drew | with_reducible apply Ext.drewN | with_reducible refine Ext.setCell ?_ ?_ _ | with_reducible apply Ext.step | with_reducible assumption | with_reducible exact Nat.le_refl _ | (simp; done) | (simp; omega)))⟩

/-- The first one that is empty, or -1. -/
def IxS (xs : List (Int × Int)) (i : Int) : Prop := (i = -1 ∧ xs.all okS = true) ∨ ∃ j : Nat, i = (j : Int) ∧ j < xs.length ∧ (xs.take j).all okS = true ∧ okS (xs[j]?.getD (0, 0)) = false

set_option maxHeartbeats 1000000 in
theorem indexS_any (v : Value) (xs : List (Int × Int)) (w : World) (hI : spanK.Is w v xs) :
    Calls Tryz.prog 97 #[v, .func (.func 92) #[] #[]] w fun e w' => ∃ i : Int, e = .returned (.int .i64 i) ∧ IxS xs i ∧ Ext w w' := by
  have HI := Lib.hid hI
  obtain ⟨A, n, c, rfl, hn, _, hr, hm⟩ := hI.open_
  have HN := Lib.hid hn
  have HR := Lib.hid hr
  clear hI hr hn
  go_enter Tryz.func97, Tryz.ntmps97
  go_wp2_with fail
  go_loopw [8, 5] (fun i _ wr => ∃ j : Nat, j ≤ n ∧ i = .int .i64 j ∧ Hid ((xs.take j).all okS = true) ∧ Ext w wr) (fun i _ _ => n - (intOf i).toNat)
  case atStart => exact ⟨0, by omega, rfl, Lib.hid rfl, Ext.refl _⟩
  case round =>
    obtain ⟨j, hj, rfl, HA, hx⟩ := hrel
    have HX := Lib.hid hx
    by_cases hlt : j < n
    · have hjl : j < xs.length := by rw [HN.out]; exact hlt
      obtain ⟨b, o, rfl, hb, hc⟩ := HR.out j hjl
      have h0 := hx.cell_some (hc 0 _ rfl)
      have h1 := hx.cell_some (hc 1 _ rfl)
      simp only [spanK, Nat.add_zero] at h0 h1
      have HYES := Lib.hid fun (h : ¬ xs[j].2 < xs[j].1) => (show (xs.take (j + 1)).all okS = true by
        rw [List.take_succ_eq_append_getElem hjl, List.all_append, HA.out, Bool.true_and]
        simp [okS]; omega)
      have HNO := Lib.hid fun (h : xs[j].2 < xs[j].1) => (show IxS xs (j : Int) from .inr ⟨j, rfl, hjl, HA.out, by rw [List.getElem?_eq_getElem hjl]; simp [okS]; omega⟩)
      generalize xs[j].1 = x1 at *
      generalize xs[j].2 = x2 at *
      have l0 := cell_lt h0
      have HRD := Lib.hid (bad_any x1 x2 wr)
      clear hc hx
      by_cases hf : x2 < x1
      · have HF := Lib.hid (HNO.out hf)
        rw [decide_eq_true hf] at HRD
        clear hf HNO HYES
        go_wp2_with (go_at_call 92; refine HRD.out.mono ?_; rintro e w5 ⟨rfl, x5⟩; have HX5 := Lib.hid (HX.out.trans x5); clear x5)
        go_ret
        exact ⟨j, rfl, HF.out, HX5.out⟩
      · have HF := Lib.hid (HYES.out hf)
        rw [decide_eq_false hf] at HRD
        clear hf HNO HYES
        go_wp2_with (go_at_call 92; refine HRD.out.mono ?_; rintro e w5 ⟨rfl, x5⟩; have HX5 := Lib.hid (HX.out.trans x5); clear x5)
        go_roundw
        case rel => exact ⟨j + 1, by omega, by go_num, HF, HX5.out⟩
        case measure => simp [intOf]; omega
    · obtain rfl : j = n := by omega
      have HF := Lib.hid (show xs.all okS = true by
        have := HA.out
        rwa [List.take_of_length_le (by rw [HN.out]; exact Nat.le_refl _)] at this)
      clear hx
      go_wp2_with fail
      go_ret
      exact ⟨-1, rfl, .inl ⟨rfl, HF.out⟩, HX.out⟩

/-- What is kept of the first j. -/
def kept (ys : List (Int × Int)) (j : Nat) : List (Int × Int) := (ys.take j).filter okS
theorem kept_len (ys : List (Int × Int)) (j : Nat) : (kept ys j).length ≤ j := Nat.le_trans (List.length_filter_le _ _) (by rw [List.length_take]; omega)
theorem kept_succ {ys : List (Int × Int)} {j : Nat} (hj : j < ys.length) : kept ys (j + 1) = if okS (ys[j]?.getD (0, 0)) = true then kept ys j ++ [ys[j]?.getD (0, 0)] else kept ys j := by
  unfold kept
  rw [List.take_succ_eq_append_getElem hj, List.filter_append, List.getElem?_eq_getElem hj, Option.getD_some]
  split
  · rename_i h; simp [h]
  · rename_i h; simp [h]
/-- How the row stands while it is thinned out. -/
structure DelAt (ys zs : List (Int × Int)) (j : Nat) : Prop where
  len : zs.length = ys.length
  head : zs.take (kept ys j).length = kept ys j
  lt : (kept ys j).length + 1 ≤ j
  tail : ∀ i, j ≤ i → zs[i]? = ys[i]?
theorem filter_all {ys : List (Int × Int)} (h : ys.all okS = true) : ys.filter okS = ys := List.filter_eq_self.2 (List.all_eq_true.1 h)
theorem DelAt.start {ys : List (Int × Int)} {j : Nat} (hj : j < ys.length) (ha : (ys.take j).all okS = true) (hb : okS (ys[j]?.getD (0, 0)) = false) : DelAt ys ys (j + 1) ∧ (kept ys (j + 1)).length = j := by
  have e : kept ys (j + 1) = ys.take j := by
    rw [kept_succ hj, if_neg (by rw [hb]; exact Bool.false_ne_true)]
    exact filter_all ha
  have hl : (kept ys (j + 1)).length = j := by rw [e, List.length_take]; omega
  exact ⟨⟨rfl, by rw [hl, e], by omega, fun _ _ => rfl⟩, hl⟩
theorem DelAt.skip {ys zs : List (Int × Int)} {j : Nat} (h : DelAt ys zs j) (hj : j < ys.length) (hb : okS (ys[j]?.getD (0, 0)) = false) : DelAt ys zs (j + 1) ∧ kept ys (j + 1) = kept ys j := by
  have e : kept ys (j + 1) = kept ys j := by rw [kept_succ hj, if_neg (by rw [hb]; exact Bool.false_ne_true)]
  exact ⟨⟨h.len, by rw [e]; exact h.head, by rw [e]; have := h.lt; omega, fun i hi => h.tail i (by omega)⟩, e⟩
theorem DelAt.put {ys zs : List (Int × Int)} {j : Nat} (h : DelAt ys zs j) (hj : j < ys.length) (hb : okS (ys[j]?.getD (0, 0)) = true) : DelAt ys (zs.set (kept ys j).length (ys[j]?.getD (0, 0))) (j + 1) ∧ (kept ys (j + 1)).length = (kept ys j).length + 1 := by
  have e : kept ys (j + 1) = kept ys j ++ [ys[j]?.getD (0, 0)] := by rw [kept_succ hj, if_pos hb]
  have hl : (kept ys (j + 1)).length = (kept ys j).length + 1 := by rw [e, List.length_append]; rfl
  have hlt := h.lt
  have hzl := h.len
  refine ⟨⟨by rw [List.length_set, h.len], ?_, by omega, fun i hi => ?_⟩, hl⟩
  · rw [hl, e, List.take_set, take_snoc (d := (0, 0)) (by omega), h.head, List.set_append_right _ _ (Nat.le_refl _), Nat.sub_self]
    rfl
  · rw [List.getElem?_set_ne (by omega)]
    exact h.tail i (by omega)

set_option maxRecDepth 100000 in
set_option maxHeartbeats 4000000 in
theorem delete_any (B g n c : Nat) (ys : List (Int × Int)) (w : World) (hn : ys.length = n) (ho : spanK.Own B w (.slice (some ⟨g, 0, none⟩) n c) ys) (hl : n ≤ 1000000) :
    Calls Tryz.prog 90 #[.slice (some ⟨g, 0, none⟩) n c, .func (.func 92) #[] #[]] w fun e w' => ∃ k, e = .returned (.slice (some ⟨g, 0, none⟩) k c) ∧ k = (ys.filter okS).length ∧ spanK.Own B w' (.slice (some ⟨g, 0, none⟩) k c) (ys.filter okS) ∧ But [g] w w' := by
  obtain ⟨hc1, hc2⟩ : n ≤ c ∧ c ≤ maxLen := by
    obtain ⟨_, _, he, _, hc, _⟩ := ho.is
    cases he
    exact hc
  unfold maxLen at hc2
  have HIX := Lib.hid (indexS_any _ ys w (by have := ho.is; exact this))
  have HO := Lib.hid ho
  have HN := Lib.hid hn
  clear ho hn
  go_enter Tryz.func90, Tryz.ntmps90
  go_wp2_with fail
  refine HIX.out.mono ?_
  rintro e w1 ⟨i, rfl, hi, x1⟩
  have HX1 := Lib.hid x1
  rcases hi with ⟨rfl, hall⟩ | ⟨j, rfl, hj, ha, hb⟩
  · have HF := Lib.hid (filter_all hall)
    clear hall x1
    go_wp2_with fail
    go_ret
    exact ⟨n, rfl, by rw [HF.out, HN.out], by rw [HF.out]; exact HO.out.ext HX1.out, (But.refl _ _).ext HX1.out⟩
  · have HS := Lib.hid (DelAt.start hj ha hb)
    have hjn : j < n := by rw [← HN.out]; exact hj
    have hbe : ((j : Int) == -1) = false := by rw [beq_eq_false_iff_ne]; omega
    clear x1 ha hb hj
    go_wp2_with fail
    go_loopw [5, 6, 7] (fun kv qv _ wr => ∃ (q : Nat) (zs : List (Int × Int)), (j + 1 ≤ q ∧ q ≤ n) ∧ qv = .int .i64 (q : Int) ∧ DelAt ys zs q ∧ kv = .int .i64 ((kept ys q).length : Nat) ∧ spanK.Own B wr (.slice (some ⟨g, 0, none⟩) n c) zs ∧ But [g] w wr) (fun _ qv _ _ => n - (intOf qv).toNat)
    case atStart => exact ⟨j + 1, ys, ⟨by omega, by omega⟩, by go_num, HS.out.1, by rw [HS.out.2], HO.out.ext HX1.out, (But.refl _ _).ext HX1.out⟩
    case round =>
      obtain ⟨q, zs, ⟨hq1, hq⟩, rfl, hca, rfl, how, hbt⟩ := hrel
      have HCA := Lib.hid hca
      have HOW := Lib.hid how
      have HB := Lib.hid hbt
      have hzl : zs.length = n := hca.len.trans HN.out
      have HZL := Lib.hid hzl
      have hLk := hca.lt
      obtain ⟨L, hL⟩ : ∃ L, L = (kept ys q).length := ⟨_, rfl⟩
      have HL := Lib.hid hL
      rw [← hL] at hLk ⊢
      have hgw : g < wr.heap.size := (how.lt g rfl).2
      have hfz := fun o => (spn_at how hzl (show 0 < n by omega)).2 o
      clear hL hca hbt hzl
      by_cases hqn : q < n
      · have HT0 := Lib.hid (HCA.out.tail q (Nat.le_refl _))
        obtain ⟨⟨a1, a2⟩, -⟩ := spn_at how HZL.out hqn
        obtain ⟨⟨e1, e2⟩, -⟩ := spn_at how HZL.out (show L < n by omega)
        rw [HT0.out] at a1 a2
        have hqi : (q : Int) < (n : Int) := by omega
        have hLi : (L : Int) < (n : Int) := by omega
        have HSK := Lib.hid fun (h : okS (ys[q]?.getD (0, 0)) = false) => HCA.out.skip (by rw [HN.out]; exact hqn) h
        have HPT := Lib.hid fun (h : okS (ys[q]?.getD (0, 0)) = true) => HCA.out.put (by rw [HN.out]; exact hqn) h
        rw [← HL.out] at HPT
        generalize ys[q]?.getD (0, 0) = x at *
        generalize (zs[L]?.getD (0, 0)).1 = z1 at *
        generalize (zs[L]?.getD (0, 0)).2 = z2 at *
        obtain ⟨x1, x2⟩ := x
        simp only at a1 a2
        have la := cell_lt a1
        have le := cell_lt e1
        have HRD := Lib.hid fun W : World => bad_any x1 x2 W
        clear how
        by_cases hf : x2 < x1
        · have HV := Lib.hid (HSK.out (by simp [okS]; omega))
          rw [decide_eq_true hf] at HRD
          clear HSK HPT hf
          go_wp2_with fail
          refine (HRD.out _).mono ?_
          rintro e w5 ⟨rfl, x5⟩
          have HX5 := Lib.hid (show Ext wr w5 from Ext.trans (by (repeat' (first | with_reducible exact Ext.refl _ | with_reducible apply Ext.alloc | with_reducible apply Ext.drew | with_reducible apply Ext.drewN | with_reducible refine Ext.setCell ?_ ?_ _ | with_reducible apply Ext.step | with_reducible assumption | with_reducible exact Nat.le_refl _ | (simp; done) | (simp; omega)))) x5)
          clear x5 a1 a2 e1 e2 hfz hgw la le
          go_wp2_with fail
          go_roundw
          case rel => exact ⟨q + 1, zs, ⟨by omega, by omega⟩, by go_num, HV.out.1, by rw [HV.out.2, ← HL.out], HOW.out.ext HX5.out, HB.out.ext HX5.out⟩
          case measure => simp [intOf]; omega
        · have HV := Lib.hid (HPT.out (by simp [okS]; omega))
          rw [decide_eq_false hf] at HRD
          clear HSK HPT hf
          go_wp2_with fail
          refine (HRD.out _).mono ?_
          rintro e w5 ⟨rfl, x5⟩
          have hx5 := show Ext wr w5 from Ext.trans (by (repeat' (first | with_reducible exact Ext.refl _ | with_reducible apply Ext.alloc | with_reducible apply Ext.drew | with_reducible apply Ext.drewN | with_reducible refine Ext.setCell ?_ ?_ _ | with_reducible apply Ext.step | with_reducible assumption | with_reducible exact Nat.le_refl _ | (simp; done) | (simp; omega)))) x5
          have HX5 := Lib.hid hx5
          have c0 : w5.cell? ⟨wr.heap.size, 0, none⟩ = some (.int .i64 x1) := x5.cell_some (by go_cell)
          have c1 : w5.cell? ⟨wr.heap.size, 1, none⟩ = some (.int .i64 x2) := x5.cell_some (by go_cell)
          have hs5 := cell_lt c0
          have f1 := hx5.frozen e1 (hfz _)
          have f2 := hx5.frozen e2 (hfz _)
          replace e1 := hx5.cell_some e1
          replace e2 := hx5.cell_some e2
          replace le := cell_lt e1
          have hne : g ≠ wr.heap.size := by omega
          clear x5 hx5 a1 a2 hfz hgw la
          go_wp2_with fail
          go_roundw
          case rel => exact ⟨q + 1, _, ⟨by omega, by omega⟩, by go_num, HV.out.1, by rw [HV.out.2]; go_num, (HOW.out.ext HX5.out).put2N HZL.out (show L < n by omega) rfl (x1, x2) (.int .i64 x1) (.int .i64 x2) rfl, ((HB.out.ext HX5.out).setCell (by simp) _).setCell (by simp) _⟩
          case measure => simp [intOf]; omega
      · have hqe : q = n := by omega
        subst hqe
        obtain ⟨vs, hcl⟩ := run_clear_spans wr g (L * 2) (q - L) (c - L) (by omega) (fun j hj => by
          have h1 := spn_at how HZL.out (show L + j / 2 < q by omega)
          rcases (by omega : j % 2 = 0 ∨ j % 2 = 1) with h | h
          · rw [show L * 2 + j = (L + j / 2) * 2 by omega, h1.1.1]; rfl
          · rw [show L * 2 + j = (L + j / 2) * 2 + 1 by omega, h1.1.2]; rfl) hfz
        have hkk : kept ys q = ys.filter okS := by unfold kept; rw [List.take_of_length_le (by rw [HN.out]; exact Nat.le_refl _)]
        have HF := Lib.hid (show spanK.Own B (wr.setCells g (L * 2) vs) (.slice (some ⟨g, 0, none⟩) L c) (ys.filter okS) from by
          have h1 := own_take how HZL.out (show L ≤ q by omega)
          rw [HL.out, HCA.out.head, hkk, ← hkk, ← HL.out, hkk] at h1
          exact own_beyond (by rw [HL.out, hkk]) vs _ _ h1 (Nat.le_refl _))
        have HLF := Lib.hid (show L = (ys.filter okS).length by rw [HL.out, hkk])
        have HB2 := Lib.hid (show But [g] w (wr.setCells g (L * 2) vs) from HB.out.trans but_setCells)
        have hqi : ¬ (q : Int) < (q : Int) := by omega
        have hLi : (L : Int) ≤ (q : Int) := by omega
        have hLc : (L : Int) ≤ (c : Int) := by omega
        clear how hfz hkk
        go_wp2_with fail
        go_ret
        exact ⟨L, rfl, HLF.out, HF.out, HB2.out⟩
end Go.Proofs.YtkjgcmdabelohaaGreat

namespace Go.Proofs.YtkjgcmdabelohaaGreat
open Go.RowKit

theorem meetR_step {xs ys : List (Int × Int)} {i k : Nat} (hi : i < xs.length) (hk : k < ys.length) : meetR (xs.drop i) (ys.drop k) =
    (if max xs[i].1 ys[k].1 ≤ min xs[i].2 ys[k].2 then [(max xs[i].1 ys[k].1, min xs[i].2 ys[k].2)] else []) ++ (if xs[i].2 < ys[k].2 then meetR (xs.drop (i + 1)) (ys.drop k) else meetR (xs.drop i) (ys.drop (k + 1))) := by
  rw [List.drop_eq_getElem_cons hi, List.drop_eq_getElem_cons hk, meetR]
theorem meetR_end {xs ys : List (Int × Int)} {i k : Nat} (h : ¬ (i < xs.length ∧ k < ys.length)) : meetR (xs.drop i) (ys.drop k) = [] := by
  by_cases hi : i < xs.length
  · rw [List.drop_eq_getElem_cons hi, show ys.drop k = [] from List.drop_eq_nil_of_le (by omega), meetR]
  · rw [show xs.drop i = [] from List.drop_eq_nil_of_le (by omega), meetR]
theorem spn_is {A : Option Addr} {w : World} {xs : List (Int × Int)} (hr : spanK.Row w A xs) {j : Nat} (hj : j < xs.length) : ∃ b o, A = some ⟨b, o, none⟩ ∧ w.cell? ⟨b, o + j * 2, none⟩ = some (.int .i64 xs[j].1) ∧ w.cell? ⟨b, o + j * 2 + 1, none⟩ = some (.int .i64 xs[j].2) := by
  obtain ⟨b, o, rfl, _, hc⟩ := hr j hj
  exact ⟨b, o, rfl, hc 0 _ rfl, hc 1 _ rfl⟩

set_option maxRecDepth 100000 in
set_option maxHeartbeats 4000000 in
theorem meet_any (va vb : Value) (xs ys : List (Int × Int)) (w : World) (hX : spanK.Is w va xs) (hY : spanK.Is w vb ys) (hl1 : xs.length ≤ 1000000) (hl2 : ys.length ≤ 1000000) :
    Calls Tryz.prog 81 #[va, vb] w fun e w' => ∃ u, e = .returned u ∧ spanK.Own w.heap.size w' u (meetR xs ys) ∧ Ext w w' := by
  obtain ⟨A, n, c, rfl, hn, _, hr, hm⟩ := hX.open_
  obtain ⟨A', n', c', rfl, hn', _, hr', hm'⟩ := hY.open_
  have HN := Lib.hid hn
  have HN' := Lib.hid hn'
  have HR := Lib.hid hr
  have HR' := Lib.hid hr'
  have hn6 : n ≤ 1000000 := by omega
  have hn6' : n' ≤ 1000000 := by omega
  clear hX hY hr hr' hn hn' hm hm' hl1 hl2
  go_enter Tryz.func81, Tryz.ntmps81
  go_wp2_with fail
  go_loopw [5, 6, 7, 8] (fun sv iv kv _ wr => ∃ (i k : Nat) (out : List (Int × Int)), (i ≤ n ∧ k ≤ n') ∧ (iv = .int .i64 (i : Int) ∧ kv = .int .i64 (k : Int)) ∧ Hid (meetR xs ys = out ++ meetR (xs.drop i) (ys.drop k) ∧ out.length ≤ i + k) ∧ spanK.Own w.heap.size wr sv out ∧ Ext w wr) (fun _ iv kv _ _ => n + n' - (intOf iv).toNat - (intOf kv).toNat)
  case atStart => exact ⟨0, 0, [], ⟨by omega, by omega⟩, ⟨rfl, rfl⟩, Lib.hid ⟨rfl, Nat.le_refl _⟩, EK.Own.nil _ _, Ext.refl _⟩
  case round =>
    obtain ⟨i, k, out, ⟨hi, hk⟩, ⟨rfl, rfl⟩, HE, ho, hx⟩ := hrel
    obtain ⟨Ao, ko, co, rfl⟩ := ho.shape
    have HX := Lib.hid hx
    have HO := Lib.hid ho
    by_cases h1 : i < n
    · by_cases h2 : k < n'
      · have hi' : i < xs.length := by rw [HN.out]; exact h1
        have hk' : k < ys.length := by rw [HN'.out]; exact h2
        obtain ⟨b, o, rfl, a1, a2⟩ := spn_is HR.out hi'
        obtain ⟨b', o', rfl, e1, e2⟩ := spn_is HR'.out hk'
        have HST := Lib.hid (meetR_step hi' hk')
        generalize xs[i].1 = x1 at *
        generalize xs[i].2 = x2 at *
        generalize ys[k].1 = y1 at *
        generalize ys[k].2 = y2 at *
        have HA2 := Lib.hid a2
        have HE2 := Lib.hid e2
        replace a1 := hx.cell_some a1
        replace a2 := hx.cell_some a2
        replace e1 := hx.cell_some e1
        replace e2 := hx.cell_some e2
        have la := cell_lt a1
        have le := cell_lt e1
        have hii : (i : Int) < (n : Int) := by omega
        have hki : (k : Int) < (n' : Int) := by omega
        clear hx ho
        go_wp2_with fail
        refine wp_region_mk ([⟨23, 24, 8, 123, #[.int .i64 0, .int .i64 0], 41⟩]) (by kernel_rfl) (by kernel_rfl) ?_ ?_
        · intro m hm o ho ρ W
          simp only [List.mem_cons, List.not_mem_nil, or_false] at hm
          rcases hm with rfl <;> (cases ho; go_simp)
        repeat (any_goals (first | (refine wpX_skip (by rfl) ?_) | (refine wpX_pass (by rfl) (by rfl) ?_) | (refine wpX_stepK (by rfl) (by rfl) (fun K hK => ?_); go_simp; first | (refine hK _ ?_; clear hK K) | (apply Exists.intro; refine ⟨fun δ => ?_, hK _ ?_⟩; (focus fail); clear hK K))))
        all_goals refine wpX_nil ⟨?_, ?_⟩
        any_goals (intro m hm; simp only [List.mem_cons, List.not_mem_nil, or_false] at hm; rcases hm with rfl <;> exact ⟨by kernel_rfl, rfl, by simp [Value.cells, Value.oneCell']⟩)
        all_goals refine mk_one ?_
        rintro b7 δ hb7 m7
        have c0 : δ.wd.cell? ⟨b7, 0, none⟩ = some (.int .i64 (if x1 < y1 then y1 else x1)) := (m7.cell 0).trans (by simp [Value.cells])
        have c1 : δ.wd.cell? ⟨b7, 1, none⟩ = some (.int .i64 (if y2 < x2 then y2 else x2)) := (m7.cell 1).trans (by simp [Value.cells])
        have x5 : Ext wr δ.wd := ⟨δ, rfl⟩
        have HX5 := Lib.hid (HX.out.trans x5)
        have HO5 := Lib.hid (HO.out.ext x5)
        clear a1 a2 e1 e2 la le m7 hb7
        have a2 := HX5.out.cell_some HA2.out
        have e2 := HX5.out.cell_some HE2.out
        have la := cell_lt a2
        have le := cell_lt e2
        have lc := cell_lt c0
        generalize δ.wd = W5 at *
        have HMX := Lib.hid (show max x1 y1 = if x1 < y1 then y1 else x1 by split <;> omega)
        have HMN := Lib.hid (show min x2 y2 = if y2 < x2 then y2 else x2 by split <;> omega)
        generalize (if x1 < y1 then y1 else x1) = lo at *
        generalize (if y2 < x2 then y2 else x2) = hi at *
        rw [HMX.out, HMN.out] at HST
        clear x5 HX HO
        by_cases hlh : lo ≤ hi
        · have HV0 := Lib.hid (show meetR xs ys = (out ++ [(lo, hi)]) ++ (if x2 < y2 then meetR (xs.drop (i + 1)) (ys.drop k) else meetR (xs.drop i) (ys.drop (k + 1))) by rw [HE.out.1, HST.out, if_pos hlh, List.append_assoc])
          have HLN := Lib.hid (show (out ++ [(lo, hi)]).length ≤ i + 1 + k ∧ (out ++ [(lo, hi)]).length ≤ i + (k + 1) by have := HE.out.2; simp; omega)
          have HLO := Lib.hid (show out.length ≤ 1000000000 by have := HE.out.2; omega)
          have HSZ := Lib.hid HX5.out.bel.size
          clear HE HST
          go_wp2_with (at_builtin; refine EK.app (K := spanK) (B := w.heap.size) (xs := out) rfl (.tmp 47) (.tmp 49) rfl W5.heap.size 1 (lo, hi) rfl rfl (fun i u hu => cell_new hu) (HO5.out.ext ((Ext.refl _).alloc _)) (by have := HSZ.out; simp; omega) HLO.out ?_; intro v' W7 o7 b7 _; obtain ⟨Av, kv, cv, rfl⟩ := o7.shape; have HO7 := Lib.hid o7; have HX7 := Lib.hid ((HX5.out.alloc _).below b7 (Nat.le_refl _)); clear o7 b7 a2 e2 la le lc; have a2 := HX7.out.cell_some HA2.out; have e2 := HX7.out.cell_some HE2.out; have la := cell_lt a2; have le := cell_lt e2)
          clear c0 c1
          by_cases h3 : x2 < y2
          · have HV := Lib.hid (show meetR xs ys = (out ++ [(lo, hi)]) ++ meetR (xs.drop (i + 1)) (ys.drop k) by rw [HV0.out, if_pos h3])
            go_wp2_with fail
            refine wp_region_bext (by kernel_rfl) (by kernel_rfl) ?_
            repeat (any_goals (go_big_quiet_step (fail)))
            all_goals refine wpQuiet_nil ?_
            all_goals rintro _ ⟨δ, rfl⟩
            have HX8 := Lib.hid (HX7.out.trans (show Ext W7 δ.wd from ⟨δ, rfl⟩))
            have HO8 := Lib.hid (HO7.out.ext (show Ext W7 δ.wd from ⟨δ, rfl⟩))
            generalize δ.wd = W8 at *
            go_wp2_with fail
            go_roundw
            case rel => exact ⟨i + 1, k, (out ++ [(lo, hi)]), ⟨by omega, by omega⟩, ⟨by go_num, by go_num⟩, Lib.hid ⟨HV.out, HLN.out.1⟩, HO8.out, HX8.out⟩
            case measure => simp [intOf]; omega
          · have HV := Lib.hid (show meetR xs ys = (out ++ [(lo, hi)]) ++ meetR (xs.drop i) (ys.drop (k + 1)) by rw [HV0.out, if_neg h3])
            go_wp2_with fail
            refine wp_region_bext (by kernel_rfl) (by kernel_rfl) ?_
            repeat (any_goals (go_big_quiet_step (fail)))
            all_goals refine wpQuiet_nil ?_
            all_goals rintro _ ⟨δ, rfl⟩
            have HX8 := Lib.hid (HX7.out.trans (show Ext W7 δ.wd from ⟨δ, rfl⟩))
            have HO8 := Lib.hid (HO7.out.ext (show Ext W7 δ.wd from ⟨δ, rfl⟩))
            generalize δ.wd = W8 at *
            go_wp2_with fail
            go_roundw
            case rel => exact ⟨i, k + 1, (out ++ [(lo, hi)]), ⟨by omega, by omega⟩, ⟨by go_num, by go_num⟩, Lib.hid ⟨HV.out, HLN.out.2⟩, HO8.out, HX8.out⟩
            case measure => simp [intOf]; omega
        · have HV0 := Lib.hid (show meetR xs ys = out ++ (if x2 < y2 then meetR (xs.drop (i + 1)) (ys.drop k) else meetR (xs.drop i) (ys.drop (k + 1))) by rw [HE.out.1, HST.out, if_neg hlh, List.nil_append])
          have HLN := Lib.hid (show out.length ≤ i + 1 + k ∧ out.length ≤ i + (k + 1) by have := HE.out.2; omega)
          clear HE HST
          go_wp2_with fail
          have HX7 := Lib.hid HX5.out
          have HO7 := Lib.hid HO5.out
          clear HX5 HO5 c0 c1
          generalize W5 = W7 at *
          by_cases h3 : x2 < y2
          · have HV := Lib.hid (show meetR xs ys = out ++ meetR (xs.drop (i + 1)) (ys.drop k) by rw [HV0.out, if_pos h3])
            go_wp2_with fail
            refine wp_region_bext (by kernel_rfl) (by kernel_rfl) ?_
            repeat (any_goals (go_big_quiet_step (fail)))
            all_goals refine wpQuiet_nil ?_
            all_goals rintro _ ⟨δ, rfl⟩
            have HX8 := Lib.hid (HX7.out.trans (show Ext W7 δ.wd from ⟨δ, rfl⟩))
            have HO8 := Lib.hid (HO7.out.ext (show Ext W7 δ.wd from ⟨δ, rfl⟩))
            generalize δ.wd = W8 at *
            go_wp2_with fail
            go_roundw
            case rel => exact ⟨i + 1, k, out, ⟨by omega, by omega⟩, ⟨by go_num, by go_num⟩, Lib.hid ⟨HV.out, HLN.out.1⟩, HO8.out, HX8.out⟩
            case measure => simp [intOf]; omega
          · have HV := Lib.hid (show meetR xs ys = out ++ meetR (xs.drop i) (ys.drop (k + 1)) by rw [HV0.out, if_neg h3])
            go_wp2_with fail
            refine wp_region_bext (by kernel_rfl) (by kernel_rfl) ?_
            repeat (any_goals (go_big_quiet_step (fail)))
            all_goals refine wpQuiet_nil ?_
            all_goals rintro _ ⟨δ, rfl⟩
            have HX8 := Lib.hid (HX7.out.trans (show Ext W7 δ.wd from ⟨δ, rfl⟩))
            have HO8 := Lib.hid (HO7.out.ext (show Ext W7 δ.wd from ⟨δ, rfl⟩))
            generalize δ.wd = W8 at *
            go_wp2_with fail
            go_roundw
            case rel => exact ⟨i, k + 1, out, ⟨by omega, by omega⟩, ⟨by go_num, by go_num⟩, Lib.hid ⟨HV.out, HLN.out.2⟩, HO8.out, HX8.out⟩
            case measure => simp [intOf]; omega
      · have HF := Lib.hid (show meetR xs ys = out by rw [HE.out.1, meetR_end (fun h => h2 (by rw [← HN'.out]; exact h.2)), List.append_nil])
        have hii : (i : Int) < (n : Int) := by omega
        have hki : ¬ (k : Int) < (n' : Int) := by omega
        clear hx ho
        go_wp2_with fail
        go_ret
        exact ⟨_, rfl, by rw [HF.out]; exact HO.out, HX.out⟩
    · have HF := Lib.hid (show meetR xs ys = out by rw [HE.out.1, meetR_end (fun h => h1 (by rw [← HN.out]; exact h.1)), List.append_nil])
      have hii : ¬ (i : Int) < (n : Int) := by omega
      clear hx ho
      go_wp2_with fail
      go_ret
      exact ⟨_, rfl, by rw [HF.out]; exact HO.out, HX.out⟩
end Go.Proofs.YtkjgcmdabelohaaGreat
