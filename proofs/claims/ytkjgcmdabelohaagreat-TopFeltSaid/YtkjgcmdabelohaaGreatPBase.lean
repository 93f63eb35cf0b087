/- The map of bases: from each cut that was read to a row of spans. Condition: rows are not empty. -/
import Derived.Test.YtkjgcmdabelohaaGreatMKind
import Derived.Test.YtkjgcmdabelohaaGreatPRep
import Derived.Test.YtkjgcmdabelohaaGreatPSee
namespace Go.Proofs.YtkjgcmdabelohaaGreat
open Go.RowKit Go.ChangeMaps

def baseV (n : Nat) : Option (Nat × Nat) → Value
  | none => .slice none 0 0
  | some (g, c) => .slice (some ⟨g, 0, none⟩) n c
def basesK (n : Nat) : MK Int (Option (Nat × Nat)) := ⟨117, 3, 120, Value.int .i64, baseV n, none, by kernel_rfl, fun w a es => find_intM _ (by kernel_rfl) _ w a es, fun w e a => check_intM _ (by kernel_rfl) w e a, fun a => by simp [Instr.sameBits], fun w => by kernel_rfl⟩

structure BasesAt (n B : Nat) (F : Int → List (Int × Int)) (M : Nat) (W : World) : Prop where
  ex : ∃ f : Int → Option (Nat × Nat), (basesK n).Pt M f W ∧ (∀ c, f c = none ↔ F c = []) ∧ (∀ c g k, f c = some (g, k) → spanK.Own B W (.slice (some ⟨g, 0, none⟩) n k) (F c)) ∧
    (∀ c d g k l, f c = some (g, k) → f d = some (g, l) → c = d)
theorem BasesAt.ext {n B M : Nat} {F : Int → List (Int × Int)} {W W' : World} (h : BasesAt n B F M W) (x : Ext W W') : BasesAt n B F M W' := by
  obtain ⟨f, h1, h2, h3, h4⟩ := h.ex
  exact ⟨f, h1.ext x, h2, fun c g k e => (h3 c g k e).ext x, h4⟩
theorem BasesAt.new (n B : Nat) (W : World) : BasesAt n B (fun _ => []) W.heap.size (W.alloc (.map #[] 0)) :=
  ⟨fun _ => none, MK.Pt.new W, fun _ => ⟨fun _ => rfl, fun _ => rfl⟩, fun _ _ _ e => (by cases e), fun _ _ _ _ _ e => (by cases e)⟩
theorem BasesAt.lt {n B M : Nat} {F : Int → List (Int × Int)} {W : World} (h : BasesAt n B F M W) : M < W.heap.size := by
  obtain ⟨f, h1, _⟩ := h.ex
  exact h1.lt
theorem map_ne {α : Type} {K : EK α} {n M B g k : Nat} {f : Int → Option (Nat × Nat)} {W : World} {xs : List α} (h : (basesK n).Pt M f W) (ho : K.Own B W (.slice (some ⟨g, 0, none⟩) n k) xs) : M ≠ g := by
  obtain ⟨es, ck, h1, _⟩ := h
  rintro rfl
  rcases ho.2 with ⟨e, _⟩ | ⟨g', cap, cur, e, _, hg, _⟩
  · cases e
  · simp only [Value.slice.injEq, Option.some.injEq, Addr.mk.injEq] at e
    obtain ⟨⟨rfl, -⟩, -⟩ := e
    rw [h1] at hg
    cases hg
theorem BasesAt.mono {n B B' M : Nat} {F : Int → List (Int × Int)} {W : World} (h : BasesAt n B F M W) (hB : B' ≤ B) : BasesAt n B' F M W := by
  obtain ⟨f, h1, h2, h3, h4⟩ := h.ex
  exact ⟨f, h1, h2, fun c g k e => (h3 c g k e).mono hB, h4⟩
theorem BasesAt.setOther {n B M : Nat} {F : Int → List (Int × Int)} {W : World} (h : BasesAt n B F M W) {d o : Nat} {u : Value} (hd : d < B) (hm : d ≠ M) : BasesAt n B F M (W.setCell ⟨d, o, none⟩ u) := by
  obtain ⟨f, h1, h2, h3, h4⟩ := h.ex
  refine ⟨f, h1.but ((But.refl [d] W).setCell (p := ⟨d, o, none⟩) (by simp) u) (by simpa using Ne.symm hm), h2, fun c g k e => (h3 c g k e).oth (.inr ?_), h4⟩
  have := ((h3 c g k e).lt g rfl).1
  simp only [Value.ownBlock, ne_eq, Option.some.injEq]
  omega
/-- No row yet: nil. -/
theorem BasesAt.none_ {n B M : Nat} {F : Int → List (Int × Int)} {W : World} (h : BasesAt n B F M W) {c : Int} (hc : F c = []) : ∀ W', Ext W W' →
    (Instr.lookup 117 (.map (some M)) (.int .i64 c) false).run Tryz.prog W' = .ok (.slice none 0 0) W' := fun W' x => by
  obtain ⟨f, h1, h2, _⟩ := h.ex
  have := (h1.ext x).at.look c
  rwa [(h2 c).2 hc] at this
/-- A row that is there. -/
theorem BasesAt.some_ {n B M : Nat} {F : Int → List (Int × Int)} {W : World} (h : BasesAt n B F M W) {c : Int} (hc : F c ≠ []) : ∃ g k, B ≤ g ∧ spanK.Own B W (.slice (some ⟨g, 0, none⟩) n k) (F c) ∧ (∀ W', Ext W W' →
      (Instr.lookup 117 (.map (some M)) (.int .i64 c) false).run Tryz.prog W' = .ok (.slice (some ⟨g, 0, none⟩) n k) W') ∧
    (F c).length = n ∧
    ∀ i, i < n → ∀ y : Int × Int, BasesAt n B (updM' F c ((F c).set i y)) M ((W.setCell ⟨g, i * 2, none⟩ (.int .i64 y.1)).setCell ⟨g, i * 2 + 1, none⟩ (.int .i64 y.2)) := by
  obtain ⟨f, h1, h2, h3, h4⟩ := h.ex
  rcases hf : f c with _ | ⟨g, k⟩
  · exact absurd ((h2 c).1 hf) hc
  · have ho := h3 c g k hf
    have hl : (F c).length = n := by
      rcases ho.2 with ⟨e, _⟩ | ⟨g', cap, cur, e, _⟩
      · cases e
      · simp only [Value.slice.injEq] at e
        exact e.2.1.symm
    have hgB := (ho.lt g rfl).1
    refine ⟨g, k, hgB, ho, fun W' x => ?_, hl, fun i hi y => ⟨f, ?_, fun d => ?_, fun d g' k' e => ?_, h4⟩⟩
    · have := (h1.ext x).at.look c
      rwa [hf] at this
    · have hm : M ∉ [g] := by simpa using map_ne h1 ho
      exact h1.but (((But.refl [g] W).setCell (p := ⟨g, i * 2, none⟩) (by simp) _).setCell (p := ⟨g, i * 2 + 1, none⟩) (by simp) _) hm
    · unfold updM'
      by_cases hd : d = c
      · rw [if_pos hd, hd, hf]
        constructor
        · intro e; cases e
        · intro e
          have : ((F c).set i y).length = 0 := by rw [e]; rfl
          rw [List.length_set, hl] at this
          omega
      · rw [if_neg hd]; exact h2 d
    · unfold updM'
      by_cases hd : d = c
      · rw [if_pos hd]
        subst hd
        rw [hf] at e
        simp only [Option.some.injEq, Prod.mk.injEq] at e
        obtain ⟨rfl, rfl⟩ := e
        exact ho.put2N hl hi rfl y (.int .i64 y.1) (.int .i64 y.2) rfl
      · rw [if_neg hd]
        have hne : g' ≠ g := fun e' => hd (h4 d c g k' k (e' ▸ e) hf)
        have h5 := h3 d g' k' e
        have hn : (Value.slice (some ⟨g', 0, none⟩) n k').ownBlock = none ∨ (Value.slice (some ⟨g', 0, none⟩) n k').ownBlock ≠ some g := .inr (by simpa [Value.ownBlock] using hne)
        exact (h5.oth hn).oth hn
/-- A new row. -/
theorem BasesAt.put {n B M : Nat} {F : Int → List (Int × Int)} {W W' : World} (h : BasesAt n B F M W) (x : Ext W W') {c : Int} {g k : Nat} {ys : List (Int × Int)} (hy : ys ≠ []) (ho : spanK.Own W.heap.size W' (.slice (some ⟨g, 0, none⟩) n k) ys) (hB : B ≤ W.heap.size) :
    ∃ o, (Instr.mapUpdate 117 (.map (some M)) (.int .i64 c) (.slice (some ⟨g, 0, none⟩) n k)).run Tryz.prog W' = .ok () (setBlock W' M o) ∧ BasesAt n B (updM' F c ys) M (setBlock W' M o) := by
  obtain ⟨f, h1, h2, h3, h4⟩ := h.ex
  obtain ⟨o, hr, hp⟩ := (h1.ext x).put c (v := some (g, k)) (by intro e; cases e)
  have hgW := (ho.lt g rfl).1
  have hMg : ∀ {g' k' : Nat} {xs : List (Int × Int)} {B' : Nat}, spanK.Own B' W' (.slice (some ⟨g', 0, none⟩) n k') xs → spanK.Own B' (setBlock W' M o) (.slice (some ⟨g', 0, none⟩) n k') xs := fun {g' k' xs B'} ho' => by
    have hne := map_ne (h1.ext x) ho'
    have hb := setBlock_but W' M o
    exact ho'.kept (row := some M) ⟨hb.os, hb.tape, hb.output, hb.size, fun i hi hi' => hb.block i hi (by simpa using fun e => hi' (by rw [e]))⟩ (.inr (by simpa [Value.ownBlock] using Ne.symm hne))
  refine ⟨o, hr, _, hp, fun d => ?_, fun d g' k' e => ?_, fun d d' g' k1 k2 e1 e2 => ?_⟩
  · unfold updM'
    by_cases hd : d = c
    · rw [if_pos hd, if_pos hd]
      exact ⟨fun e => (by cases e), fun e => absurd e hy⟩
    · rw [if_neg hd, if_neg hd]; exact h2 d
  · unfold updM' at e ⊢
    by_cases hd : d = c
    · rw [if_pos hd] at e ⊢
      simp only [Option.some.injEq, Prod.mk.injEq] at e
      obtain ⟨rfl, rfl⟩ := e
      exact (hMg ho).mono hB
    · rw [if_neg hd] at e ⊢
      exact hMg ((h3 d g' k' e).ext x)
  · have hold : ∀ e k3, f e = some (g, k3) → False := fun e k3 he => by
      have h5 := ((h3 e g k3 he).lt g rfl).2
      omega
    unfold updM' at e1 e2
    by_cases hd : d = c <;> by_cases hd' : d' = c
    · rw [hd, hd']
    · rw [if_pos hd] at e1
      rw [if_neg hd'] at e2
      simp only [Option.some.injEq, Prod.mk.injEq] at e1
      obtain ⟨rfl, rfl⟩ := e1
      exact (hold _ _ e2).elim
    · rw [if_neg hd] at e1
      rw [if_pos hd'] at e2
      simp only [Option.some.injEq, Prod.mk.injEq] at e2
      obtain ⟨rfl, rfl⟩ := e2
      exact (hold _ _ e1).elim
    · rw [if_neg hd] at e1
      rw [if_neg hd'] at e2
      exact h4 d d' g' k1 k2 e1 e2

/-- The row of a cut lies in block g. -/
structure BasesRow (n B : Nat) (F : Int → List (Int × Int)) (M : Nat) (c : Int) (g k : Nat) (W : World) : Prop where
  ex : ∃ f : Int → Option (Nat × Nat), (basesK n).Pt M f W ∧ (∀ d, f d = none ↔ F d = []) ∧ (∀ d g k, f d = some (g, k) → spanK.Own B W (.slice (some ⟨g, 0, none⟩) n k) (F d)) ∧
    (∀ c d g k l, f c = some (g, k) → f d = some (g, l) → c = d) ∧ f c = some (g, k)
theorem BasesAt.row {n B M : Nat} {F : Int → List (Int × Int)} {W : World} (h : BasesAt n B F M W) {c : Int} (hc : F c ≠ []) : ∃ g k, BasesRow n B F M c g k W := by
  obtain ⟨f, h1, h2, h3, h4⟩ := h.ex
  rcases hf : f c with _ | ⟨g, k⟩
  · exact absurd ((h2 c).1 hf) hc
  · exact ⟨g, k, f, h1, h2, h3, h4, hf⟩
section
variable {n B M g k : Nat} {F : Int → List (Int × Int)} {c : Int} {W W' : World}
theorem BasesRow.at_ (h : BasesRow n B F M c g k W) : BasesAt n B F M W := by
  obtain ⟨f, h1, h2, h3, h4, _⟩ := h.ex
  exact ⟨f, h1, h2, h3, h4⟩
theorem BasesRow.ext (h : BasesRow n B F M c g k W) (x : Ext W W') : BasesRow n B F M c g k W' := by
  obtain ⟨f, h1, h2, h3, h4, h5⟩ := h.ex
  exact ⟨f, h1.ext x, h2, fun c g k e => (h3 c g k e).ext x, h4, h5⟩
theorem BasesRow.own (h : BasesRow n B F M c g k W) : spanK.Own B W (.slice (some ⟨g, 0, none⟩) n k) (F c) := by
  obtain ⟨f, _, _, h3, _, h5⟩ := h.ex
  exact h3 c g k h5
theorem BasesRow.ge (h : BasesRow n B F M c g k W) : B ≤ g := (h.own.lt g rfl).1
theorem BasesRow.len (h : BasesRow n B F M c g k W) : (F c).length = n := by
  rcases h.own.2 with ⟨e, _⟩ | ⟨g', cap, cur, e, _⟩
  · cases e
  · simp only [Value.slice.injEq] at e
    exact e.2.1.symm
theorem BasesRow.look (h : BasesRow n B F M c g k W) : (Instr.lookup 117 (.map (some M)) (.int .i64 c) false).run Tryz.prog W = .ok (.slice (some ⟨g, 0, none⟩) n k) W := by
  obtain ⟨f, h1, _, _, _, h5⟩ := h.ex
  have := h1.at.look c
  rwa [h5] at this
theorem BasesRow.set (h : BasesRow n B F M c g k W) {o : Nat} {v : Value} {ys : List (Int × Int)} (hy : ys ≠ []) (ho : spanK.Own B (W.setCell ⟨g, o, none⟩ v) (.slice (some ⟨g, 0, none⟩) n k) ys) : BasesRow n B (updM' F c ys) M c g k (W.setCell ⟨g, o, none⟩ v) := by
  have hown := h.own
  obtain ⟨f, h1, h2, h3, h4, h5⟩ := h.ex
  refine ⟨f, h1.but ((But.refl [g] W).setCell (p := ⟨g, o, none⟩) (by simp) v) (by simpa using map_ne h1 hown), fun d => ?_, fun d g' k' e => ?_, h4, h5⟩
  · unfold updM'
    by_cases hd : d = c
    · rw [if_pos hd, hd, h5]
      exact ⟨fun e => (by cases e), fun e => absurd e hy⟩
    · rw [if_neg hd]; exact h2 d
  · unfold updM'
    by_cases hd : d = c
    · rw [if_pos hd]
      subst hd
      rw [h5] at e
      simp only [Option.some.injEq, Prod.mk.injEq] at e
      obtain ⟨rfl, rfl⟩ := e
      exact ho
    · rw [if_neg hd]
      have hne : g' ≠ g := fun e' => hd (h4 d c g k' k (e' ▸ e) h5)
      exact (h3 d g' k' e).oth (.inr (by simpa [Value.ownBlock] using hne))
theorem flat_fst (u : Int) : ∀ (xs : List (Int × Int)) (j : Nat), j < xs.length → (xs.set j (u, (xs[j]?.getD (0, 0)).2)).flatMap spanK.enc = (xs.flatMap spanK.enc).set (j * 2) (.int .i64 u)
  | x :: xs, 0, _ => by simp [spanK]
  | x :: xs, j + 1, h => by
    have := flat_fst u xs j (by simpa using h)
    rw [show (j + 1) * 2 = j * 2 + 1 + 1 by omega]
    simp only [List.set_cons_succ, List.flatMap_cons, List.getElem?_cons_succ, spanK, List.cons_append, List.nil_append] at this ⊢
    rw [this]
theorem flat_snd (u : Int) : ∀ (xs : List (Int × Int)) (j : Nat), j < xs.length → (xs.set j ((xs[j]?.getD (0, 0)).1, u)).flatMap spanK.enc = (xs.flatMap spanK.enc).set (j * 2 + 1) (.int .i64 u)
  | x :: xs, 0, _ => by simp [spanK]
  | x :: xs, j + 1, h => by
    have := flat_snd u xs j (by simpa using h)
    rw [show (j + 1) * 2 + 1 = j * 2 + 1 + 1 + 1 by omega]
    simp only [List.set_cons_succ, List.flatMap_cons, List.getElem?_cons_succ, spanK, List.cons_append, List.nil_append] at this ⊢
    rw [this]
theorem own_fst {N : Nat} {xs : List (Int × Int)} (h : spanK.Own B W (.slice (some ⟨g, 0, none⟩) N k) xs) (hl : xs.length = N) {j : Nat} (hj : j < N) (u : Int) :
    spanK.Own B (W.setCell ⟨g, j * 2, none⟩ (.int .i64 u)) (.slice (some ⟨g, 0, none⟩) N k) (xs.set j (u, (xs[j]?.getD (0, 0)).2)) := by
  subst hl
  have := (World.ownsRow.stored h (j * 2) (.int .i64 u)).1
  rw [← flat_fst u xs j hj] at this
  simpa [EK.Own] using this
theorem own_snd {N : Nat} {xs : List (Int × Int)} (h : spanK.Own B W (.slice (some ⟨g, 0, none⟩) N k) xs) (hl : xs.length = N) {j : Nat} (hj : j < N) (u : Int) :
    spanK.Own B (W.setCell ⟨g, j * 2 + 1, none⟩ (.int .i64 u)) (.slice (some ⟨g, 0, none⟩) N k) (xs.set j ((xs[j]?.getD (0, 0)).1, u)) := by
  subst hl
  have := (World.ownsRow.stored h (j * 2 + 1) (.int .i64 u)).1
  rw [← flat_snd u xs j hj] at this
  simpa [EK.Own] using this
theorem upd_twice {κ ε : Type} [DecidableEq κ] (F : κ → ε) (c : κ) (x y : ε) : updM' (updM' F c x) c y = updM' F c y := by
  funext d
  unfold updM'
  split <;> rfl
theorem upd_at {κ ε : Type} [DecidableEq κ] (F : κ → ε) (c : κ) (x : ε) : updM' F c x c = x := if_pos rfl
/-- Both ends of a span of the row are stored, one after the other. -/
theorem BasesRow.fst (h : BasesRow n B F M c g k W) {i : Nat} (hi : i < n) (u : Int) : BasesRow n B (updM' F c ((F c).set i (u, ((F c)[i]?.getD (0, 0)).2))) M c g k (W.setCell ⟨g, i * 2, none⟩ (.int .i64 u)) := by
  refine h.set (fun e => ?_) (own_fst h.own h.len hi u)
  have := congrArg List.length e
  rw [List.length_set, h.len] at this
  simp at this
  omega
theorem BasesRow.snd (h : BasesRow n B F M c g k W) {i : Nat} (hi : i < n) (u : Int) : BasesRow n B (updM' F c ((F c).set i (((F c)[i]?.getD (0, 0)).1, u))) M c g k (W.setCell ⟨g, i * 2 + 1, none⟩ (.int .i64 u)) := by
  refine h.set (fun e => ?_) (own_snd h.own h.len hi u)
  have := congrArg List.length e
  rw [List.length_set, h.len] at this
  simp at this
  omega
theorem BasesRow.both (h : BasesRow n B F M c g k W) {i : Nat} (hi : i < n) (u v : Int) {W2 W3 : World} (x : Ext W W2) (y : Ext (W2.setCell ⟨g, i * 2, none⟩ (.int .i64 u)) W3) :
    BasesRow n B (updM' F c ((F c).set i (u, v))) M c g k (W3.setCell ⟨g, i * 2 + 1, none⟩ (.int .i64 v)) := by
  have h1 := (((h.ext x).fst hi u).ext y).snd hi v
  rw [upd_at, upd_twice, List.set_set, List.getElem?_set_self (by rw [h.len]; exact hi)] at h1
  exact h1
end
end Go.Proofs.YtkjgcmdabelohaaGreat
