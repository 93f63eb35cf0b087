/- TopLatent: what the law needs, plain. No program. -/
import Derived.Test.YtkjgcmdabelohaaTLatP
import Derived.Test.YtkjgcmdabelohaaTHid
import Derived.Test.YtkjgcmdabelohaaLShs
import Derived.Test.YtkjgcmdabelohaaTSeen
import Derived.Test.YtkjgcmdabelohaaTSpell
namespace Go.Proofs.Ytkjgcmdabelohaa
open Go.RowKit

theorem hid_is {ws : List Int} {size cols ya yb na nb : Int} (h : hidB ws size cols ya yb na nb = true) : maskE ws size cols = 0 ∧ latE (msgL ws size cols) ya yb na nb = 0 := by
  simpa [hidB] using h
structure MaskOk (ws : List Int) (size cols : Int) : Prop where
  len : ws.length ≤ 8
  gn : ∀ q ∈ ws, 0 ≤ q ∧ q ≤ 32767
  s : 1 ≤ size ∧ size ≤ 40
  c : 1 ≤ cols ∧ cols ≤ 40
  wide : size * (4 * (ws.length : Int) - 1) ≤ cols
theorem mask_ok {ws : List Int} {size cols : Int} (h : maskE ws size cols = 0) : MaskOk ws size cols := by
  unfold maskE at h
  split at h
  · cases h
  · rename_i h1
    split at h
    · rename_i h2
      rw [Bool.and_eq_true, Bool.and_eq_true] at h2
      split at h
      · cases h
      · rename_i h3
        exact ⟨by omega, fun q hq => inB_iff.1 (List.all_eq_true.1 h2.1.1 q hq), inB_iff.1 h2.1.2, inB_iff.1 h2.2, by omega⟩
    · cases h
def rowsT (ws : List Nat) (size cols : Nat) : List (List Bool) := (List.range 5).map fun r => maskR ws size cols r ws.length 0
theorem rowsT_len {ws : List Nat} {size cols : Nat} : (rowsT ws size cols).length = 5 := by simp [rowsT]
theorem rowsT_row {ws : List Nat} {size cols : Nat} : ∀ l ∈ rowsT ws size cols, l.length = cols := by
  intro l hl
  unfold rowsT at hl
  rw [List.mem_map] at hl
  obtain ⟨r, -, rfl⟩ := hl
  exact maskR_len
theorem natL_len (ws : List Int) : (natL ws).length = ws.length := by simp [natL]
theorem natL_back {ws : List Int} (h : ∀ q ∈ ws, 0 ≤ q ∧ q ≤ 32767) : (natL ws).map Int.ofNat = ws := by
  unfold natL
  rw [List.map_map]
  conv => rhs; rw [← List.map_id ws]
  refine List.map_congr_left fun q hq => ?_
  have := h q hq
  simp only [Function.comp_apply, id_eq]
  show ((q.toNat : Nat) : Int) = q
  omega
theorem natL_lt {ws : List Int} (h : ∀ q ∈ ws, 0 ≤ q ∧ q ≤ 32767) : ∀ q ∈ natL ws, q < 2 ^ 15 := by
  intro q hq
  unfold natL at hq
  rw [List.mem_map] at hq
  obtain ⟨z, hz, rfl⟩ := hq
  have := h z hz
  omega
theorem msg_rows {ws : List Int} {size cols : Int} (h : maskE ws size cols = 0) : msgL ws size cols = (rowsT (natL ws) size.toNat cols.toNat).flatten := by
  unfold msgL maskT rowsT
  rw [if_pos h, natL_len]
theorem flat_rows {α : Type} {c : Nat} : ∀ {xss : List (List α)}, (∀ l ∈ xss, l.length = c) → ∀ {q m : Nat} (hq : q < xss.length), m < c → xss.flatten[q * c + m]? = xss[q][m]?
  | [], _, q, m, hq, _ => absurd hq (by simp)
  | x :: xss, h, 0, m, _, hm => by
    have hx := h x (List.mem_cons_self ..)
    simp only [List.flatten_cons, Nat.zero_mul, Nat.zero_add, List.getElem_cons_zero]
    rw [List.getElem?_append_left (by omega)]
  | x :: xss, h, q + 1, m, hq, hm => by
    have hx := h x (List.mem_cons_self ..)
    simp only [List.flatten_cons, List.getElem_cons_succ]
    rw [List.getElem?_append_right (by rw [hx, Nat.succ_mul]; omega), hx, show (q + 1) * c + m - c = q * c + m by rw [Nat.succ_mul]; omega]
    exact flat_rows (fun l hl => h l (List.mem_cons_of_mem _ hl)) (by simpa using hq) hm
theorem rows_flat_len {α : Type} {c : Nat} : ∀ {xss : List (List α)}, (∀ l ∈ xss, l.length = c) → xss.flatten.length = xss.length * c
  | [], _ => by simp
  | x :: xss, h => by
    simp only [List.flatten_cons, List.length_append, List.length_cons]
    rw [rows_flat_len (fun l hl => h l (List.mem_cons_of_mem _ hl)), h x (List.mem_cons_self ..), Nat.succ_mul]
    omega
/-- The tilts' shades. -/
theorem lat_shades {ms : List Bool} {ya yb na nb p lx ly lz : Int} (h : latE ms ya yb na nb = 0) : (latL ms ya yb na nb).map (shOf p lx ly lz) = mixL ms (shOf p lx ly lz (ya, yb)) (shOf p lx ly lz (na, nb)) := by
  unfold latL mixL
  rw [if_pos h, List.map_map]
  refine List.map_congr_left fun b _ => ?_
  cases b <;> rfl
theorem lat_mem {ms : List Bool} {ya yb na nb : Int} {t : Int × Int} (h : t ∈ latL ms ya yb na nb) : t = (ya, yb) ∨ t = (na, nb) := by
  unfold latL at h
  split at h
  · rw [List.mem_map] at h
    obtain ⟨b, -, rfl⟩ := h
    cases b
    · exact .inr rfl
    · exact .inl rfl
  · cases h
theorem lat_len {ms : List Bool} {ya yb na nb : Int} (h : latE ms ya yb na nb = 0) : (latL ms ya yb na nb).length = ms.length ∧ ms.length ≤ 576 := by
  refine ⟨by unfold latL; rw [if_pos h, List.length_map], ?_⟩
  unfold latE at h
  split at h
  · cases h
  · omega
/-- The light shows the two tilts, and where. -/
theorem shows_one {ya yb na nb p lx ly lz : Int} (h1 : brightE ya yb p lx ly lz = 0) (h2 : brightE na nb p lx ly lz = 0) :
    showsE ya yb na nb p [(lx, ly, lz)] = 0 ∧ (showsL ya yb na nb p [(lx, ly, lz)]).length = if shB ya yb na nb p (lx, ly, lz) = true then 1 else 0 := by
  have e : showsE ya yb na nb p [(lx, ly, lz)] = 0 := by
    unfold showsE
    rw [if_pos (by simp [inB])]
    simp [shErr, shE, h1, h2]
  refine ⟨e, ?_⟩
  unfold showsL
  rw [if_pos e]
  simp only [List.length_cons, List.length_nil, shTo, List.getElem?_cons_zero, Option.getD_some]
  split <;> simp
theorem bright_fracT {tx ty p lx ly lz : Int} (h : brightE tx ty p lx ly lz = 0) : FracIs (brightN tx ty p lx ly lz) (brightD tx ty p lx ly lz) := by
  unfold brightE at h
  split at h
  · rename_i h1
    split at h
    · rename_i h2
      unfold brightN brightD
      rw [h1, h2]
      rw [Bool.and_eq_true] at h1
      exact shade_frac h1.1 h1.2 h2
    · cases h
  · cases h
/-- Any and all of the first places. -/
def anyT (ms : List Bool) (j : Nat) : Bool := (ms.take j).any id
def allT (ms : List Bool) (j : Nat) : Bool := (ms.take j).all id
theorem anyT_step {ms : List Bool} {j : Nat} (h : j < ms.length) : anyT ms (j + 1) = (anyT ms j || ms[j]) := by
  unfold anyT
  rw [List.take_succ_eq_append_getElem h, List.any_append]
  simp
theorem allT_step {ms : List Bool} {j : Nat} (h : j < ms.length) : allT ms (j + 1) = (allT ms j && ms[j]) := by
  unfold allT
  rw [List.take_succ_eq_append_getElem h, List.all_append]
  simp
theorem anyT_end (ms : List Bool) : anyT ms ms.length = decide (true ∈ ms) := by
  unfold anyT
  rw [List.take_length, Bool.eq_iff_iff, List.any_eq_true, decide_eq_true_eq]
  exact ⟨fun ⟨x, h, e⟩ => by cases x; cases e; exact h, fun h => ⟨true, h, rfl⟩⟩
theorem allT_end (ms : List Bool) : allT ms ms.length = !decide (false ∈ ms) := by
  unfold allT
  rw [List.take_length, Bool.eq_iff_iff, List.all_eq_true]
  simp only [id_eq, Bool.not_eq_true', decide_eq_false_iff_not]
  constructor
  · intro h h'
    exact absurd (h false h') (by decide)
  · intro h x hx
    cases x
    · exact absurd hx h
    · rfl
/-- When nothing is read, and what is read. -/
theorem seen_side {ms : List Bool} {a c : Int × Int} (ha : FracIs a.1 a.2) (hc : FracIs c.1 c.2) (hl : ms.length ≤ 576) :
    (decide (compareOf a.1 a.2 c.1 c.2 = 0) || (!anyT ms ms.length || allT ms ms.length)) = decide (readE (mixL ms a c) = 6) ∧
    ((decide (compareOf a.1 a.2 c.1 c.2 = 0) || (!anyT ms ms.length || allT ms ms.length)) = false → readE (mixL ms a c) = 0 ∧ readL (mixL ms a c) = ms.map (· == decide (0 < compareOf a.1 a.2 c.1 c.2))) := by
  have h1 := (mix_read ha hc hl).1
  have hz : (compareOf a.1 a.2 c.1 c.2 = 0) ↔ a = c := by
    rw [compare_zero ha hc]
    exact ⟨fun h => Prod.ext h.1 h.2, fun h => by rw [h]; exact ⟨rfl, rfl⟩⟩
  have key : (decide (compareOf a.1 a.2 c.1 c.2 = 0) || (!anyT ms ms.length || allT ms ms.length)) = false ↔ readE (mixL ms a c) = 0 := by
    rw [h1, anyT_end, allT_end]
    simp only [Bool.or_eq_false_iff, decide_eq_false_iff_not, Bool.not_eq_false', decide_eq_true_eq, hz]
    constructor
    · rintro ⟨a1, a2, a3⟩
      exact ⟨⟨a2, a3⟩, a1⟩
    · rintro ⟨⟨a2, a3⟩, a1⟩
      exact ⟨a1, a2, a3⟩
  refine ⟨?_, fun h => ⟨key.1 h, mix_side ha hc hl (key.1 h)⟩⟩
  by_cases h : readE (mixL ms a c) = 0
  · rw [key.2 h, h]
    rfl
  · have h2 := mix_none ha hc hl h
    have h3 : ¬ (decide (compareOf a.1 a.2 c.1 c.2 = 0) || (!anyT ms ms.length || allT ms ms.length)) = false := fun e => h (key.1 e)
    rw [h2]
    exact eq_true_of_ne_false h3
end Go.Proofs.Ytkjgcmdabelohaa
