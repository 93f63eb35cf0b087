/- Maps of windows: the plain laws. No program. -/
import Derived.Test.YtaaceadcnnfngaaCMap
namespace Go.Proofs.Ytaaceadcnnfngaa

def cBase : Int := 1000000007
def sumE (g : Nat → Nat → Int) (es : List ME) : Int := (es.map fun e => e.v * g e.a e.b).sum
theorem sumE_cons (g : Nat → Nat → Int) (e : ME) (es : List ME) : sumE g (e :: es) = e.v * g e.a e.b + sumE g es := by simp [sumE]
theorem sumE_append (g : Nat → Nat → Int) : ∀ (es fs : List ME), sumE g (es ++ fs) = sumE g es + sumE g fs
  | [], fs => by simp [sumE]
  | e :: es, fs => by rw [List.cons_append, sumE_cons, sumE_cons, sumE_append g es fs]; omega

/-- Distinct keys, each of two numbers below K; counts from 0 to the base; distinct births before the clock. -/
structure MapOk (K : Nat) (es : List ME) (clock : Nat) : Prop where
  keys : (es.map fun e => (e.a, e.b)).Nodup
  bound : ∀ e ∈ es, e.a < K ∧ e.b < K
  vals : ∀ e ∈ es, 0 ≤ e.v ∧ e.v < 1000000007
  born : (es.map ME.born).Nodup
  old : ∀ e ∈ es, e.born < clock
theorem MapOk.nil (K clock : Nat) : MapOk K [] clock := ⟨List.nodup_nil, by simp, by simp, List.nodup_nil, by simp⟩

theorem lookE_nil (a b : Nat) : lookE a b [] = 0 := rfl
theorem lookE_cons (a b : Nat) (e : ME) (es : List ME) : lookE a b (e :: es) = if a = e.a ∧ b = e.b then e.v else lookE a b es := by
  unfold lookE
  by_cases h : a = e.a ∧ b = e.b
  · rw [if_pos h, List.find?_cons_of_pos (by simp [h])]; rfl
  · rw [if_neg h, List.find?_cons_of_neg (by simpa using h)]
theorem setE_sum (g : Nat → Nat → Int) (a b : Nat) (v : Int) (clock : Nat) : ∀ es, sumE g (setE a b v clock es) = sumE g es + (v - lookE a b es) * g a b
  | [] => by simp [setE, sumE, lookE_nil]
  | e :: es => by
    rw [setE, lookE_cons]
    by_cases h : a = e.a ∧ b = e.b
    · rw [if_pos h, if_pos h, sumE_cons, sumE_cons]
      obtain ⟨h1, h2⟩ := h
      subst h1
      subst h2
      simp only []
      rw [Int.sub_mul]
      omega
    · rw [if_neg h, if_neg h, sumE_cons, sumE_cons, setE_sum g a b v clock es]
      omega
theorem lookE_bd {K : Nat} {es : List ME} {clock : Nat} (h : MapOk K es clock) (a b : Nat) : 0 ≤ lookE a b es ∧ lookE a b es < 1000000007 := by
  unfold lookE
  cases hf : es.find? fun e => a == e.a && b == e.b with
  | none => simp
  | some e => simpa using h.vals e (List.mem_of_find?_eq_some hf)

theorem setE_keys (a b : Nat) (v : Int) (clock : Nat) : ∀ es, (setE a b v clock es).map (fun e => (e.a, e.b)) = if hasE a b es then es.map (fun e => (e.a, e.b)) else es.map (fun e => (e.a, e.b)) ++ [(a, b)]
  | [] => rfl
  | e :: es => by
    unfold setE hasE
    by_cases h : a = e.a ∧ b = e.b
    · rw [if_pos h, List.any_cons, show (a == e.a && b == e.b) = true by simp [h]]
      simp
    · rw [if_neg h, List.any_cons, show (a == e.a && b == e.b) = false by simpa using h, Bool.false_or]
      have := setE_keys a b v clock es
      unfold hasE at this
      rw [List.map_cons, this]
      split <;> simp
theorem setE_borns (a b : Nat) (v : Int) (clock : Nat) : ∀ es, (setE a b v clock es).map ME.born = if hasE a b es then es.map ME.born else es.map ME.born ++ [clock]
  | [] => rfl
  | e :: es => by
    unfold setE hasE
    by_cases h : a = e.a ∧ b = e.b
    · rw [if_pos h, List.any_cons, show (a == e.a && b == e.b) = true by simp [h]]
      simp
    · rw [if_neg h, List.any_cons, show (a == e.a && b == e.b) = false by simpa using h, Bool.false_or]
      have := setE_borns a b v clock es
      unfold hasE at this
      rw [List.map_cons, this]
      split <;> simp
theorem setE_mem {a b : Nat} {v : Int} {clock : Nat} : ∀ {es : List ME} {x : ME}, x ∈ setE a b v clock es → (x.a = a ∧ x.b = b ∧ x.v = v ∧ (x.born = clock ∨ ∃ e ∈ es, e.born = x.born)) ∨ x ∈ es
  | [], x, h => by
    simp only [setE, List.mem_singleton] at h
    subst h
    exact .inl ⟨rfl, rfl, rfl, .inl rfl⟩
  | e :: es, x, h => by
    unfold setE at h
    by_cases hk : a = e.a ∧ b = e.b
    · rw [if_pos hk] at h
      rcases List.mem_cons.1 h with rfl | h
      · exact .inl ⟨hk.1.symm, hk.2.symm, rfl, .inr ⟨e, by simp, rfl⟩⟩
      · exact .inr (by simp [h])
    · rw [if_neg hk] at h
      rcases List.mem_cons.1 h with rfl | h
      · exact .inr (by simp)
      · rcases setE_mem h with ⟨h1, h2, h3, h4⟩ | h
        · exact .inl ⟨h1, h2, h3, h4.imp id fun ⟨e', he, hb⟩ => ⟨e', by simp [he], hb⟩⟩
        · exact .inr (by simp [h])
theorem setE_ok {K : Nat} {es : List ME} {clock : Nat} (h : MapOk K es clock) {a b : Nat} {v : Int} (ha : a < K) (hb : b < K) (hv : 0 ≤ v ∧ v < 1000000007) : MapOk K (setE a b v clock es) (clock + if hasE a b es then 0 else 1) := by
  refine ⟨?_, fun e he => ?_, fun e he => ?_, ?_, fun e he => ?_⟩
  · rw [setE_keys]
    split
    · exact h.keys
    · rename_i hh
      rw [List.nodup_append]
      refine ⟨h.keys, by simp, fun x hx y hy hxy => ?_⟩
      subst hxy
      obtain rfl : x = (a, b) := by simpa using hy
      obtain ⟨e, he, hk⟩ := List.mem_map.1 hx
      refine hh (List.any_eq_true.2 ⟨e, he, ?_⟩)
      simp only [Prod.mk.injEq] at hk
      simp [hk.1, hk.2]
  · rcases setE_mem he with ⟨h1, h2, _, _⟩ | he
    · omega
    · exact h.bound e he
  · rcases setE_mem he with ⟨_, _, h3, _⟩ | he
    · omega
    · exact h.vals e he
  · rw [setE_borns]
    split
    · exact h.born
    · rw [List.nodup_append]
      refine ⟨h.born, by simp, fun x hx y hy hxy => ?_⟩
      subst hxy
      obtain rfl : x = clock := by simpa using hy
      obtain ⟨e, he, hk⟩ := List.mem_map.1 hx
      have := h.old e he
      omega
  · by_cases hh : hasE a b es = true
    · rw [if_pos hh]
      have : e.born ∈ (setE a b v clock es).map ME.born := List.mem_map_of_mem he
      rw [setE_borns, if_pos hh] at this
      obtain ⟨e', he', hb'⟩ := List.mem_map.1 this
      have := h.old e' he'
      omega
    · rw [if_neg hh]
      have : e.born ∈ (setE a b v clock es).map ME.born := List.mem_map_of_mem he
      rw [setE_borns, if_neg hh] at this
      rcases List.mem_append.1 this with h1 | h1
      · obtain ⟨e', he', hb'⟩ := List.mem_map.1 h1
        have := h.old e' he'
        omega
      · have := List.mem_singleton.1 h1
        omega
theorem setE_add (g : Nat → Nat → Int) (a b : Nat) (c : Int) (clock : Nat) (es : List ME) : sumE g (setE a b ((lookE a b es + c) % 1000000007) clock es) % 1000000007 = (sumE g es + c * g a b) % 1000000007 := by
  rw [setE_sum, Int.emod_def (lookE a b es + c)]
  generalize (lookE a b es + c) / 1000000007 = t
  generalize lookE a b es = l
  have : sumE g es + (l + c - 1000000007 * t - l) * g a b = (sumE g es + c * g a b) + 1000000007 * (-(t * g a b)) := by
    rw [show l + c - 1000000007 * t - l = c - 1000000007 * t by omega, Int.sub_mul, Int.mul_assoc, Int.mul_neg]
    omega
  rw [this, Int.add_mul_emod_self_left]

/-- Distinct pairs below K are at most K * K. -/
theorem nodup_le : ∀ (n : Nat) (l : List Nat), l.Nodup → (∀ x ∈ l, x < n) → l.length ≤ n
  | 0, l, _, h => by
    cases l with
    | nil => simp
    | cons x l => exact absurd (h x (by simp)) (by omega)
  | n + 1, l, hd, h => by
    by_cases hn : n ∈ l
    · have h1 := nodup_le n (l.erase n) (hd.erase n) (fun x hx => by
        have h2 := (hd.mem_erase_iff.1 hx)
        have := h x h2.2
        have := h2.1
        omega)
      rw [List.length_erase_of_mem hn] at h1
      omega
    · exact Nat.le_succ_of_le (nodup_le n l hd fun x hx => by
        have h1 := h x hx
        have h2 : x ≠ n := fun e => hn (e ▸ hx)
        omega)
theorem nodup_map {α β : Type} {f : α → β} : ∀ {l : List α}, l.Nodup → (∀ p ∈ l, ∀ q ∈ l, f p = f q → p = q) → (l.map f).Nodup
  | [], _, _ => List.nodup_nil
  | x :: l, hd, h => by
    rw [List.map_cons, List.nodup_cons]
    rw [List.nodup_cons] at hd
    refine ⟨fun hx => ?_, nodup_map hd.2 fun p hp q hq => h p (by simp [hp]) q (by simp [hq])⟩
    obtain ⟨q, hq, he⟩ := List.mem_map.1 hx
    have := h q (by simp [hq]) x (by simp) he
    exact hd.1 (this ▸ hq)
theorem MapOk.len {K : Nat} {es : List ME} {clock : Nat} (h : MapOk K es clock) : es.length ≤ K * K := by
  have h1 : ((es.map fun e => (e.a, e.b)).map fun p : Nat × Nat => p.1 * K + p.2).Nodup := by
    refine nodup_map h.keys fun p hp q hq he => ?_
    obtain ⟨e, hpe, rfl⟩ := List.mem_map.1 hp
    obtain ⟨f, hqf, rfl⟩ := List.mem_map.1 hq
    have h1 := (h.bound e hpe).2
    have h2 := (h.bound f hqf).2
    simp only at he
    have h3 : (e.a * K + e.b) % K = (f.a * K + f.b) % K := by rw [he]
    rw [Nat.mul_add_mod_self_right, Nat.mul_add_mod_self_right, Nat.mod_eq_of_lt h1, Nat.mod_eq_of_lt h2] at h3
    have h4 : e.a * K = f.a * K := by omega
    have h5 := Nat.eq_of_mul_eq_mul_right (by omega) h4
    rw [h3, h5]
  have h2 := nodup_le (K * K) _ h1 (fun x hx => by
    obtain ⟨p, hp, rfl⟩ := List.mem_map.1 hx
    obtain ⟨e, he, rfl⟩ := List.mem_map.1 hp
    obtain ⟨ha, hb⟩ := h.bound e he
    have := Nat.mul_le_mul_right K (show e.a + 1 ≤ K from ha)
    simp only [Nat.add_mul, Nat.one_mul] at this
    show e.a * K + e.b < K * K
    omega)
  simpa using h2
end Go.Proofs.Ytaaceadcnnfngaa
