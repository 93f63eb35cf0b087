/- pattern.search of a bench and itself, and Symmetries: a function of the lift, the throw and the shifts alone. Condition: a valid program whose slices read as lists. -/
import Derived.Test.YtkjgcmdabelohaaGreatMSymP
import Derived.Test.YtkjgcmdabelohaaGreatPSrch
import Derived.Shelf.Abstract
namespace Go.Proofs.YtkjgcmdabelohaaGreat
open Go.RowKit Go.Shelf
attribute [local go_sem] Oper.semAt_some

def SyC (b1 lb b4 b9 b11 N : Nat) (os ob : Bool) (c : Nat)  (Ds : List Nat) (a : Act) : Prop := ∃ u : Nat → Value, a = { tmps := #[.pointer (some ⟨b1, 0, none⟩), .pointer (some ⟨b1, 0, none⟩), .int .u8 3, symFn lb, .pointer (some ⟨b4, 0, none⟩), .pointer (some ⟨b4 + 1, 0, none⟩), u 6, u 7, .int .i64 (N : Int), .pointer (some ⟨b9, 0, none⟩), .bool os, .pointer (some ⟨b11, 0, none⟩), .bool ob, u 13, u 14, u 15, u 16, u 17, u 18, u 19, u 20, u 21, u 22, u 23, u 24, u 25, u 26, u 27, u 28, u 29, u 30, u 31, u 32, u 33, u 34, u 35, u 36, u 37, u 38, u 39, u 40, u 41, u 42, u 43, u 44, u 45, u 46, u 47, u 48, u 49, u 50, u 51, u 52, u 53, u 54, u 55, u 56, u 57, u 58, u 59, u 60, u 61, u 62, u 63, .int .i64 (N : Int), .int .i64 (c : Int), u 66, u 67, u 68, u 69, u 70, u 71, u 72, u 73, u 74, u 75, u 76, u 77, u 78, u 79, u 80, u 81, u 82, u 83, u 84, u 85, u 86, u 87, u 88, u 89, u 90, u 91, u 92, u 93, u 94, u 95, u 96, u 97, u 98, u 99, u 100, u 101, u 102, u 103, u 104, u 105, u 106, u 107, u 108, u 109, u 110, u 111, u 112, u 113, u 114, u 115, u 116, u 117, u 118, u 119, u 120, u 121, u 122, u 123, u 124, u 125, u 126, u 127, u 128, u 129, u 130, u 131, u 132, u 133, u 134, u 135, u 136, u 137, u 138, u 139, u 140, u 141, u 142, u 143, u 144, u 145, u 146, u 147, u 148, u 149, u 150, u 151, u 152, u 153, u 154, u 155, u 156, u 157, u 158, u 159, u 160, u 161, u 162, u 163, u 164, u 165, u 166, u 167, u 168, u 169, u 170, u 171, u 172], defers := marksOf Ds }
set_option maxRecDepth 100000 in
theorem SyC.mk (b1 lb b4 b9 b11 N : Nat) (os ob : Bool) (c : Nat)  (Ds : List Nat) (u6 u7 u13 u14 u15 u16 u17 u18 u19 u20 u21 u22 u23 u24 u25 u26 u27 u28 u29 u30 u31 u32 u33 u34 u35 u36 u37 u38 u39 u40 u41 u42 u43 u44 u45 u46 u47 u48 u49 u50 u51 u52 u53 u54 u55 u56 u57 u58 u59 u60 u61 u62 u63 u66 u67 u68 u69 u70 u71 u72 u73 u74 u75 u76 u77 u78 u79 u80 u81 u82 u83 u84 u85 u86 u87 u88 u89 u90 u91 u92 u93 u94 u95 u96 u97 u98 u99 u100 u101 u102 u103 u104 u105 u106 u107 u108 u109 u110 u111 u112 u113 u114 u115 u116 u117 u118 u119 u120 u121 u122 u123 u124 u125 u126 u127 u128 u129 u130 u131 u132 u133 u134 u135 u136 u137 u138 u139 u140 u141 u142 u143 u144 u145 u146 u147 u148 u149 u150 u151 u152 u153 u154 u155 u156 u157 u158 u159 u160 u161 u162 u163 u164 u165 u166 u167 u168 u169 u170 u171 u172 : Value) : SyC b1 lb b4 b9 b11 N os ob c  Ds { tmps := #[.pointer (some ⟨b1, 0, none⟩), .pointer (some ⟨b1, 0, none⟩), .int .u8 3, symFn lb, .pointer (some ⟨b4, 0, none⟩), .pointer (some ⟨b4 + 1, 0, none⟩), u6, u7, .int .i64 (N : Int), .pointer (some ⟨b9, 0, none⟩), .bool os, .pointer (some ⟨b11, 0, none⟩), .bool ob, u13, u14, u15, u16, u17, u18, u19, u20, u21, u22, u23, u24, u25, u26, u27, u28, u29, u30, u31, u32, u33, u34, u35, u36, u37, u38, u39, u40, u41, u42, u43, u44, u45, u46, u47, u48, u49, u50, u51, u52, u53, u54, u55, u56, u57, u58, u59, u60, u61, u62, u63, .int .i64 (N : Int), .int .i64 (c : Int), u66, u67, u68, u69, u70, u71, u72, u73, u74, u75, u76, u77, u78, u79, u80, u81, u82, u83, u84, u85, u86, u87, u88, u89, u90, u91, u92, u93, u94, u95, u96, u97, u98, u99, u100, u101, u102, u103, u104, u105, u106, u107, u108, u109, u110, u111, u112, u113, u114, u115, u116, u117, u118, u119, u120, u121, u122, u123, u124, u125, u126, u127, u128, u129, u130, u131, u132, u133, u134, u135, u136, u137, u138, u139, u140, u141, u142, u143, u144, u145, u146, u147, u148, u149, u150, u151, u152, u153, u154, u155, u156, u157, u158, u159, u160, u161, u162, u163, u164, u165, u166, u167, u168, u169, u170, u171, u172], defers := marksOf Ds } := ⟨fun i => [undef, undef, undef, undef, undef, undef, u6, u7, undef, undef, undef, undef, undef, u13, u14, u15, u16, u17, u18, u19, u20, u21, u22, u23, u24, u25, u26, u27, u28, u29, u30, u31, u32, u33, u34, u35, u36, u37, u38, u39, u40, u41, u42, u43, u44, u45, u46, u47, u48, u49, u50, u51, u52, u53, u54, u55, u56, u57, u58, u59, u60, u61, u62, u63, undef, undef, u66, u67, u68, u69, u70, u71, u72, u73, u74, u75, u76, u77, u78, u79, u80, u81, u82, u83, u84, u85, u86, u87, u88, u89, u90, u91, u92, u93, u94, u95, u96, u97, u98, u99, u100, u101, u102, u103, u104, u105, u106, u107, u108, u109, u110, u111, u112, u113, u114, u115, u116, u117, u118, u119, u120, u121, u122, u123, u124, u125, u126, u127, u128, u129, u130, u131, u132, u133, u134, u135, u136, u137, u138, u139, u140, u141, u142, u143, u144, u145, u146, u147, u148, u149, u150, u151, u152, u153, u154, u155, u156, u157, u158, u159, u160, u161, u162, u163, u164, u165, u166, u167, u168, u169, u170, u171, u172].getD i undef, rfl⟩
def SyK (b1 lb b4 b9 b11 N : Nat) (os ob : Bool) (c : Nat) (b13 : Nat) (ol : Value) (k : Nat) (Ds : List Nat) (a : Act) : Prop := ∃ u : Nat → Value, a = { tmps := #[.pointer (some ⟨b1, 0, none⟩), .pointer (some ⟨b1, 0, none⟩), .int .u8 3, symFn lb, .pointer (some ⟨b4, 0, none⟩), .pointer (some ⟨b4 + 1, 0, none⟩), u 6, u 7, .int .i64 (N : Int), .pointer (some ⟨b9, 0, none⟩), .bool os, .pointer (some ⟨b11, 0, none⟩), .bool ob, .pointer (some ⟨b13, 0, none⟩), ol, u 15, u 16, u 17, u 18, u 19, u 20, u 21, u 22, u 23, u 24, u 25, u 26, u 27, u 28, u 29, u 30, u 31, u 32, u 33, u 34, u 35, u 36, u 37, u 38, u 39, u 40, u 41, u 42, u 43, u 44, u 45, u 46, u 47, u 48, u 49, u 50, u 51, u 52, u 53, u 54, u 55, u 56, u 57, u 58, u 59, u 60, u 61, u 62, u 63, .int .i64 (N : Int), .int .i64 (c : Int), u 66, u 67, u 68, u 69, u 70, u 71, u 72, u 73, u 74, u 75, .slice (some ⟨b13 + 1, 0, none⟩) 4 4, .int .i64 4, .int .i64 (k : Int), u 79, u 80, u 81, u 82, u 83, u 84, u 85, u 86, u 87, u 88, u 89, u 90, u 91, u 92, u 93, u 94, u 95, u 96, u 97, u 98, u 99, u 100, u 101, u 102, u 103, u 104, u 105, u 106, u 107, u 108, u 109, u 110, u 111, u 112, u 113, u 114, u 115, u 116, u 117, u 118, u 119, u 120, u 121, u 122, u 123, u 124, u 125, u 126, u 127, u 128, u 129, u 130, u 131, u 132, u 133, u 134, u 135, u 136, u 137, u 138, u 139, u 140, u 141, u 142, u 143, u 144, u 145, u 146, u 147, u 148, u 149, u 150, u 151, u 152, u 153, u 154, u 155, u 156, u 157, u 158, u 159, u 160, u 161, u 162, u 163, u 164, u 165, u 166, u 167, u 168, u 169, u 170, u 171, u 172], defers := marksOf Ds }
set_option maxRecDepth 100000 in
theorem SyK.mk (b1 lb b4 b9 b11 N : Nat) (os ob : Bool) (c : Nat) (b13 : Nat) (ol : Value) (k : Nat) (Ds : List Nat) (u6 u7 u15 u16 u17 u18 u19 u20 u21 u22 u23 u24 u25 u26 u27 u28 u29 u30 u31 u32 u33 u34 u35 u36 u37 u38 u39 u40 u41 u42 u43 u44 u45 u46 u47 u48 u49 u50 u51 u52 u53 u54 u55 u56 u57 u58 u59 u60 u61 u62 u63 u66 u67 u68 u69 u70 u71 u72 u73 u74 u75 u79 u80 u81 u82 u83 u84 u85 u86 u87 u88 u89 u90 u91 u92 u93 u94 u95 u96 u97 u98 u99 u100 u101 u102 u103 u104 u105 u106 u107 u108 u109 u110 u111 u112 u113 u114 u115 u116 u117 u118 u119 u120 u121 u122 u123 u124 u125 u126 u127 u128 u129 u130 u131 u132 u133 u134 u135 u136 u137 u138 u139 u140 u141 u142 u143 u144 u145 u146 u147 u148 u149 u150 u151 u152 u153 u154 u155 u156 u157 u158 u159 u160 u161 u162 u163 u164 u165 u166 u167 u168 u169 u170 u171 u172 : Value) : SyK b1 lb b4 b9 b11 N os ob c b13 ol k Ds { tmps := #[.pointer (some ⟨b1, 0, none⟩), .pointer (some ⟨b1, 0, none⟩), .int .u8 3, symFn lb, .pointer (some ⟨b4, 0, none⟩), .pointer (some ⟨b4 + 1, 0, none⟩), u6, u7, .int .i64 (N : Int), .pointer (some ⟨b9, 0, none⟩), .bool os, .pointer (some ⟨b11, 0, none⟩), .bool ob, .pointer (some ⟨b13, 0, none⟩), ol, u15, u16, u17, u18, u19, u20, u21, u22, u23, u24, u25, u26, u27, u28, u29, u30, u31, u32, u33, u34, u35, u36, u37, u38, u39, u40, u41, u42, u43, u44, u45, u46, u47, u48, u49, u50, u51, u52, u53, u54, u55, u56, u57, u58, u59, u60, u61, u62, u63, .int .i64 (N : Int), .int .i64 (c : Int), u66, u67, u68, u69, u70, u71, u72, u73, u74, u75, .slice (some ⟨b13 + 1, 0, none⟩) 4 4, .int .i64 4, .int .i64 (k : Int), u79, u80, u81, u82, u83, u84, u85, u86, u87, u88, u89, u90, u91, u92, u93, u94, u95, u96, u97, u98, u99, u100, u101, u102, u103, u104, u105, u106, u107, u108, u109, u110, u111, u112, u113, u114, u115, u116, u117, u118, u119, u120, u121, u122, u123, u124, u125, u126, u127, u128, u129, u130, u131, u132, u133, u134, u135, u136, u137, u138, u139, u140, u141, u142, u143, u144, u145, u146, u147, u148, u149, u150, u151, u152, u153, u154, u155, u156, u157, u158, u159, u160, u161, u162, u163, u164, u165, u166, u167, u168, u169, u170, u171, u172], defers := marksOf Ds } := ⟨fun i => [undef, undef, undef, undef, undef, undef, u6, u7, undef, undef, undef, undef, undef, undef, undef, u15, u16, u17, u18, u19, u20, u21, u22, u23, u24, u25, u26, u27, u28, u29, u30, u31, u32, u33, u34, u35, u36, u37, u38, u39, u40, u41, u42, u43, u44, u45, u46, u47, u48, u49, u50, u51, u52, u53, u54, u55, u56, u57, u58, u59, u60, u61, u62, u63, undef, undef, u66, u67, u68, u69, u70, u71, u72, u73, u74, u75, undef, undef, undef, u79, u80, u81, u82, u83, u84, u85, u86, u87, u88, u89, u90, u91, u92, u93, u94, u95, u96, u97, u98, u99, u100, u101, u102, u103, u104, u105, u106, u107, u108, u109, u110, u111, u112, u113, u114, u115, u116, u117, u118, u119, u120, u121, u122, u123, u124, u125, u126, u127, u128, u129, u130, u131, u132, u133, u134, u135, u136, u137, u138, u139, u140, u141, u142, u143, u144, u145, u146, u147, u148, u149, u150, u151, u152, u153, u154, u155, u156, u157, u158, u159, u160, u161, u162, u163, u164, u165, u166, u167, u168, u169, u170, u171, u172].getD i undef, rfl⟩

/-- The four kinds of moves over c cuts. -/
def mvC (c : Int) : Array Value := #[.int .i64 c, .int .i64 0, .bool false, .bool false, .int .i64 c, .int .i64 0, .bool false, .bool true, .int .i64 c, .int .i64 0, .bool true, .bool false, .int .i64 c, .int .i64 0, .bool true, .bool true]
theorem mvC_at {b : Nat} {c : Int} {W : World} (h : BoxAt b (mvC c) 78 W) {k : Nat} (hk : k < 4) :
    W.cell? ⟨b, k * 4, none⟩ = some (.int .i64 c) ∧ W.cell? ⟨b, k * 4 + 1, none⟩ = some (.int .i64 0) ∧ W.cell? ⟨b, k * 4 + 2, none⟩ = some (.bool (kindM k)) ∧ W.cell? ⟨b, k * 4 + 3, none⟩ = some (.bool (kindB k)) := by
  rcases (by omega : k = 0 ∨ k = 1 ∨ k = 2 ∨ k = 3) with rfl | rfl | rfl | rfl
  · exact ⟨h.cell (i := 0) rfl, h.cell (i := 1) rfl, h.cell (i := 2) rfl, h.cell (i := 3) rfl⟩
  · exact ⟨h.cell (i := 4) rfl, h.cell (i := 5) rfl, h.cell (i := 6) rfl, h.cell (i := 7) rfl⟩
  · exact ⟨h.cell (i := 8) rfl, h.cell (i := 9) rfl, h.cell (i := 10) rfl, h.cell (i := 11) rfl⟩
  · exact ⟨h.cell (i := 12) rfl, h.cell (i := 13) rfl, h.cell (i := 14) rfl, h.cell (i := 15) rfl⟩

/-- The world behind c cuts. -/
structure SymW (W6 : World) (lb : Nat) (xs : List MvT) (Ds : List Nat) (W : World) : Prop where
  but : But [lb] W6 W
  mks : Mks W6.heap.size Ds W
  list : ∃ u, BoxAt lb #[u] 38 W ∧ moveK.Own W6.heap.size W u xs

set_option maxRecDepth 100000 in
set_option maxHeartbeats 64000000 in
theorem search_self (b1 lb : Nat) (p : PrT) (v : PrV) (lv : Value) (t : Nat) (w : World) (h1 : BenchAt b1 w p v lv) (hg : Good p) (ht : LeastT (liftL p.ros p.rub) t) (hlb : BoxAt lb #[.slice none 0 0] 38 w) :
    Calls Tryz.prog 33 #[.pointer (some ⟨b1, 0, none⟩), .pointer (some ⟨b1, 0, none⟩), .int .u8 3, symFn lb] w fun e w' => (∃ v, e = .returned v) ∧ (∃ u, BoxAt lb #[u] 38 w' ∧ moveK.Own w.heap.size w' u (symL p t)) ∧ But [lb] w w' := by
  have hlw := hlb.lt
  have HLB := Lib.hid hlb
  have HB1 := Lib.hid h1
  have HPV := Lib.hid (ht.perV hg)
  have HC1 := Lib.hid fun (W : World) (x : Ext w W) => closes_any b1 p v lv t W (h1.ext x) hg ht
  have HO1 := Lib.hid fun (mi : Bool) (W : World) (x : Ext w W) => offset_any b1 b1 p p v v lv lv mi t W (h1.ext x) (h1.ext x) hg hg ht rfl
  obtain ⟨z1, z2⟩ := closN_bd hg ht
  have HSL := Lib.hid (show symL p t = symTo p t (closN p t) (closN p t) from rfl)
  obtain ⟨N, hN⟩ : ∃ N, N = closN p t := ⟨_, rfl⟩
  rw [← hN] at HC1 HSL z1 z2
  have hofb : ∀ mi, offN p p mi t < t := fun mi => by
    unfold offN
    cases offO p p mi with
    | none => exact ht.pos
    | some s => exact Nat.mod_lt _ ht.pos
  have hob1 := hofb false
  have hob2 := hofb true
  have ht96 : t ≤ 96 := by
    have := ht.le (by rw [liftL_len]; have := hg.nums.n1; omega)
    rw [liftL_len] at this
    have := hg.nums.n2
    omega
  have ht1 := ht.pos
  have HOF := Lib.hid (HO1.out false)
  have HOT := Lib.hid (HO1.out true)
  obtain ⟨sN, hsN⟩ : ∃ z, z = offN p p false t := ⟨_, rfl⟩
  obtain ⟨oN, hoN⟩ : ∃ z, z = offN p p true t := ⟨_, rfl⟩
  obtain ⟨os, hos⟩ : ∃ z, z = (offO p p false).isSome := ⟨_, rfl⟩
  obtain ⟨ob, hob⟩ : ∃ z, z = (offO p p true).isSome := ⟨_, rfl⟩
  rw [← hsN, ← hos] at HOF
  rw [← hoN, ← hob] at HOT
  rw [← hsN] at hob1
  rw [← hoN] at hob2
  have HSN := Lib.hid hsN
  have HON := Lib.hid hoN
  have HOS := Lib.hid hos
  have HOB := Lib.hid hob
  have HNU := Lib.hid hg.nums
  obtain ⟨n, hn⟩ : ∃ n, n = p.ros.length := ⟨_, rfl⟩
  have HN := Lib.hid hn
  have HSO := Lib.hid fun (B k : Nat) (v : Value) (A : Option Addr) (c : Nat) (hv : v = .slice A k c) (xs : List MvT) (W : World) (ho : moveK.Own B W v xs) (hk : xs.length = k) (hl : k ≤ 19) => sortM_any B k v A c hv xs W ho hk hl
  clear h1 hg ht hN hofb hsN hoN hos hob hn hlb HO1
  have F1 : Fence.wide.fn 57 := trivial
  have F2 : Fence.wide.fn 58 := trivial
  have F3 : Fence.wide.fn 59 := trivial
  have F4 : Fence.wide.fn 60 := trivial
  have F58 : Fence.wide.fn 34 := trivial
  refine (callsIn_wide (n := 6)).1 ?_
  refine callsIn_of_wp_marks Tryz.func33 rfl trivial ?_ rfl
  simp only [Tryz.ntmps33, List.size_toArray, List.length_cons, List.length_nil, Nat.reduceAdd, Nat.reduceSub, Array.replicate_succ, Array.replicate_zero, List.push_toArray, List.append_toArray, List.nil_append, List.cons_append]
  gi_wp2
  refine lay_callsI (fun W => BoxAt w.heap.size #[.pointer (some ⟨b1, 0, none⟩)] 68 W ∧ BoxAt (w.heap.size + 1) #[.pointer (some ⟨b1, 0, none⟩)] 68 W ∧ Ext w W) ⟨(BoxAt.new w _ _).ext ((Ext.refl _).alloc _), ?_, by (repeat' (first | with_reducible exact Ext.refl _ | with_reducible apply Ext.alloc | with_reducible apply Ext.drew | with_reducible apply Ext.drewN | with_reducible refine Ext.setCell ?_ ?_ _ | with_reducible apply Ext.step | with_reducible assumption | with_reducible exact Nat.le_refl _ | (simp; done) | (simp; omega)))⟩ ?_
  · have := BoxAt.new (w.alloc (.cells #[.pointer (some ⟨b1, 0, none⟩)] 68)) #[.pointer (some ⟨b1, 0, none⟩)] 68
    simpa using this
  rintro W0 ⟨bx4, bx5, x0⟩
  refine (callsIn_wide.2 (HC1.out _ x0)).mono ?_
  rintro e W1 ⟨rfl, x1⟩
  have HX1 := Lib.hid (x0.trans x1)
  have HB4 := Lib.hid (bx4.ext x1)
  have HB5 := Lib.hid (bx5.ext x1)
  clear x0 x1 bx4 bx5
  have c4 := HB4.out.cell (i := 0) rfl
  have c5 := HB5.out.cell (i := 0) rfl
  have k7 : W1.cell? ⟨b1, 7, none⟩ = some (.int .i64 (n : Int)) := by rw [HN.out]; exact (HB1.out.box.ext HX1.out).cell (i := 7) rfl
  have k9 : W1.cell? ⟨b1, 9, none⟩ = some (.int .i64 (t : Int)) := by rw [← HPV.out]; exact (HB1.out.box.ext HX1.out).cell (i := 9) rfl
  have y4 := But.cells (D := []) c4 (by simp)
  have y5 := But.cells (D := []) c5 (by simp)
  have y7 := But.cells (D := []) k7 (by simp)
  have y9 := But.cells (D := []) k9 (by simp)
  have l4 := cell_lt c4
  have l5 := cell_lt c5
  have l7 := cell_lt k7
  clear c4 c5 k7 k9
  gi_wp2
  refine wpIn_region_steps [] 25 [(0, true), (1, true), (2, true), (3, true), (4, true), (5, true), (6, true), (7, true), (8, true), (9, true), (10, true), (11, true), (12, true), (13, true), (14, true), (15, true), (16, true), (17, true), (18, true), (19, true), (20, true), (21, true), (22, true), (23, true), (24, true)] (by kernel_rfl) (by decide +kernel) ?_
  iterate 23 (refine wpSD_q (by rfl) (fun _ _ _ => trivial) (fun K hK => ?_); go_simp; refine hK _ ?_; clear hK K)
  refine wpSD_q (by rfl) (fun _ _ _ => trivial) (fun K hK => ?_)
  go_simp
  refine ⟨.int .i64 (N : Int), fun δ => callsIn_wide.2 (HC1.out δ.wd (HX1.out.trans (ext_but0 δ.but))), hK _ ?_⟩
  clear hK K
  refine wpSD_q (by rfl) (fun _ _ _ => trivial) (fun K hK => ?_)
  go_simp
  refine hK _ ?_
  clear hK K
  refine wpSD_nil ?_
  intro W2 x2
  have HX2 := Lib.hid (HX1.out.trans x2)
  have HB42 := Lib.hid (HB4.out.ext x2)
  have HB52 := Lib.hid (HB5.out.ext x2)
  clear x2 y4 y5 y7 y9 l4 l5 l7
  have c4 := HB42.out.cell (i := 0) rfl
  have c5 := HB52.out.cell (i := 0) rfl
  have l4 := cell_lt c4
  have l5 := cell_lt c5
  simp only [List.drop_succ_cons, List.drop_zero]
  gi_wp2
  refine (callsIn_wide.2 (HOF.out _ HX2.out)).mono ?_
  rintro e W3 ⟨rfl, x3⟩
  have HX3 := Lib.hid (HX2.out.trans x3)
  have HB43 := Lib.hid (HB42.out.ext x3)
  have HB53 := Lib.hid (HB52.out.ext x3)
  clear x3 c4 c5 l4 l5
  have c4 := HB43.out.cell (i := 0) rfl
  have c5 := HB53.out.cell (i := 0) rfl
  have l4 := cell_lt c4
  have l5 := cell_lt c5
  gi_wp2
  refine lay_callsI (fun W => BoxAt W3.heap.size #[.int .i64 (sN : Int)] 3 W ∧ Ext W3 W) ⟨BoxAt.new W3 _ _, (Ext.refl _).alloc _⟩ ?_
  rintro W4 ⟨bx9, x4⟩
  refine (callsIn_wide.2 (HOT.out _ (HX3.out.trans x4))).mono ?_
  rintro e W5 ⟨rfl, x5⟩
  have HX5 := Lib.hid (HX3.out.trans (x4.trans x5))
  have HB44 := Lib.hid (HB43.out.ext (x4.trans x5))
  have HB54 := Lib.hid (HB53.out.ext (x4.trans x5))
  have HB9 := Lib.hid (bx9.ext x5)
  clear x4 x5 bx9 c4 c5 l4 l5
  gi_wp2
  refine lay_in (fun W => BoxAt W5.heap.size #[.int .i64 (oN : Int)] 3 W ∧ Ext W5 W) ⟨BoxAt.new W5 _ _, (Ext.refl _).alloc _⟩ ?_
  rintro W6 ⟨bx11, x6⟩
  have HX6 := Lib.hid (HX5.out.trans x6)
  have HB46 := Lib.hid (HB44.out.ext x6)
  have HB56 := Lib.hid (HB54.out.ext x6)
  have HB96 := Lib.hid (HB9.out.ext x6)
  have HB11 := Lib.hid bx11
  have HBS := Lib.hid (show BenchCs b1 W6 p v lv (t : Int) from by
    have hb := (HB1.out.ext HX6.out).cs
    rwa [HPV.out] at hb)
  have HLB6 := Lib.hid (HLB.out.ext HX6.out)
  have hb1l : b1 ≠ lb := fun e => by
    have h2 := HB1.out.box
    have h3 := HLB.out
    rw [e] at h2
    unfold BoxAt at h2 h3
    rw [h2] at h3
    simp at h3
  have hb16 : b1 < W6.heap.size := Nat.lt_of_lt_of_le HB1.out.box.lt HX6.out.bel.size
  obtain ⟨b4, hb4⟩ : ∃ b, b = w.heap.size := ⟨_, rfl⟩
  obtain ⟨b9, hb9⟩ : ∃ b, b = W3.heap.size := ⟨_, rfl⟩
  obtain ⟨b11, hb11⟩ : ∃ b, b = W5.heap.size := ⟨_, rfl⟩
  have hn4 : b4 ≠ lb ∧ b4 + 1 ≠ lb ∧ b9 ≠ lb ∧ b11 ≠ lb := by
    have h3 := HX3.out.bel.size
    have h5 := HX5.out.bel.size
    omega
  rw [← hb4] at HB46 HB56 ⊢
  rw [← hb9] at HB96 ⊢
  rw [← hb11] at HB11 ⊢
  have HN4 := Lib.hid hn4
  have HBW := Lib.hid hb4
  clear x6 bx11 hb4 hb9 hb11 hn4
  have hlb6 : lb < W6.heap.size := HLB6.out.lt
  refine wpIn_loop (fun a wr => ∃ (c : Nat) (Ds : List Nat), SyC b1 lb b4 b9 b11 N os ob c Ds a ∧ c ≤ N ∧ SymW W6 lb (symTo p t N c) Ds wr)
    (fun a _ => N - (intOf (a.tmps.getD 65 undef)).toNat)
    ⟨0, [], SyC.mk .., Nat.zero_le _, But.refl _ _, Mks.nil _ _, _, HLB6.out, EK.Own.nil _ _⟩ ?_
  rintro a wr ⟨c, Ds, ⟨u, rfl⟩, hc, hw⟩
  have HW := Lib.hid hw
  clear hw
  by_cases hcN : c < N
  · have hci : (c : Int) < (N : Int) := by omega
    gi_wp2
    refine wpIn_scope ?_
    gi_wp2
    refine wpIn_label ?_
    gi_wp2
    refine lay_in (fun W => BoxAt wr.heap.size #[.int .i64 (c : Int)] 3 W ∧ BoxAt (wr.heap.size + 1) (mvC (c : Int)) 78 W ∧ Ext wr W) ⟨(BoxAt.new wr _ _).ext ((Ext.refl _).alloc _), ?_, by (repeat' (first | with_reducible exact Ext.refl _ | with_reducible apply Ext.alloc | with_reducible apply Ext.drew | with_reducible apply Ext.drewN | with_reducible refine Ext.setCell ?_ ?_ _ | with_reducible apply Ext.step | with_reducible assumption | with_reducible exact Nat.le_refl _ | (simp; done) | (simp; omega)))⟩ ?_
    · have := BoxAt.new (wr.alloc (.cells #[.int .i64 (c : Int)] 3)) (mvC (c : Int)) 78
      simp only [World.size_alloc] at this
      exact this
    rintro W7 ⟨bx13, bxm, x7⟩
    have HX7 := Lib.hid x7
    have HB13 := Lib.hid bx13
    have HBM := Lib.hid bxm
    have HM7 := Lib.hid (HW.out.mks.ext x7)
    have HS7 := Lib.hid (show W6.heap.size ≤ W7.heap.size from Nat.le_trans HW.out.but.size x7.bel.size)
    have HB7 := Lib.hid (HW.out.but.ext x7)
    obtain ⟨b13, hb13⟩ : ∃ b, b = wr.heap.size := ⟨_, rfl⟩
    rw [← hb13] at HB13 HBM ⊢
    have HWR := Lib.hid hb13
    clear bx13 bxm x7 hb13
    refine wpIn_loop (fun a wk => ∃ (k : Nat) (ol : Value) (Es : List Nat), SyK b1 lb b4 b9 b11 N os ob c b13 ol k Es a ∧ k ≤ 4 ∧ moveK.Own W7.heap.size wk ol (rowM p t N c k) ∧ Ext W7 wk ∧ Mks W6.heap.size Es wk)
      (fun a _ => 4 - (intOf (a.tmps.getD 78 undef)).toNat)
      ⟨0, .slice none 0 0, Ds, SyK.mk .., Nat.zero_le _, EK.Own.nil _ _, Ext.refl _, HM7.out⟩ ?_
    rintro a wk ⟨k, ol, Es, ⟨u, rfl⟩, hk, hol, hxk, hmk⟩
    have HOL := Lib.hid hol
    have HXK := Lib.hid hxk
    have HMK := Lib.hid hmk
    by_cases hk4 : k < 4
    · have hki : (k : Int) < 4 := by omega
      obtain ⟨m0, m1, m2, m3⟩ := mvC_at (HBM.out.ext hxk) hk4
      have lm := cell_lt m0
      have HKM := Lib.hid (show ∀ x, kindO p t N c (kindM k) (kindB k) = some x → rowM p t N c (k + 1) = rowM p t N c k ++ [x] from fun x => rowM_some)
      have HKN := Lib.hid (show kindO p t N c (kindM k) (kindB k) = none → rowM p t N c (k + 1) = rowM p t N c k from rowM_none)
      have hrl := rowM_len p t N c k
      obtain ⟨mi, hmi⟩ : ∃ z, z = kindM k := ⟨_, rfl⟩
      obtain ⟨bk, hbk⟩ : ∃ z, z = kindB k := ⟨_, rfl⟩
      rw [← hmi] at m2 HKM HKN
      rw [← hbk] at m3 HKM HKN
      clear hol hxk hmk hmi hbk
      rcases mi with _ | _ <;> rcases bk with _ | _
      · cases os
        · have HNO := Lib.hid (HKN.out (show kindO p t N c false false = none by unfold kindO; rw [← HOS.out]; rfl))
          gi_wp2
          refine ⟨⟨k + 1, ol, Es, SyK.mk .., by omega, by rw [HNO.out]; exact HOL.out.ext ((Ext.refl _).alloc _), HXK.out.alloc _, HMK.out.ext ((Ext.refl _).alloc _)⟩, ?_⟩
          show 4 - (intOf (.int .i64 ((k : Int) + 1))).toNat < 4 - (intOf (.int .i64 (k : Int))).toNat
          simp only [intOf]
          omega
        · have HB4k := Lib.hid (show BoxAt b4 #[.pointer (some ⟨b1, 0, none⟩)] 68 wk from (HB46.out.but HB7.out (by rw [List.mem_singleton]; exact HN4.out.1)).ext HXK.out)
          have c4k := HB4k.out.cell (i := 0) rfl
          have l4k := cell_lt c4k
          gi_wp2
          refine (phases_in Fence.wide _ trivial rfl b1 0 (N : Int) _).mono ?_
          rintro e W8 ⟨rfl, hw8⟩
          have X8 := Lib.hid (show Ext wk W8 from by rw [hw8]; exact ((((Ext.refl _).alloc _).alloc _).alloc _).alloc _)
          have HB16 := Lib.hid (show BoxAt wk.heap.size #[.int .i64 (c : Int), .int .i64 0, .bool false, .bool false] 78 W8 from by rw [hw8]; exact (BoxAt.new wk _ _).ext ((((Ext.refl _).alloc _).alloc _).alloc _))
          have hks : W6.heap.size ≤ W7.heap.size ∧ W7.heap.size ≤ wk.heap.size := ⟨HS7.out, HXK.out.bel.size⟩
          have HPA := Lib.hid (show PhsAt W8 [wk.heap.size] b1 (wk.heap.size + 1) (wk.heap.size + 1 + 1) (wk.heap.size + 1 + 1 + 1) N p v lv (t : Int) from
            ⟨by rw [hw8]; go_cell, by rw [hw8]; go_cell, by rw [hw8]; go_cell, fun i y hy => X8.out.cell_some (HXK.out.cell_some (HB7.out.cell (HBS.out i y hy) (by rw [List.mem_singleton]; exact hb1l))), notin_lt (by omega), notin_gt (by omega), notin_gt (by omega), notin_gt (by omega)⟩)
          have HB48 := Lib.hid (show BoxAt b4 #[.pointer (some ⟨b1, 0, none⟩)] 68 W8 from HB4k.out.ext X8.out)
          have HB58 := Lib.hid (show BoxAt (b4 + 1) #[.pointer (some ⟨b1, 0, none⟩)] 68 W8 from ((HB56.out.but HB7.out (by rw [List.mem_singleton]; exact HN4.out.2.1)).ext HXK.out).ext X8.out)
          have HB98 := Lib.hid (show BoxAt b9 #[.int .i64 (sN : Int)] 3 W8 from ((HB96.out.but HB7.out (by rw [List.mem_singleton]; exact HN4.out.2.2.1)).ext HXK.out).ext X8.out)
          have HB118 := Lib.hid (show BoxAt b11 #[.int .i64 (oN : Int)] 3 W8 from ((HB11.out.but HB7.out (by rw [List.mem_singleton]; exact HN4.out.2.2.2)).ext HXK.out).ext X8.out)
          have HB138 := Lib.hid (show BoxAt b13 #[.int .i64 (c : Int)] 3 W8 from (HB13.out.ext HXK.out).ext X8.out)
          have s4 : b4 < wk.heap.size ∧ b4 + 1 < wk.heap.size ∧ b9 < wk.heap.size ∧ b11 < wk.heap.size ∧ b13 < wk.heap.size := by
            have h1 := HB46.out.lt
            have h2 := HB56.out.lt
            have h3 := HB96.out.lt
            have h4 := HB11.out.lt
            have h5 := HB13.out.lt
            omega
          have hb1lt : b1 < W8.heap.size := by have := X8.out.bel.size; omega
          have HS4 := Lib.hid s4
          have HKS := Lib.hid hks
          clear m0 m1 m2 m3 lm hw8 s4 c4k l4k
          simp only [World.size_alloc]
          gi_wp2
          refine wpIn_range_x (N := N) 3 (fun s : Int => mvS wk.heap.size (c : Int) s false false) (stepZ p t false false c) 0 [wk.heap.size] rfl (by decide) (gf := 78) rfl trivial (fun _ _ => rfl)
            (phs_seq 5 (by decide) _ b1 _ _ _ N p v lv (t : Int) HNU.out (by omega) W8 HPA.out hb1lt) (fun _ => rfl) (fun d hd => by rw [List.mem_singleton] at hd; subst hd; exact HB16.out.lt) (mvS_of HB16.out)
            ?g00 ?assign00 ?body00 ?done00 ?stop00
          case assign00 =>
            intro l x W K hW hK
            simp only [phsEnc]
            gi_wp2
            refine hK _ _ (Ext.refl _) ?_
            rfl
          case body00 =>
            intro l s x W hl _ hlr hst
            clear hlr
            have HST := Lib.hid hst
            have hwk8 : wk.heap.size < W8.heap.size := HB16.out.lt
            have c13 := hst.but.cell (HB138.out.cell (i := 0) rfl) (notin_lt HS4.out.2.2.2.2)
            have c9 := hst.but.cell (HB98.out.cell (i := 0) rfl) (notin_lt HS4.out.2.2.1)
            have c11 := hst.but.cell (HB118.out.cell (i := 0) rfl) (notin_lt HS4.out.2.2.2.1)
            obtain ⟨xv, hxv⟩ : ∃ z, z = x.val := ⟨_, rfl⟩
            have hxN : xv < N := by rw [hxv]; exact x.isLt
            obtain ⟨pz1, pz2⟩ := phaseZ_bd HNU.out (xv : Int)
            obtain ⟨k1, hk1⟩ : ∃ k : Nat, phaseZ p (xv : Int) = (k : Int) := ⟨(phaseZ p (xv : Int)).toNat, by omega⟩
            have hk1b : k1 < 96 := by have := HNU.out.n2; omega
            have HK1 := Lib.hid hk1
            have HXV := Lib.hid hxv
            have hx0 : ((x.val : Nat) : Int) = (xv : Int) := by rw [hxv]
            rw [hx0, hk1]
            have wa : IntKind.i64.wrap ((c : Int) + (xv : Int)) = (c : Int) + (xv : Int) := IntWalk.i64_in _ (by omega)
            have wb : IntKind.i64.wrap ((c : Int) - (xv : Int)) = (c : Int) - (xv : Int) := IntWalk.i64_in _ (by omega)
            have wc : IntKind.i64.wrap ((sN : Int) - (k1 : Int)) = (sN : Int) - (k1 : Int) := IntWalk.i64_in _ (by omega)
            have wd : IntKind.i64.wrap ((oN : Int) + (k1 : Int)) = (oN : Int) + (k1 : Int) := IntWalk.i64_in _ (by omega)
            have y13 := But.cells (D := []) c13 (by simp)
            have y9 := But.cells (D := []) c9 (by simp)
            have l13 := cell_lt c13
            have l9 := cell_lt c9
            clear hst hx0 hk1 pz1 pz2 hxv
            have HC13 := Lib.hid c13
            have HC11 := Lib.hid c11
            clear c13 c9 c11
            gi_wp2
            refine wpIn_region_steps [] 7 [(0, true), (1, true), (2, true), (3, true), (4, true), (5, true), (6, true)] (by kernel_rfl) (by decide +kernel) ?_
            iterate 7 (refine wpSD_q (by rfl) (fun _ _ _ => trivial) (fun K hK => ?_); go_simp; refine hK _ ?_; clear hK K)
            refine wpSD_nil ?_
            intro Wa xa
            have HSA := Lib.hid (HST.out.ext xa)
            have HXA := Lib.hid xa
            have c13 := xa.cell_some HC13.out
            have c11 := xa.cell_some HC11.out
            have l13 := cell_lt c13
            have l11 := cell_lt c11
            clear xa y13 y9 l9
            simp only [List.drop_succ_cons, List.drop_zero]
            obtain ⟨⟨a0, a1, a2, a3⟩, -⟩ := mvS_at HSA.out.cells
            have la := cell_lt a0
            gi_wp2
            refine lay_in (fun W => BoxAt Wa.heap.size #[.int .i64 (c : Int), .int .i64 s, .bool false, .bool false] 78 W ∧ Ext Wa W) ⟨BoxAt.new Wa _ _, (Ext.refl _).alloc _⟩ ?_
            rintro Wb ⟨bx21, xb⟩
            have HSB := Lib.hid (HSA.out.ext xb)
            have HBB := Lib.hid bx21
            obtain ⟨b21, hb21⟩ : ∃ b, b = Wa.heap.size := ⟨_, rfl⟩
            rw [← hb21] at HBB ⊢
            have HBL := Lib.hid (show b21 < Wb.heap.size from HBB.out.lt)
            have HWA := Lib.hid (show W8.heap.size ≤ b21 by rw [hb21]; exact HSA.out.but.size)
            have HWL := Lib.hid (show W.heap.size ≤ b21 by rw [hb21]; exact HXA.out.bel.size)
            have HXB := Lib.hid (HXA.out.trans xb)
            clear xb bx21 a0 a1 a2 a3 la hb21 c13 c11 l13 l11
            obtain ⟨qz1, qz2⟩ := phaseZ_bd HNU.out ((c : Int) + (xv : Int))
            obtain ⟨k2, hk2⟩ : ∃ k : Nat, phaseZ p ((c : Int) + (xv : Int)) = (k : Int) := ⟨(phaseZ p ((c : Int) + (xv : Int))).toNat, by omega⟩
            have hk2b : k2 < 96 := by have := HNU.out.n2; omega
            have HPH := Lib.hid fun (W' : World) (x : Below b21 Wb W') => (show Calls Tryz.prog 32 #[.pointer (some ⟨b1, 0, none⟩), .int .i64 ((c : Int) + (xv : Int))] W' fun e w' => e = .returned (.int .i64 (k2 : Int)) ∧ Ext W' w' from by
              have hcs : BenchCs b1 W' p v lv (t : Int) := fun i y hy => by
                rw [x.cell (p := ⟨b1, i, none⟩) (Nat.lt_of_lt_of_le hb1lt HWA.out)]
                exact HSB.out.but.cell (HPA.out.cs i y hy) (notin_lt (by omega))
              have := phase_cells b1 p v lv (t : Int) ((c : Int) + (xv : Int)) W' hcs HNU.out (by omega)
              rwa [hk2] at this)
            obtain ⟨yz, hyz⟩ : ∃ z, z = (((sN : Int) - (k1 : Int)) + (k2 : Int)) % (t : Int) := ⟨_, rfl⟩
            have HTZ := Lib.hid (show turnZ p t false false c xv = yz by
              unfold turnZ toJ
              simp only [Bool.false_eq_true, if_false]
              rw [← HSN.out, HK1.out, hk2]
              exact hyz.symm)
            have HMD := Lib.hid fun W' : World => (show Calls Tryz.prog 31 #[.int .i64 (((sN : Int) - (k1 : Int)) + (k2 : Int)), .int .i64 (t : Int)] W' fun e w' => e = .returned (.int .i64 yz) ∧ Ext W' w' from by
              have := modulo_any (((sN : Int) - (k1 : Int)) + (k2 : Int)) (t : Int) W' (by omega) (by omega)
              rw [← hyz] at this
              exact this.mono (by rintro e w' ⟨h1, rfl⟩; exact ⟨h1, Ext.refl _⟩))
            have wk2 : IntKind.i64.wrap (((sN : Int) - (k1 : Int)) + (k2 : Int)) = ((sN : Int) - (k1 : Int)) + (k2 : Int) := IntWalk.i64_in _ (by omega)
            have keepW : ∀ (b o : Nat) (v : Value), b < wk.heap.size → W8.cell? ⟨b, o, none⟩ = some v → Wb.cell? ⟨b, o, none⟩ = some v := fun b o v hb hc => HSB.out.but.cell hc (notin_lt hb)
            have c4 := keepW _ 0 _ HS4.out.1 (HB48.out.cell (i := 0) rfl)
            have c5 := keepW _ 0 _ HS4.out.2.1 (HB58.out.cell (i := 0) rfl)
            have k9 : Wb.cell? ⟨b1, 9, none⟩ = some (.int .i64 (t : Int)) := keepW _ 9 _ (by have := HKS.out; omega) (HPA.out.cs 9 _ rfl)
            have l4 := cell_lt c4
            have l5 := cell_lt c5
            have l9 := cell_lt k9
            have hB4 : b4 < b21 := by have := HWA.out; have := HS4.out; omega
            have hB5 : b4 + 1 < b21 := by have := HWA.out; have := HS4.out; omega
            have hB1 : b1 < b21 := by have := HWA.out; omega
            clear hk2 qz1 qz2 keepW hyz
            refine wpIn_region_tree (B := b21) 12 [0, 1, 2, 3, 4, 5, 6, 7, 8, 9, 10] (Nat.le_of_lt HBL.out) (by kernel_rfl) (by decide +kernel) ?_
            iterate 3 (refine wpQ_step (by rfl) (fun _ _ _ => trivial) (fun K hK => ?_); go_simp; refine hK _ ?_; clear hK K)
            refine wpQ_step (by rfl) (fun _ _ _ => trivial) (fun K hK => ?_)
            go_simp
            refine ⟨.int .i64 (k2 : Int), fun δ => CallsIn.inRound l (callsIn_wide.2 (HPH.out δ.wd δ.bel)), hK _ ?_⟩
            clear hK K
            iterate 5 (refine wpQ_step (by rfl) (fun _ _ _ => trivial) (fun K hK => ?_); go_simp; refine hK _ ?_; clear hK K)
            refine wpQ_step (by rfl) (fun _ _ _ => trivial) (fun K hK => ?_)
            go_simp
            refine ⟨.int .i64 yz, fun δ => CallsIn.inRound l (callsIn_wide.2 (HMD.out δ.wd)), hK _ ?_⟩
            clear hK K
            refine wpQ_step (by rfl) (fun _ _ _ => trivial) (fun K hK => ?_)
            go_simp
            refine hK _ ?_
            clear hK K
            refine wpQ_nil ?_
            change wpAnyT _ _ _ _ _ _ _ _ _ (0 + 1) _ _ _
            refine wpAnyT_step [11] (by decide +kernel) (by decide) (by decide) ?_
            intro i hi
            simp only [List.mem_cons, List.not_mem_nil, or_false] at hi
            subst hi
            refine ⟨_, by rfl, midT_step (by rfl) (fun _ _ _ => trivial) (fun δ K' hK' => ?_)⟩
            have E1 := Lib.hid (show Ext Wb δ.wd from ⟨δ, rfl⟩)
            have d1 := (HBB.out.ext E1.out).cell (i := 1) rfl
            have e1 := frozen_of_row _ _ 1 _ _ (HBB.out.ext E1.out)
            have ld := cell_lt d1
            go_simp
            refine ⟨(Below.refl _ _).setCell (p := ⟨b21, 1, none⟩) (Nat.le_refl _) _, hK' _ _ ?_⟩
            clear hK' K'
            refine ⟨by decide +kernel, fun Wc xc => ?_⟩
            have h16 : wk.heap.size < b21 := Nat.lt_of_lt_of_le hwk8 HWA.out
            have HSC := Lib.hid (((HSB.out.ext E1.out).setFar (o := 1) (v := .int .i64 yz) HWA.out (fun t ht => by
              simp only [mvS, List.mem_cons, List.not_mem_nil, or_false] at ht
              rcases ht with rfl | rfl | rfl | rfl <;> exact Nat.ne_of_lt h16)).ext xc)
            have HBC := Lib.hid (show BoxAt b21 #[.int .i64 (c : Int), .int .i64 yz, .bool false, .bool false] 78 Wc from ((HBB.out.ext E1.out).setCell 1 (.int .i64 yz)).ext xc)
            have HXC := Lib.hid (show But [wk.heap.size] W Wc from (((HXB.out.trans E1.out).setCell (p := ⟨b21, 1, none⟩) HWL.out _).trans xc).but)
            clear xc d1 e1 ld c4 c5 k9 l4 l5 l9
            simp only [List.drop_succ_cons, List.drop_nil]
            obtain ⟨⟨a0, a1, a2, a3⟩, f0, f1, f2, f3⟩ := mvS_at HSC.out.cells
            have g0 := HBC.out.cell (i := 0) rfl
            have g1 := HBC.out.cell (i := 1) rfl
            have g2 := HBC.out.cell (i := 2) rfl
            have g3 := HBC.out.cell (i := 3) rfl
            have la := cell_lt a0
            have lg := cell_lt g0
            by_cases hx0 : xv = 0
            · subst hx0
              have HSZ := Lib.hid (show stepZ p t false false c s x.val = some yz by rw [← HXV.out]; unfold stepZ; rw [if_pos rfl, HTZ.out])
              gi_wp2
              exact ⟨yz, HSZ.out, ((((HXC.out.setCell (p := ⟨wk.heap.size, 0, none⟩) (by simp) _).setCell (p := ⟨wk.heap.size, 1, none⟩) (by simp) _).setCell (p := ⟨wk.heap.size, 2, none⟩) (by simp) _).setCell (p := ⟨wk.heap.size, 3, none⟩) (by simp) _), mvS_put HSC.out.cells⟩
            · have hx0b : ((xv : Int) == 0) = false := by simp; omega
              by_cases hsy : s = yz
              · have HSZ := Lib.hid (show stepZ p t false false c s x.val = some s by rw [← HXV.out]; unfold stepZ; rw [if_neg hx0, HTZ.out, if_pos hsy])
                subst hsy
                gi_wp2
                exact ⟨s, HSZ.out, HXC.out, HSC.out.cells⟩
              · have HSZ := Lib.hid (show stepZ p t false false c s x.val = none by rw [← HXV.out]; unfold stepZ; rw [if_neg hx0, HTZ.out, if_neg hsy])
                have hsyb : (s == yz) = false := by simp [hsy]
                gi_wp2
                exact ⟨rfl, HSZ.out, HXC.out⟩
          case done00 =>
            intro M s W hM hf hst hmark
            have hwk8 : wk.heap.size < W8.heap.size := HB16.out.lt
            have HSM := Lib.hid (HKM.out ((c : Int), s, false, false) (by unfold kindO; rw [← HOS.out, if_pos rfl, hf]; rfl))
            obtain ⟨⟨a0, a1, a2, a3⟩, -⟩ := mvS_at hst.cells
            have la := cell_lt a0
            have HOW := Lib.hid ((HOL.out.ext X8.out).butN hst.but (fun g hg e => by have := (HOL.out.lt g hg).2; rw [List.mem_singleton] at e; omega))
            have HMW := Lib.hid (((HMK.out.ext X8.out).turn hst.but (fun e he => by rw [List.mem_singleton] at he; subst he; exact box_cells HB16.out)))
            have HXW := Lib.hid (hst.but.below (HXK.out.trans X8.out) (fun d hd => by rw [List.mem_singleton] at hd; subst hd; exact HKS.out.2))
            have HMM := Lib.hid (Mks.mark (M := M) (HMK.out.ext X8.out) HMW.out (by have := X8.out.bel.size; omega) hM hmark)
            have hW7W : W7.heap.size ≤ W.heap.size := HXW.out.bel.size
            clear hf hst hmark
            gi_wp2_with (gi_at_builtin; refine EK.app_in (K := moveK) (B := W7.heap.size) (xs := rowM p t N c k) (v := ol) rfl (.tmp 154) (.tmp 156) rfl W.heap.size 1 ((c : Int), s, false, false) rfl rfl (fun ii u hu => cell_new hu) (HOW.out.ext ((Ext.refl _).alloc _)) (by simp; omega) (by omega) ?_; intro v' w3 o3 b3 g3; have HO3 := Lib.hid o3; have HX3 := Lib.hid ((HXW.out.alloc (.cells #[.int .i64 (c : Int), .int .i64 s, .bool false, .bool false] 78)).below b3 (Nat.le_refl _)); have HM3 := Lib.hid ((HMM.out.ext ((Ext.refl W).alloc (.cells #[.int .i64 (c : Int), .int .i64 s, .bool false, .bool false] 78))).turn ((But.refl _ _).grown (D := ol.ownBlock.toList) g3 (fun r e => .inl (by rw [e]; simp))) (fun e he => (own_blockN (HOW.out.ext ((Ext.refl _).alloc _)) he).2)); clear o3 b3 g3)
            refine ⟨⟨k + 1, v', M :: Es, SyK.mk .., by omega, by rw [HSM.out]; exact HO3.out, HX3.out, HM3.out⟩, ?_⟩
            show 4 - (intOf (.int .i64 ((k : Int) + 1))).toNat < 4 - (intOf (.int .i64 (k : Int))).toNat
            simp only [intOf]
            omega
          case stop00 =>
            intro M W hM hf hbt hmark
            have hwk8 : wk.heap.size < W8.heap.size := HB16.out.lt
            have HNO := Lib.hid (HKN.out (show kindO p t N c false false = none by unfold kindO; rw [← HOS.out, if_pos rfl, hf]; rfl))
            have HOW := Lib.hid ((HOL.out.ext X8.out).butN hbt (fun g hg e => by have := (HOL.out.lt g hg).2; rw [List.mem_singleton] at e; omega))
            have HMW := Lib.hid (((HMK.out.ext X8.out).turn hbt (fun e he => by rw [List.mem_singleton] at he; subst he; exact box_cells HB16.out)))
            have HXW := Lib.hid (hbt.below (HXK.out.trans X8.out) (fun d hd => by rw [List.mem_singleton] at hd; subst hd; exact HKS.out.2))
            have HMM := Lib.hid (Mks.mark (M := M) (HMK.out.ext X8.out) HMW.out (by have := X8.out.bel.size; omega) hM hmark)
            clear hf hbt hmark
            gi_wp2
            refine ⟨⟨k + 1, ol, M :: Es, SyK.mk .., by omega, by rw [HNO.out]; exact HOW.out, HXW.out, HMM.out⟩, ?_⟩
            show 4 - (intOf (.int .i64 ((k : Int) + 1))).toNat < 4 - (intOf (.int .i64 (k : Int))).toNat
            simp only [intOf]
            omega
      · cases os
        · have HNO := Lib.hid (HKN.out (show kindO p t N c false true = none by unfold kindO; rw [← HOS.out]; rfl))
          gi_wp2
          refine ⟨⟨k + 1, ol, Es, SyK.mk .., by omega, by rw [HNO.out]; exact HOL.out.ext ((Ext.refl _).alloc _), HXK.out.alloc _, HMK.out.ext ((Ext.refl _).alloc _)⟩, ?_⟩
          show 4 - (intOf (.int .i64 ((k : Int) + 1))).toNat < 4 - (intOf (.int .i64 (k : Int))).toNat
          simp only [intOf]
          omega
        · have HB4k := Lib.hid (show BoxAt b4 #[.pointer (some ⟨b1, 0, none⟩)] 68 wk from (HB46.out.but HB7.out (by rw [List.mem_singleton]; exact HN4.out.1)).ext HXK.out)
          have c4k := HB4k.out.cell (i := 0) rfl
          have l4k := cell_lt c4k
          gi_wp2
          refine (phases_in Fence.wide _ trivial rfl b1 0 (N : Int) _).mono ?_
          rintro e W8 ⟨rfl, hw8⟩
          have X8 := Lib.hid (show Ext wk W8 from by rw [hw8]; exact ((((Ext.refl _).alloc _).alloc _).alloc _).alloc _)
          have HB16 := Lib.hid (show BoxAt wk.heap.size #[.int .i64 (c : Int), .int .i64 0, .bool false, .bool true] 78 W8 from by rw [hw8]; exact (BoxAt.new wk _ _).ext ((((Ext.refl _).alloc _).alloc _).alloc _))
          have hks : W6.heap.size ≤ W7.heap.size ∧ W7.heap.size ≤ wk.heap.size := ⟨HS7.out, HXK.out.bel.size⟩
          have HPA := Lib.hid (show PhsAt W8 [wk.heap.size] b1 (wk.heap.size + 1) (wk.heap.size + 1 + 1) (wk.heap.size + 1 + 1 + 1) N p v lv (t : Int) from
            ⟨by rw [hw8]; go_cell, by rw [hw8]; go_cell, by rw [hw8]; go_cell, fun i y hy => X8.out.cell_some (HXK.out.cell_some (HB7.out.cell (HBS.out i y hy) (by rw [List.mem_singleton]; exact hb1l))), notin_lt (by omega), notin_gt (by omega), notin_gt (by omega), notin_gt (by omega)⟩)
          have HB48 := Lib.hid (show BoxAt b4 #[.pointer (some ⟨b1, 0, none⟩)] 68 W8 from HB4k.out.ext X8.out)
          have HB58 := Lib.hid (show BoxAt (b4 + 1) #[.pointer (some ⟨b1, 0, none⟩)] 68 W8 from ((HB56.out.but HB7.out (by rw [List.mem_singleton]; exact HN4.out.2.1)).ext HXK.out).ext X8.out)
          have HB98 := Lib.hid (show BoxAt b9 #[.int .i64 (sN : Int)] 3 W8 from ((HB96.out.but HB7.out (by rw [List.mem_singleton]; exact HN4.out.2.2.1)).ext HXK.out).ext X8.out)
          have HB118 := Lib.hid (show BoxAt b11 #[.int .i64 (oN : Int)] 3 W8 from ((HB11.out.but HB7.out (by rw [List.mem_singleton]; exact HN4.out.2.2.2)).ext HXK.out).ext X8.out)
          have HB138 := Lib.hid (show BoxAt b13 #[.int .i64 (c : Int)] 3 W8 from (HB13.out.ext HXK.out).ext X8.out)
          have s4 : b4 < wk.heap.size ∧ b4 + 1 < wk.heap.size ∧ b9 < wk.heap.size ∧ b11 < wk.heap.size ∧ b13 < wk.heap.size := by
            have h1 := HB46.out.lt
            have h2 := HB56.out.lt
            have h3 := HB96.out.lt
            have h4 := HB11.out.lt
            have h5 := HB13.out.lt
            omega
          have hb1lt : b1 < W8.heap.size := by have := X8.out.bel.size; omega
          have HS4 := Lib.hid s4
          have HKS := Lib.hid hks
          clear m0 m1 m2 m3 lm hw8 s4 c4k l4k
          simp only [World.size_alloc]
          gi_wp2
          refine wpIn_range_x (N := N) 3 (fun s : Int => mvS wk.heap.size (c : Int) s false true) (stepZ p t false true c) 0 [wk.heap.size] rfl (by decide) (gf := 78) rfl trivial (fun _ _ => rfl)
            (phs_seq 5 (by decide) _ b1 _ _ _ N p v lv (t : Int) HNU.out (by omega) W8 HPA.out hb1lt) (fun _ => rfl) (fun d hd => by rw [List.mem_singleton] at hd; subst hd; exact HB16.out.lt) (mvS_of HB16.out)
            ?g01 ?assign01 ?body01 ?done01 ?stop01
          case assign01 =>
            intro l x W K hW hK
            simp only [phsEnc]
            gi_wp2
            refine hK _ _ (Ext.refl _) ?_
            rfl
          case body01 =>
            intro l s x W hl _ hlr hst
            clear hlr
            have HST := Lib.hid hst
            have hwk8 : wk.heap.size < W8.heap.size := HB16.out.lt
            have c13 := hst.but.cell (HB138.out.cell (i := 0) rfl) (notin_lt HS4.out.2.2.2.2)
            have c9 := hst.but.cell (HB98.out.cell (i := 0) rfl) (notin_lt HS4.out.2.2.1)
            have c11 := hst.but.cell (HB118.out.cell (i := 0) rfl) (notin_lt HS4.out.2.2.2.1)
            obtain ⟨xv, hxv⟩ : ∃ z, z = x.val := ⟨_, rfl⟩
            have hxN : xv < N := by rw [hxv]; exact x.isLt
            obtain ⟨pz1, pz2⟩ := phaseZ_bd HNU.out (xv : Int)
            obtain ⟨k1, hk1⟩ : ∃ k : Nat, phaseZ p (xv : Int) = (k : Int) := ⟨(phaseZ p (xv : Int)).toNat, by omega⟩
            have hk1b : k1 < 96 := by have := HNU.out.n2; omega
            have HK1 := Lib.hid hk1
            have HXV := Lib.hid hxv
            have hx0 : ((x.val : Nat) : Int) = (xv : Int) := by rw [hxv]
            rw [hx0, hk1]
            have wa : IntKind.i64.wrap ((c : Int) + (xv : Int)) = (c : Int) + (xv : Int) := IntWalk.i64_in _ (by omega)
            have wb : IntKind.i64.wrap ((c : Int) - (xv : Int)) = (c : Int) - (xv : Int) := IntWalk.i64_in _ (by omega)
            have wc : IntKind.i64.wrap ((sN : Int) - (k1 : Int)) = (sN : Int) - (k1 : Int) := IntWalk.i64_in _ (by omega)
            have wd : IntKind.i64.wrap ((oN : Int) + (k1 : Int)) = (oN : Int) + (k1 : Int) := IntWalk.i64_in _ (by omega)
            have y13 := But.cells (D := []) c13 (by simp)
            have y9 := But.cells (D := []) c9 (by simp)
            have l13 := cell_lt c13
            have l9 := cell_lt c9
            clear hst hx0 hk1 pz1 pz2 hxv
            have HC13 := Lib.hid c13
            have HC11 := Lib.hid c11
            clear c13 c9 c11
            gi_wp2
            refine wpIn_region_steps [] 7 [(0, true), (1, true), (2, true), (3, true), (4, true), (5, true), (6, true)] (by kernel_rfl) (by decide +kernel) ?_
            iterate 7 (refine wpSD_q (by rfl) (fun _ _ _ => trivial) (fun K hK => ?_); go_simp; refine hK _ ?_; clear hK K)
            refine wpSD_nil ?_
            intro Wa xa
            have HSA := Lib.hid (HST.out.ext xa)
            have HXA := Lib.hid xa
            have c13 := xa.cell_some HC13.out
            have c11 := xa.cell_some HC11.out
            have l13 := cell_lt c13
            have l11 := cell_lt c11
            clear xa y13 y9 l9
            simp only [List.drop_succ_cons, List.drop_zero]
            obtain ⟨⟨a0, a1, a2, a3⟩, -⟩ := mvS_at HSA.out.cells
            have la := cell_lt a0
            gi_wp2
            refine lay_in (fun W => BoxAt Wa.heap.size #[.int .i64 (c : Int), .int .i64 s, .bool false, .bool true] 78 W ∧ Ext Wa W) ⟨BoxAt.new Wa _ _, (Ext.refl _).alloc _⟩ ?_
            rintro Wb ⟨bx21, xb⟩
            have HSB := Lib.hid (HSA.out.ext xb)
            have HBB := Lib.hid bx21
            obtain ⟨b21, hb21⟩ : ∃ b, b = Wa.heap.size := ⟨_, rfl⟩
            rw [← hb21] at HBB ⊢
            have HBL := Lib.hid (show b21 < Wb.heap.size from HBB.out.lt)
            have HWA := Lib.hid (show W8.heap.size ≤ b21 by rw [hb21]; exact HSA.out.but.size)
            have HWL := Lib.hid (show W.heap.size ≤ b21 by rw [hb21]; exact HXA.out.bel.size)
            have HXB := Lib.hid (HXA.out.trans xb)
            clear xb bx21 a0 a1 a2 a3 la hb21 c13 c11 l13 l11
            obtain ⟨qz1, qz2⟩ := phaseZ_bd HNU.out ((c : Int) - (xv : Int))
            obtain ⟨k2, hk2⟩ : ∃ k : Nat, phaseZ p ((c : Int) - (xv : Int)) = (k : Int) := ⟨(phaseZ p ((c : Int) - (xv : Int))).toNat, by omega⟩
            have hk2b : k2 < 96 := by have := HNU.out.n2; omega
            have HPH := Lib.hid fun (W' : World) (x : Below b21 Wb W') => (show Calls Tryz.prog 32 #[.pointer (some ⟨b1, 0, none⟩), .int .i64 ((c : Int) - (xv : Int))] W' fun e w' => e = .returned (.int .i64 (k2 : Int)) ∧ Ext W' w' from by
              have hcs : BenchCs b1 W' p v lv (t : Int) := fun i y hy => by
                rw [x.cell (p := ⟨b1, i, none⟩) (Nat.lt_of_lt_of_le hb1lt HWA.out)]
                exact HSB.out.but.cell (HPA.out.cs i y hy) (notin_lt (by omega))
              have := phase_cells b1 p v lv (t : Int) ((c : Int) - (xv : Int)) W' hcs HNU.out (by omega)
              rwa [hk2] at this)
            obtain ⟨yz, hyz⟩ : ∃ z, z = (((sN : Int) - (k1 : Int)) + (k2 : Int)) % (t : Int) := ⟨_, rfl⟩
            have HTZ := Lib.hid (show turnZ p t false true c xv = yz by
              unfold turnZ toJ
              simp only [Bool.false_eq_true, if_false, if_true]
              rw [← HSN.out, HK1.out, hk2]
              exact hyz.symm)
            have HMD := Lib.hid fun W' : World => (show Calls Tryz.prog 31 #[.int .i64 (((sN : Int) - (k1 : Int)) + (k2 : Int)), .int .i64 (t : Int)] W' fun e w' => e = .returned (.int .i64 yz) ∧ Ext W' w' from by
              have := modulo_any (((sN : Int) - (k1 : Int)) + (k2 : Int)) (t : Int) W' (by omega) (by omega)
              rw [← hyz] at this
              exact this.mono (by rintro e w' ⟨h1, rfl⟩; exact ⟨h1, Ext.refl _⟩))
            have wk2 : IntKind.i64.wrap (((sN : Int) - (k1 : Int)) + (k2 : Int)) = ((sN : Int) - (k1 : Int)) + (k2 : Int) := IntWalk.i64_in _ (by omega)
            have keepW : ∀ (b o : Nat) (v : Value), b < wk.heap.size → W8.cell? ⟨b, o, none⟩ = some v → Wb.cell? ⟨b, o, none⟩ = some v := fun b o v hb hc => HSB.out.but.cell hc (notin_lt hb)
            have c4 := keepW _ 0 _ HS4.out.1 (HB48.out.cell (i := 0) rfl)
            have c5 := keepW _ 0 _ HS4.out.2.1 (HB58.out.cell (i := 0) rfl)
            have k9 : Wb.cell? ⟨b1, 9, none⟩ = some (.int .i64 (t : Int)) := keepW _ 9 _ (by have := HKS.out; omega) (HPA.out.cs 9 _ rfl)
            have l4 := cell_lt c4
            have l5 := cell_lt c5
            have l9 := cell_lt k9
            have hB4 : b4 < b21 := by have := HWA.out; have := HS4.out; omega
            have hB5 : b4 + 1 < b21 := by have := HWA.out; have := HS4.out; omega
            have hB1 : b1 < b21 := by have := HWA.out; omega
            clear hk2 qz1 qz2 keepW hyz
            refine wpIn_region_tree (B := b21) 12 [0, 1, 2, 3, 4, 5, 6, 7, 8, 9, 10] (Nat.le_of_lt HBL.out) (by kernel_rfl) (by decide +kernel) ?_
            iterate 3 (refine wpQ_step (by rfl) (fun _ _ _ => trivial) (fun K hK => ?_); go_simp; refine hK _ ?_; clear hK K)
            refine wpQ_step (by rfl) (fun _ _ _ => trivial) (fun K hK => ?_)
            go_simp
            refine ⟨.int .i64 (k2 : Int), fun δ => CallsIn.inRound l (callsIn_wide.2 (HPH.out δ.wd δ.bel)), hK _ ?_⟩
            clear hK K
            iterate 5 (refine wpQ_step (by rfl) (fun _ _ _ => trivial) (fun K hK => ?_); go_simp; refine hK _ ?_; clear hK K)
            refine wpQ_step (by rfl) (fun _ _ _ => trivial) (fun K hK => ?_)
            go_simp
            refine ⟨.int .i64 yz, fun δ => CallsIn.inRound l (callsIn_wide.2 (HMD.out δ.wd)), hK _ ?_⟩
            clear hK K
            refine wpQ_step (by rfl) (fun _ _ _ => trivial) (fun K hK => ?_)
            go_simp
            refine hK _ ?_
            clear hK K
            refine wpQ_nil ?_
            change wpAnyT _ _ _ _ _ _ _ _ _ (0 + 1) _ _ _
            refine wpAnyT_step [11] (by decide +kernel) (by decide) (by decide) ?_
            intro i hi
            simp only [List.mem_cons, List.not_mem_nil, or_false] at hi
            subst hi
            refine ⟨_, by rfl, midT_step (by rfl) (fun _ _ _ => trivial) (fun δ K' hK' => ?_)⟩
            have E1 := Lib.hid (show Ext Wb δ.wd from ⟨δ, rfl⟩)
            have d1 := (HBB.out.ext E1.out).cell (i := 1) rfl
            have e1 := frozen_of_row _ _ 1 _ _ (HBB.out.ext E1.out)
            have ld := cell_lt d1
            go_simp
            refine ⟨(Below.refl _ _).setCell (p := ⟨b21, 1, none⟩) (Nat.le_refl _) _, hK' _ _ ?_⟩
            clear hK' K'
            refine ⟨by decide +kernel, fun Wc xc => ?_⟩
            have h16 : wk.heap.size < b21 := Nat.lt_of_lt_of_le hwk8 HWA.out
            have HSC := Lib.hid (((HSB.out.ext E1.out).setFar (o := 1) (v := .int .i64 yz) HWA.out (fun t ht => by
              simp only [mvS, List.mem_cons, List.not_mem_nil, or_false] at ht
              rcases ht with rfl | rfl | rfl | rfl <;> exact Nat.ne_of_lt h16)).ext xc)
            have HBC := Lib.hid (show BoxAt b21 #[.int .i64 (c : Int), .int .i64 yz, .bool false, .bool true] 78 Wc from ((HBB.out.ext E1.out).setCell 1 (.int .i64 yz)).ext xc)
            have HXC := Lib.hid (show But [wk.heap.size] W Wc from (((HXB.out.trans E1.out).setCell (p := ⟨b21, 1, none⟩) HWL.out _).trans xc).but)
            clear xc d1 e1 ld c4 c5 k9 l4 l5 l9
            simp only [List.drop_succ_cons, List.drop_nil]
            obtain ⟨⟨a0, a1, a2, a3⟩, f0, f1, f2, f3⟩ := mvS_at HSC.out.cells
            have g0 := HBC.out.cell (i := 0) rfl
            have g1 := HBC.out.cell (i := 1) rfl
            have g2 := HBC.out.cell (i := 2) rfl
            have g3 := HBC.out.cell (i := 3) rfl
            have la := cell_lt a0
            have lg := cell_lt g0
            by_cases hx0 : xv = 0
            · subst hx0
              have HSZ := Lib.hid (show stepZ p t false true c s x.val = some yz by rw [← HXV.out]; unfold stepZ; rw [if_pos rfl, HTZ.out])
              gi_wp2
              exact ⟨yz, HSZ.out, ((((HXC.out.setCell (p := ⟨wk.heap.size, 0, none⟩) (by simp) _).setCell (p := ⟨wk.heap.size, 1, none⟩) (by simp) _).setCell (p := ⟨wk.heap.size, 2, none⟩) (by simp) _).setCell (p := ⟨wk.heap.size, 3, none⟩) (by simp) _), mvS_put HSC.out.cells⟩
            · have hx0b : ((xv : Int) == 0) = false := by simp; omega
              by_cases hsy : s = yz
              · have HSZ := Lib.hid (show stepZ p t false true c s x.val = some s by rw [← HXV.out]; unfold stepZ; rw [if_neg hx0, HTZ.out, if_pos hsy])
                subst hsy
                gi_wp2
                exact ⟨s, HSZ.out, HXC.out, HSC.out.cells⟩
              · have HSZ := Lib.hid (show stepZ p t false true c s x.val = none by rw [← HXV.out]; unfold stepZ; rw [if_neg hx0, HTZ.out, if_neg hsy])
                have hsyb : (s == yz) = false := by simp [hsy]
                gi_wp2
                exact ⟨rfl, HSZ.out, HXC.out⟩
          case done01 =>
            intro M s W hM hf hst hmark
            have hwk8 : wk.heap.size < W8.heap.size := HB16.out.lt
            have HSM := Lib.hid (HKM.out ((c : Int), s, false, true) (by unfold kindO; rw [← HOS.out, if_pos rfl, hf]; rfl))
            obtain ⟨⟨a0, a1, a2, a3⟩, -⟩ := mvS_at hst.cells
            have la := cell_lt a0
            have HOW := Lib.hid ((HOL.out.ext X8.out).butN hst.but (fun g hg e => by have := (HOL.out.lt g hg).2; rw [List.mem_singleton] at e; omega))
            have HMW := Lib.hid (((HMK.out.ext X8.out).turn hst.but (fun e he => by rw [List.mem_singleton] at he; subst he; exact box_cells HB16.out)))
            have HXW := Lib.hid (hst.but.below (HXK.out.trans X8.out) (fun d hd => by rw [List.mem_singleton] at hd; subst hd; exact HKS.out.2))
            have HMM := Lib.hid (Mks.mark (M := M) (HMK.out.ext X8.out) HMW.out (by have := X8.out.bel.size; omega) hM hmark)
            have hW7W : W7.heap.size ≤ W.heap.size := HXW.out.bel.size
            clear hf hst hmark
            gi_wp2_with (gi_at_builtin; refine EK.app_in (K := moveK) (B := W7.heap.size) (xs := rowM p t N c k) (v := ol) rfl (.tmp 154) (.tmp 156) rfl W.heap.size 1 ((c : Int), s, false, true) rfl rfl (fun ii u hu => cell_new hu) (HOW.out.ext ((Ext.refl _).alloc _)) (by simp; omega) (by omega) ?_; intro v' w3 o3 b3 g3; have HO3 := Lib.hid o3; have HX3 := Lib.hid ((HXW.out.alloc (.cells #[.int .i64 (c : Int), .int .i64 s, .bool false, .bool true] 78)).below b3 (Nat.le_refl _)); have HM3 := Lib.hid ((HMM.out.ext ((Ext.refl W).alloc (.cells #[.int .i64 (c : Int), .int .i64 s, .bool false, .bool true] 78))).turn ((But.refl _ _).grown (D := ol.ownBlock.toList) g3 (fun r e => .inl (by rw [e]; simp))) (fun e he => (own_blockN (HOW.out.ext ((Ext.refl _).alloc _)) he).2)); clear o3 b3 g3)
            refine ⟨⟨k + 1, v', M :: Es, SyK.mk .., by omega, by rw [HSM.out]; exact HO3.out, HX3.out, HM3.out⟩, ?_⟩
            show 4 - (intOf (.int .i64 ((k : Int) + 1))).toNat < 4 - (intOf (.int .i64 (k : Int))).toNat
            simp only [intOf]
            omega
          case stop01 =>
            intro M W hM hf hbt hmark
            have hwk8 : wk.heap.size < W8.heap.size := HB16.out.lt
            have HNO := Lib.hid (HKN.out (show kindO p t N c false true = none by unfold kindO; rw [← HOS.out, if_pos rfl, hf]; rfl))
            have HOW := Lib.hid ((HOL.out.ext X8.out).butN hbt (fun g hg e => by have := (HOL.out.lt g hg).2; rw [List.mem_singleton] at e; omega))
            have HMW := Lib.hid (((HMK.out.ext X8.out).turn hbt (fun e he => by rw [List.mem_singleton] at he; subst he; exact box_cells HB16.out)))
            have HXW := Lib.hid (hbt.below (HXK.out.trans X8.out) (fun d hd => by rw [List.mem_singleton] at hd; subst hd; exact HKS.out.2))
            have HMM := Lib.hid (Mks.mark (M := M) (HMK.out.ext X8.out) HMW.out (by have := X8.out.bel.size; omega) hM hmark)
            clear hf hbt hmark
            gi_wp2
            refine ⟨⟨k + 1, ol, M :: Es, SyK.mk .., by omega, by rw [HNO.out]; exact HOW.out, HXW.out, HMM.out⟩, ?_⟩
            show 4 - (intOf (.int .i64 ((k : Int) + 1))).toNat < 4 - (intOf (.int .i64 (k : Int))).toNat
            simp only [intOf]
            omega
      · cases ob
        · have HNO := Lib.hid (HKN.out (show kindO p t N c true false = none by unfold kindO; rw [← HOB.out]; rfl))
          gi_wp2
          refine ⟨⟨k + 1, ol, Es, SyK.mk .., by omega, by rw [HNO.out]; exact HOL.out.ext ((Ext.refl _).alloc _), HXK.out.alloc _, HMK.out.ext ((Ext.refl _).alloc _)⟩, ?_⟩
          show 4 - (intOf (.int .i64 ((k : Int) + 1))).toNat < 4 - (intOf (.int .i64 (k : Int))).toNat
          simp only [intOf]
          omega
        · have HB4k := Lib.hid (show BoxAt b4 #[.pointer (some ⟨b1, 0, none⟩)] 68 wk from (HB46.out.but HB7.out (by rw [List.mem_singleton]; exact HN4.out.1)).ext HXK.out)
          have c4k := HB4k.out.cell (i := 0) rfl
          have l4k := cell_lt c4k
          gi_wp2
          refine (phases_in Fence.wide _ trivial rfl b1 0 (N : Int) _).mono ?_
          rintro e W8 ⟨rfl, hw8⟩
          have X8 := Lib.hid (show Ext wk W8 from by rw [hw8]; exact ((((Ext.refl _).alloc _).alloc _).alloc _).alloc _)
          have HB16 := Lib.hid (show BoxAt wk.heap.size #[.int .i64 (c : Int), .int .i64 0, .bool true, .bool false] 78 W8 from by rw [hw8]; exact (BoxAt.new wk _ _).ext ((((Ext.refl _).alloc _).alloc _).alloc _))
          have hks : W6.heap.size ≤ W7.heap.size ∧ W7.heap.size ≤ wk.heap.size := ⟨HS7.out, HXK.out.bel.size⟩
          have HPA := Lib.hid (show PhsAt W8 [wk.heap.size] b1 (wk.heap.size + 1) (wk.heap.size + 1 + 1) (wk.heap.size + 1 + 1 + 1) N p v lv (t : Int) from
            ⟨by rw [hw8]; go_cell, by rw [hw8]; go_cell, by rw [hw8]; go_cell, fun i y hy => X8.out.cell_some (HXK.out.cell_some (HB7.out.cell (HBS.out i y hy) (by rw [List.mem_singleton]; exact hb1l))), notin_lt (by omega), notin_gt (by omega), notin_gt (by omega), notin_gt (by omega)⟩)
          have HB48 := Lib.hid (show BoxAt b4 #[.pointer (some ⟨b1, 0, none⟩)] 68 W8 from HB4k.out.ext X8.out)
          have HB58 := Lib.hid (show BoxAt (b4 + 1) #[.pointer (some ⟨b1, 0, none⟩)] 68 W8 from ((HB56.out.but HB7.out (by rw [List.mem_singleton]; exact HN4.out.2.1)).ext HXK.out).ext X8.out)
          have HB98 := Lib.hid (show BoxAt b9 #[.int .i64 (sN : Int)] 3 W8 from ((HB96.out.but HB7.out (by rw [List.mem_singleton]; exact HN4.out.2.2.1)).ext HXK.out).ext X8.out)
          have HB118 := Lib.hid (show BoxAt b11 #[.int .i64 (oN : Int)] 3 W8 from ((HB11.out.but HB7.out (by rw [List.mem_singleton]; exact HN4.out.2.2.2)).ext HXK.out).ext X8.out)
          have HB138 := Lib.hid (show BoxAt b13 #[.int .i64 (c : Int)] 3 W8 from (HB13.out.ext HXK.out).ext X8.out)
          have s4 : b4 < wk.heap.size ∧ b4 + 1 < wk.heap.size ∧ b9 < wk.heap.size ∧ b11 < wk.heap.size ∧ b13 < wk.heap.size := by
            have h1 := HB46.out.lt
            have h2 := HB56.out.lt
            have h3 := HB96.out.lt
            have h4 := HB11.out.lt
            have h5 := HB13.out.lt
            omega
          have hb1lt : b1 < W8.heap.size := by have := X8.out.bel.size; omega
          have HS4 := Lib.hid s4
          have HKS := Lib.hid hks
          clear m0 m1 m2 m3 lm hw8 s4 c4k l4k
          simp only [World.size_alloc]
          gi_wp2
          refine wpIn_range_x (N := N) 3 (fun s : Int => mvS wk.heap.size (c : Int) s true false) (stepZ p t true false c) 0 [wk.heap.size] rfl (by decide) (gf := 78) rfl trivial (fun _ _ => rfl)
            (phs_seq 5 (by decide) _ b1 _ _ _ N p v lv (t : Int) HNU.out (by omega) W8 HPA.out hb1lt) (fun _ => rfl) (fun d hd => by rw [List.mem_singleton] at hd; subst hd; exact HB16.out.lt) (mvS_of HB16.out)
            ?g10 ?assign10 ?body10 ?done10 ?stop10
          case assign10 =>
            intro l x W K hW hK
            simp only [phsEnc]
            gi_wp2
            refine hK _ _ (Ext.refl _) ?_
            rfl
          case body10 =>
            intro l s x W hl _ hlr hst
            clear hlr
            have HST := Lib.hid hst
            have hwk8 : wk.heap.size < W8.heap.size := HB16.out.lt
            have c13 := hst.but.cell (HB138.out.cell (i := 0) rfl) (notin_lt HS4.out.2.2.2.2)
            have c9 := hst.but.cell (HB98.out.cell (i := 0) rfl) (notin_lt HS4.out.2.2.1)
            have c11 := hst.but.cell (HB118.out.cell (i := 0) rfl) (notin_lt HS4.out.2.2.2.1)
            obtain ⟨xv, hxv⟩ : ∃ z, z = x.val := ⟨_, rfl⟩
            have hxN : xv < N := by rw [hxv]; exact x.isLt
            obtain ⟨pz1, pz2⟩ := phaseZ_bd HNU.out (xv : Int)
            obtain ⟨k1, hk1⟩ : ∃ k : Nat, phaseZ p (xv : Int) = (k : Int) := ⟨(phaseZ p (xv : Int)).toNat, by omega⟩
            have hk1b : k1 < 96 := by have := HNU.out.n2; omega
            have HK1 := Lib.hid hk1
            have HXV := Lib.hid hxv
            have hx0 : ((x.val : Nat) : Int) = (xv : Int) := by rw [hxv]
            rw [hx0, hk1]
            have wa : IntKind.i64.wrap ((c : Int) + (xv : Int)) = (c : Int) + (xv : Int) := IntWalk.i64_in _ (by omega)
            have wb : IntKind.i64.wrap ((c : Int) - (xv : Int)) = (c : Int) - (xv : Int) := IntWalk.i64_in _ (by omega)
            have wc : IntKind.i64.wrap ((sN : Int) - (k1 : Int)) = (sN : Int) - (k1 : Int) := IntWalk.i64_in _ (by omega)
            have wd : IntKind.i64.wrap ((oN : Int) + (k1 : Int)) = (oN : Int) + (k1 : Int) := IntWalk.i64_in _ (by omega)
            have y13 := But.cells (D := []) c13 (by simp)
            have y9 := But.cells (D := []) c9 (by simp)
            have l13 := cell_lt c13
            have l9 := cell_lt c9
            clear hst hx0 hk1 pz1 pz2 hxv
            have HC13 := Lib.hid c13
            have HC11 := Lib.hid c11
            clear c13 c9 c11
            gi_wp2
            refine wpIn_region_steps [] 7 [(0, true), (1, true), (2, true), (3, true), (4, true), (5, true), (6, true)] (by kernel_rfl) (by decide +kernel) ?_
            iterate 7 (refine wpSD_q (by rfl) (fun _ _ _ => trivial) (fun K hK => ?_); go_simp; refine hK _ ?_; clear hK K)
            refine wpSD_nil ?_
            intro Wa xa
            have HSA := Lib.hid (HST.out.ext xa)
            have HXA := Lib.hid xa
            have c13 := xa.cell_some HC13.out
            have c11 := xa.cell_some HC11.out
            have l13 := cell_lt c13
            have l11 := cell_lt c11
            clear xa y13 y9 l9
            simp only [List.drop_succ_cons, List.drop_zero]
            obtain ⟨⟨a0, a1, a2, a3⟩, -⟩ := mvS_at HSA.out.cells
            have la := cell_lt a0
            gi_wp2
            refine lay_in (fun W => BoxAt Wa.heap.size #[.int .i64 (c : Int), .int .i64 s, .bool true, .bool false] 78 W ∧ Ext Wa W) ⟨BoxAt.new Wa _ _, (Ext.refl _).alloc _⟩ ?_
            rintro Wb ⟨bx21, xb⟩
            have HSB := Lib.hid (HSA.out.ext xb)
            have HBB := Lib.hid bx21
            obtain ⟨b21, hb21⟩ : ∃ b, b = Wa.heap.size := ⟨_, rfl⟩
            rw [← hb21] at HBB ⊢
            have HBL := Lib.hid (show b21 < Wb.heap.size from HBB.out.lt)
            have HWA := Lib.hid (show W8.heap.size ≤ b21 by rw [hb21]; exact HSA.out.but.size)
            have HWL := Lib.hid (show W.heap.size ≤ b21 by rw [hb21]; exact HXA.out.bel.size)
            have HXB := Lib.hid (HXA.out.trans xb)
            clear xb bx21 a0 a1 a2 a3 la hb21 c13 c11 l13 l11
            obtain ⟨qz1, qz2⟩ := phaseZ_bd HNU.out ((c : Int) + (xv : Int))
            obtain ⟨k2, hk2⟩ : ∃ k : Nat, phaseZ p ((c : Int) + (xv : Int)) = (k : Int) := ⟨(phaseZ p ((c : Int) + (xv : Int))).toNat, by omega⟩
            have hk2b : k2 < 96 := by have := HNU.out.n2; omega
            have HPH := Lib.hid fun (W' : World) (x : Below b21 Wb W') => (show Calls Tryz.prog 32 #[.pointer (some ⟨b1, 0, none⟩), .int .i64 ((c : Int) + (xv : Int))] W' fun e w' => e = .returned (.int .i64 (k2 : Int)) ∧ Ext W' w' from by
              have hcs : BenchCs b1 W' p v lv (t : Int) := fun i y hy => by
                rw [x.cell (p := ⟨b1, i, none⟩) (Nat.lt_of_lt_of_le hb1lt HWA.out)]
                exact HSB.out.but.cell (HPA.out.cs i y hy) (notin_lt (by omega))
              have := phase_cells b1 p v lv (t : Int) ((c : Int) + (xv : Int)) W' hcs HNU.out (by omega)
              rwa [hk2] at this)
            obtain ⟨yz, hyz⟩ : ∃ z, z = (((oN : Int) + (k1 : Int)) + (k2 : Int)) % (t : Int) := ⟨_, rfl⟩
            have HTZ := Lib.hid (show turnZ p t true false c xv = yz by
              unfold turnZ toJ
              simp only [Bool.false_eq_true, if_false, if_true]
              rw [← HON.out, HK1.out, hk2]
              exact hyz.symm)
            have HMD := Lib.hid fun W' : World => (show Calls Tryz.prog 31 #[.int .i64 (((oN : Int) + (k1 : Int)) + (k2 : Int)), .int .i64 (t : Int)] W' fun e w' => e = .returned (.int .i64 yz) ∧ Ext W' w' from by
              have := modulo_any (((oN : Int) + (k1 : Int)) + (k2 : Int)) (t : Int) W' (by omega) (by omega)
              rw [← hyz] at this
              exact this.mono (by rintro e w' ⟨h1, rfl⟩; exact ⟨h1, Ext.refl _⟩))
            have wk2 : IntKind.i64.wrap (((oN : Int) + (k1 : Int)) + (k2 : Int)) = ((oN : Int) + (k1 : Int)) + (k2 : Int) := IntWalk.i64_in _ (by omega)
            have keepW : ∀ (b o : Nat) (v : Value), b < wk.heap.size → W8.cell? ⟨b, o, none⟩ = some v → Wb.cell? ⟨b, o, none⟩ = some v := fun b o v hb hc => HSB.out.but.cell hc (notin_lt hb)
            have c4 := keepW _ 0 _ HS4.out.1 (HB48.out.cell (i := 0) rfl)
            have c5 := keepW _ 0 _ HS4.out.2.1 (HB58.out.cell (i := 0) rfl)
            have k9 : Wb.cell? ⟨b1, 9, none⟩ = some (.int .i64 (t : Int)) := keepW _ 9 _ (by have := HKS.out; omega) (HPA.out.cs 9 _ rfl)
            have l4 := cell_lt c4
            have l5 := cell_lt c5
            have l9 := cell_lt k9
            have hB4 : b4 < b21 := by have := HWA.out; have := HS4.out; omega
            have hB5 : b4 + 1 < b21 := by have := HWA.out; have := HS4.out; omega
            have hB1 : b1 < b21 := by have := HWA.out; omega
            clear hk2 qz1 qz2 keepW hyz
            refine wpIn_region_tree (B := b21) 12 [0, 1, 2, 3, 4, 5, 6, 7, 8, 9, 10] (Nat.le_of_lt HBL.out) (by kernel_rfl) (by decide +kernel) ?_
            iterate 3 (refine wpQ_step (by rfl) (fun _ _ _ => trivial) (fun K hK => ?_); go_simp; refine hK _ ?_; clear hK K)
            refine wpQ_step (by rfl) (fun _ _ _ => trivial) (fun K hK => ?_)
            go_simp
            refine ⟨.int .i64 (k2 : Int), fun δ => CallsIn.inRound l (callsIn_wide.2 (HPH.out δ.wd δ.bel)), hK _ ?_⟩
            clear hK K
            iterate 5 (refine wpQ_step (by rfl) (fun _ _ _ => trivial) (fun K hK => ?_); go_simp; refine hK _ ?_; clear hK K)
            refine wpQ_step (by rfl) (fun _ _ _ => trivial) (fun K hK => ?_)
            go_simp
            refine ⟨.int .i64 yz, fun δ => CallsIn.inRound l (callsIn_wide.2 (HMD.out δ.wd)), hK _ ?_⟩
            clear hK K
            refine wpQ_step (by rfl) (fun _ _ _ => trivial) (fun K hK => ?_)
            go_simp
            refine hK _ ?_
            clear hK K
            refine wpQ_nil ?_
            change wpAnyT _ _ _ _ _ _ _ _ _ (0 + 1) _ _ _
            refine wpAnyT_step [11] (by decide +kernel) (by decide) (by decide) ?_
            intro i hi
            simp only [List.mem_cons, List.not_mem_nil, or_false] at hi
            subst hi
            refine ⟨_, by rfl, midT_step (by rfl) (fun _ _ _ => trivial) (fun δ K' hK' => ?_)⟩
            have E1 := Lib.hid (show Ext Wb δ.wd from ⟨δ, rfl⟩)
            have d1 := (HBB.out.ext E1.out).cell (i := 1) rfl
            have e1 := frozen_of_row _ _ 1 _ _ (HBB.out.ext E1.out)
            have ld := cell_lt d1
            go_simp
            refine ⟨(Below.refl _ _).setCell (p := ⟨b21, 1, none⟩) (Nat.le_refl _) _, hK' _ _ ?_⟩
            clear hK' K'
            refine ⟨by decide +kernel, fun Wc xc => ?_⟩
            have h16 : wk.heap.size < b21 := Nat.lt_of_lt_of_le hwk8 HWA.out
            have HSC := Lib.hid (((HSB.out.ext E1.out).setFar (o := 1) (v := .int .i64 yz) HWA.out (fun t ht => by
              simp only [mvS, List.mem_cons, List.not_mem_nil, or_false] at ht
              rcases ht with rfl | rfl | rfl | rfl <;> exact Nat.ne_of_lt h16)).ext xc)
            have HBC := Lib.hid (show BoxAt b21 #[.int .i64 (c : Int), .int .i64 yz, .bool true, .bool false] 78 Wc from ((HBB.out.ext E1.out).setCell 1 (.int .i64 yz)).ext xc)
            have HXC := Lib.hid (show But [wk.heap.size] W Wc from (((HXB.out.trans E1.out).setCell (p := ⟨b21, 1, none⟩) HWL.out _).trans xc).but)
            clear xc d1 e1 ld c4 c5 k9 l4 l5 l9
            simp only [List.drop_succ_cons, List.drop_nil]
            obtain ⟨⟨a0, a1, a2, a3⟩, f0, f1, f2, f3⟩ := mvS_at HSC.out.cells
            have g0 := HBC.out.cell (i := 0) rfl
            have g1 := HBC.out.cell (i := 1) rfl
            have g2 := HBC.out.cell (i := 2) rfl
            have g3 := HBC.out.cell (i := 3) rfl
            have la := cell_lt a0
            have lg := cell_lt g0
            by_cases hx0 : xv = 0
            · subst hx0
              have HSZ := Lib.hid (show stepZ p t true false c s x.val = some yz by rw [← HXV.out]; unfold stepZ; rw [if_pos rfl, HTZ.out])
              gi_wp2
              exact ⟨yz, HSZ.out, ((((HXC.out.setCell (p := ⟨wk.heap.size, 0, none⟩) (by simp) _).setCell (p := ⟨wk.heap.size, 1, none⟩) (by simp) _).setCell (p := ⟨wk.heap.size, 2, none⟩) (by simp) _).setCell (p := ⟨wk.heap.size, 3, none⟩) (by simp) _), mvS_put HSC.out.cells⟩
            · have hx0b : ((xv : Int) == 0) = false := by simp; omega
              by_cases hsy : s = yz
              · have HSZ := Lib.hid (show stepZ p t true false c s x.val = some s by rw [← HXV.out]; unfold stepZ; rw [if_neg hx0, HTZ.out, if_pos hsy])
                subst hsy
                gi_wp2
                exact ⟨s, HSZ.out, HXC.out, HSC.out.cells⟩
              · have HSZ := Lib.hid (show stepZ p t true false c s x.val = none by rw [← HXV.out]; unfold stepZ; rw [if_neg hx0, HTZ.out, if_neg hsy])
                have hsyb : (s == yz) = false := by simp [hsy]
                gi_wp2
                exact ⟨rfl, HSZ.out, HXC.out⟩
          case done10 =>
            intro M s W hM hf hst hmark
            have hwk8 : wk.heap.size < W8.heap.size := HB16.out.lt
            have HSM := Lib.hid (HKM.out ((c : Int), s, true, false) (by unfold kindO; rw [← HOB.out, if_pos rfl, hf]; rfl))
            obtain ⟨⟨a0, a1, a2, a3⟩, -⟩ := mvS_at hst.cells
            have la := cell_lt a0
            have HOW := Lib.hid ((HOL.out.ext X8.out).butN hst.but (fun g hg e => by have := (HOL.out.lt g hg).2; rw [List.mem_singleton] at e; omega))
            have HMW := Lib.hid (((HMK.out.ext X8.out).turn hst.but (fun e he => by rw [List.mem_singleton] at he; subst he; exact box_cells HB16.out)))
            have HXW := Lib.hid (hst.but.below (HXK.out.trans X8.out) (fun d hd => by rw [List.mem_singleton] at hd; subst hd; exact HKS.out.2))
            have HMM := Lib.hid (Mks.mark (M := M) (HMK.out.ext X8.out) HMW.out (by have := X8.out.bel.size; omega) hM hmark)
            have hW7W : W7.heap.size ≤ W.heap.size := HXW.out.bel.size
            clear hf hst hmark
            gi_wp2_with (gi_at_builtin; refine EK.app_in (K := moveK) (B := W7.heap.size) (xs := rowM p t N c k) (v := ol) rfl (.tmp 154) (.tmp 156) rfl W.heap.size 1 ((c : Int), s, true, false) rfl rfl (fun ii u hu => cell_new hu) (HOW.out.ext ((Ext.refl _).alloc _)) (by simp; omega) (by omega) ?_; intro v' w3 o3 b3 g3; have HO3 := Lib.hid o3; have HX3 := Lib.hid ((HXW.out.alloc (.cells #[.int .i64 (c : Int), .int .i64 s, .bool true, .bool false] 78)).below b3 (Nat.le_refl _)); have HM3 := Lib.hid ((HMM.out.ext ((Ext.refl W).alloc (.cells #[.int .i64 (c : Int), .int .i64 s, .bool true, .bool false] 78))).turn ((But.refl _ _).grown (D := ol.ownBlock.toList) g3 (fun r e => .inl (by rw [e]; simp))) (fun e he => (own_blockN (HOW.out.ext ((Ext.refl _).alloc _)) he).2)); clear o3 b3 g3)
            refine ⟨⟨k + 1, v', M :: Es, SyK.mk .., by omega, by rw [HSM.out]; exact HO3.out, HX3.out, HM3.out⟩, ?_⟩
            show 4 - (intOf (.int .i64 ((k : Int) + 1))).toNat < 4 - (intOf (.int .i64 (k : Int))).toNat
            simp only [intOf]
            omega
          case stop10 =>
            intro M W hM hf hbt hmark
            have hwk8 : wk.heap.size < W8.heap.size := HB16.out.lt
            have HNO := Lib.hid (HKN.out (show kindO p t N c true false = none by unfold kindO; rw [← HOB.out, if_pos rfl, hf]; rfl))
            have HOW := Lib.hid ((HOL.out.ext X8.out).butN hbt (fun g hg e => by have := (HOL.out.lt g hg).2; rw [List.mem_singleton] at e; omega))
            have HMW := Lib.hid (((HMK.out.ext X8.out).turn hbt (fun e he => by rw [List.mem_singleton] at he; subst he; exact box_cells HB16.out)))
            have HXW := Lib.hid (hbt.below (HXK.out.trans X8.out) (fun d hd => by rw [List.mem_singleton] at hd; subst hd; exact HKS.out.2))
            have HMM := Lib.hid (Mks.mark (M := M) (HMK.out.ext X8.out) HMW.out (by have := X8.out.bel.size; omega) hM hmark)
            clear hf hbt hmark
            gi_wp2
            refine ⟨⟨k + 1, ol, M :: Es, SyK.mk .., by omega, by rw [HNO.out]; exact HOW.out, HXW.out, HMM.out⟩, ?_⟩
            show 4 - (intOf (.int .i64 ((k : Int) + 1))).toNat < 4 - (intOf (.int .i64 (k : Int))).toNat
            simp only [intOf]
            omega
      · cases ob
        · have HNO := Lib.hid (HKN.out (show kindO p t N c true true = none by unfold kindO; rw [← HOB.out]; rfl))
          gi_wp2
          refine ⟨⟨k + 1, ol, Es, SyK.mk .., by omega, by rw [HNO.out]; exact HOL.out.ext ((Ext.refl _).alloc _), HXK.out.alloc _, HMK.out.ext ((Ext.refl _).alloc _)⟩, ?_⟩
          show 4 - (intOf (.int .i64 ((k : Int) + 1))).toNat < 4 - (intOf (.int .i64 (k : Int))).toNat
          simp only [intOf]
          omega
        · have HB4k := Lib.hid (show BoxAt b4 #[.pointer (some ⟨b1, 0, none⟩)] 68 wk from (HB46.out.but HB7.out (by rw [List.mem_singleton]; exact HN4.out.1)).ext HXK.out)
          have c4k := HB4k.out.cell (i := 0) rfl
          have l4k := cell_lt c4k
          gi_wp2
          refine (phases_in Fence.wide _ trivial rfl b1 0 (N : Int) _).mono ?_
          rintro e W8 ⟨rfl, hw8⟩
          have X8 := Lib.hid (show Ext wk W8 from by rw [hw8]; exact ((((Ext.refl _).alloc _).alloc _).alloc _).alloc _)
          have HB16 := Lib.hid (show BoxAt wk.heap.size #[.int .i64 (c : Int), .int .i64 0, .bool true, .bool true] 78 W8 from by rw [hw8]; exact (BoxAt.new wk _ _).ext ((((Ext.refl _).alloc _).alloc _).alloc _))
          have hks : W6.heap.size ≤ W7.heap.size ∧ W7.heap.size ≤ wk.heap.size := ⟨HS7.out, HXK.out.bel.size⟩
          have HPA := Lib.hid (show PhsAt W8 [wk.heap.size] b1 (wk.heap.size + 1) (wk.heap.size + 1 + 1) (wk.heap.size + 1 + 1 + 1) N p v lv (t : Int) from
            ⟨by rw [hw8]; go_cell, by rw [hw8]; go_cell, by rw [hw8]; go_cell, fun i y hy => X8.out.cell_some (HXK.out.cell_some (HB7.out.cell (HBS.out i y hy) (by rw [List.mem_singleton]; exact hb1l))), notin_lt (by omega), notin_gt (by omega), notin_gt (by omega), notin_gt (by omega)⟩)
          have HB48 := Lib.hid (show BoxAt b4 #[.pointer (some ⟨b1, 0, none⟩)] 68 W8 from HB4k.out.ext X8.out)
          have HB58 := Lib.hid (show BoxAt (b4 + 1) #[.pointer (some ⟨b1, 0, none⟩)] 68 W8 from ((HB56.out.but HB7.out (by rw [List.mem_singleton]; exact HN4.out.2.1)).ext HXK.out).ext X8.out)
          have HB98 := Lib.hid (show BoxAt b9 #[.int .i64 (sN : Int)] 3 W8 from ((HB96.out.but HB7.out (by rw [List.mem_singleton]; exact HN4.out.2.2.1)).ext HXK.out).ext X8.out)
          have HB118 := Lib.hid (show BoxAt b11 #[.int .i64 (oN : Int)] 3 W8 from ((HB11.out.but HB7.out (by rw [List.mem_singleton]; exact HN4.out.2.2.2)).ext HXK.out).ext X8.out)
          have HB138 := Lib.hid (show BoxAt b13 #[.int .i64 (c : Int)] 3 W8 from (HB13.out.ext HXK.out).ext X8.out)
          have s4 : b4 < wk.heap.size ∧ b4 + 1 < wk.heap.size ∧ b9 < wk.heap.size ∧ b11 < wk.heap.size ∧ b13 < wk.heap.size := by
            have h1 := HB46.out.lt
            have h2 := HB56.out.lt
            have h3 := HB96.out.lt
            have h4 := HB11.out.lt
            have h5 := HB13.out.lt
            omega
          have hb1lt : b1 < W8.heap.size := by have := X8.out.bel.size; omega
          have HS4 := Lib.hid s4
          have HKS := Lib.hid hks
          clear m0 m1 m2 m3 lm hw8 s4 c4k l4k
          simp only [World.size_alloc]
          gi_wp2
          refine wpIn_range_x (N := N) 3 (fun s : Int => mvS wk.heap.size (c : Int) s true true) (stepZ p t true true c) 0 [wk.heap.size] rfl (by decide) (gf := 78) rfl trivial (fun _ _ => rfl)
            (phs_seq 5 (by decide) _ b1 _ _ _ N p v lv (t : Int) HNU.out (by omega) W8 HPA.out hb1lt) (fun _ => rfl) (fun d hd => by rw [List.mem_singleton] at hd; subst hd; exact HB16.out.lt) (mvS_of HB16.out)
            ?g11 ?assign11 ?body11 ?done11 ?stop11
          case assign11 =>
            intro l x W K hW hK
            simp only [phsEnc]
            gi_wp2
            refine hK _ _ (Ext.refl _) ?_
            rfl
          case body11 =>
            intro l s x W hl _ hlr hst
            clear hlr
            have HST := Lib.hid hst
            have hwk8 : wk.heap.size < W8.heap.size := HB16.out.lt
            have c13 := hst.but.cell (HB138.out.cell (i := 0) rfl) (notin_lt HS4.out.2.2.2.2)
            have c9 := hst.but.cell (HB98.out.cell (i := 0) rfl) (notin_lt HS4.out.2.2.1)
            have c11 := hst.but.cell (HB118.out.cell (i := 0) rfl) (notin_lt HS4.out.2.2.2.1)
            obtain ⟨xv, hxv⟩ : ∃ z, z = x.val := ⟨_, rfl⟩
            have hxN : xv < N := by rw [hxv]; exact x.isLt
            obtain ⟨pz1, pz2⟩ := phaseZ_bd HNU.out (xv : Int)
            obtain ⟨k1, hk1⟩ : ∃ k : Nat, phaseZ p (xv : Int) = (k : Int) := ⟨(phaseZ p (xv : Int)).toNat, by omega⟩
            have hk1b : k1 < 96 := by have := HNU.out.n2; omega
            have HK1 := Lib.hid hk1
            have HXV := Lib.hid hxv
            have hx0 : ((x.val : Nat) : Int) = (xv : Int) := by rw [hxv]
            rw [hx0, hk1]
            have wa : IntKind.i64.wrap ((c : Int) + (xv : Int)) = (c : Int) + (xv : Int) := IntWalk.i64_in _ (by omega)
            have wb : IntKind.i64.wrap ((c : Int) - (xv : Int)) = (c : Int) - (xv : Int) := IntWalk.i64_in _ (by omega)
            have wc : IntKind.i64.wrap ((sN : Int) - (k1 : Int)) = (sN : Int) - (k1 : Int) := IntWalk.i64_in _ (by omega)
            have wd : IntKind.i64.wrap ((oN : Int) + (k1 : Int)) = (oN : Int) + (k1 : Int) := IntWalk.i64_in _ (by omega)
            have y13 := But.cells (D := []) c13 (by simp)
            have y9 := But.cells (D := []) c9 (by simp)
            have l13 := cell_lt c13
            have l9 := cell_lt c9
            clear hst hx0 hk1 pz1 pz2 hxv
            have HC13 := Lib.hid c13
            have HC11 := Lib.hid c11
            clear c13 c9 c11
            gi_wp2
            refine wpIn_region_steps [] 7 [(0, true), (1, true), (2, true), (3, true), (4, true), (5, true), (6, true)] (by kernel_rfl) (by decide +kernel) ?_
            iterate 7 (refine wpSD_q (by rfl) (fun _ _ _ => trivial) (fun K hK => ?_); go_simp; refine hK _ ?_; clear hK K)
            refine wpSD_nil ?_
            intro Wa xa
            have HSA := Lib.hid (HST.out.ext xa)
            have HXA := Lib.hid xa
            have c13 := xa.cell_some HC13.out
            have c11 := xa.cell_some HC11.out
            have l13 := cell_lt c13
            have l11 := cell_lt c11
            clear xa y13 y9 l9
            simp only [List.drop_succ_cons, List.drop_zero]
            obtain ⟨⟨a0, a1, a2, a3⟩, -⟩ := mvS_at HSA.out.cells
            have la := cell_lt a0
            gi_wp2
            refine lay_in (fun W => BoxAt Wa.heap.size #[.int .i64 (c : Int), .int .i64 s, .bool true, .bool true] 78 W ∧ Ext Wa W) ⟨BoxAt.new Wa _ _, (Ext.refl _).alloc _⟩ ?_
            rintro Wb ⟨bx21, xb⟩
            have HSB := Lib.hid (HSA.out.ext xb)
            have HBB := Lib.hid bx21
            obtain ⟨b21, hb21⟩ : ∃ b, b = Wa.heap.size := ⟨_, rfl⟩
            rw [← hb21] at HBB ⊢
            have HBL := Lib.hid (show b21 < Wb.heap.size from HBB.out.lt)
            have HWA := Lib.hid (show W8.heap.size ≤ b21 by rw [hb21]; exact HSA.out.but.size)
            have HWL := Lib.hid (show W.heap.size ≤ b21 by rw [hb21]; exact HXA.out.bel.size)
            have HXB := Lib.hid (HXA.out.trans xb)
            clear xb bx21 a0 a1 a2 a3 la hb21 c13 c11 l13 l11
            obtain ⟨qz1, qz2⟩ := phaseZ_bd HNU.out ((c : Int) - (xv : Int))
            obtain ⟨k2, hk2⟩ : ∃ k : Nat, phaseZ p ((c : Int) - (xv : Int)) = (k : Int) := ⟨(phaseZ p ((c : Int) - (xv : Int))).toNat, by omega⟩
            have hk2b : k2 < 96 := by have := HNU.out.n2; omega
            have HPH := Lib.hid fun (W' : World) (x : Below b21 Wb W') => (show Calls Tryz.prog 32 #[.pointer (some ⟨b1, 0, none⟩), .int .i64 ((c : Int) - (xv : Int))] W' fun e w' => e = .returned (.int .i64 (k2 : Int)) ∧ Ext W' w' from by
              have hcs : BenchCs b1 W' p v lv (t : Int) := fun i y hy => by
                rw [x.cell (p := ⟨b1, i, none⟩) (Nat.lt_of_lt_of_le hb1lt HWA.out)]
                exact HSB.out.but.cell (HPA.out.cs i y hy) (notin_lt (by omega))
              have := phase_cells b1 p v lv (t : Int) ((c : Int) - (xv : Int)) W' hcs HNU.out (by omega)
              rwa [hk2] at this)
            obtain ⟨yz, hyz⟩ : ∃ z, z = (((oN : Int) + (k1 : Int)) + (k2 : Int)) % (t : Int) := ⟨_, rfl⟩
            have HTZ := Lib.hid (show turnZ p t true true c xv = yz by
              unfold turnZ toJ
              simp only [if_true]
              rw [← HON.out, HK1.out, hk2]
              exact hyz.symm)
            have HMD := Lib.hid fun W' : World => (show Calls Tryz.prog 31 #[.int .i64 (((oN : Int) + (k1 : Int)) + (k2 : Int)), .int .i64 (t : Int)] W' fun e w' => e = .returned (.int .i64 yz) ∧ Ext W' w' from by
              have := modulo_any (((oN : Int) + (k1 : Int)) + (k2 : Int)) (t : Int) W' (by omega) (by omega)
              rw [← hyz] at this
              exact this.mono (by rintro e w' ⟨h1, rfl⟩; exact ⟨h1, Ext.refl _⟩))
            have wk2 : IntKind.i64.wrap (((oN : Int) + (k1 : Int)) + (k2 : Int)) = ((oN : Int) + (k1 : Int)) + (k2 : Int) := IntWalk.i64_in _ (by omega)
            have keepW : ∀ (b o : Nat) (v : Value), b < wk.heap.size → W8.cell? ⟨b, o, none⟩ = some v → Wb.cell? ⟨b, o, none⟩ = some v := fun b o v hb hc => HSB.out.but.cell hc (notin_lt hb)
            have c4 := keepW _ 0 _ HS4.out.1 (HB48.out.cell (i := 0) rfl)
            have c5 := keepW _ 0 _ HS4.out.2.1 (HB58.out.cell (i := 0) rfl)
            have k9 : Wb.cell? ⟨b1, 9, none⟩ = some (.int .i64 (t : Int)) := keepW _ 9 _ (by have := HKS.out; omega) (HPA.out.cs 9 _ rfl)
            have l4 := cell_lt c4
            have l5 := cell_lt c5
            have l9 := cell_lt k9
            have hB4 : b4 < b21 := by have := HWA.out; have := HS4.out; omega
            have hB5 : b4 + 1 < b21 := by have := HWA.out; have := HS4.out; omega
            have hB1 : b1 < b21 := by have := HWA.out; omega
            clear hk2 qz1 qz2 keepW hyz
            refine wpIn_region_tree (B := b21) 12 [0, 1, 2, 3, 4, 5, 6, 7, 8, 9, 10] (Nat.le_of_lt HBL.out) (by kernel_rfl) (by decide +kernel) ?_
            iterate 3 (refine wpQ_step (by rfl) (fun _ _ _ => trivial) (fun K hK => ?_); go_simp; refine hK _ ?_; clear hK K)
            refine wpQ_step (by rfl) (fun _ _ _ => trivial) (fun K hK => ?_)
            go_simp
            refine ⟨.int .i64 (k2 : Int), fun δ => CallsIn.inRound l (callsIn_wide.2 (HPH.out δ.wd δ.bel)), hK _ ?_⟩
            clear hK K
            iterate 5 (refine wpQ_step (by rfl) (fun _ _ _ => trivial) (fun K hK => ?_); go_simp; refine hK _ ?_; clear hK K)
            refine wpQ_step (by rfl) (fun _ _ _ => trivial) (fun K hK => ?_)
            go_simp
            refine ⟨.int .i64 yz, fun δ => CallsIn.inRound l (callsIn_wide.2 (HMD.out δ.wd)), hK _ ?_⟩
            clear hK K
            refine wpQ_step (by rfl) (fun _ _ _ => trivial) (fun K hK => ?_)
            go_simp
            refine hK _ ?_
            clear hK K
            refine wpQ_nil ?_
            change wpAnyT _ _ _ _ _ _ _ _ _ (0 + 1) _ _ _
            refine wpAnyT_step [11] (by decide +kernel) (by decide) (by decide) ?_
            intro i hi
            simp only [List.mem_cons, List.not_mem_nil, or_false] at hi
            subst hi
            refine ⟨_, by rfl, midT_step (by rfl) (fun _ _ _ => trivial) (fun δ K' hK' => ?_)⟩
            have E1 := Lib.hid (show Ext Wb δ.wd from ⟨δ, rfl⟩)
            have d1 := (HBB.out.ext E1.out).cell (i := 1) rfl
            have e1 := frozen_of_row _ _ 1 _ _ (HBB.out.ext E1.out)
            have ld := cell_lt d1
            go_simp
            refine ⟨(Below.refl _ _).setCell (p := ⟨b21, 1, none⟩) (Nat.le_refl _) _, hK' _ _ ?_⟩
            clear hK' K'
            refine ⟨by decide +kernel, fun Wc xc => ?_⟩
            have h16 : wk.heap.size < b21 := Nat.lt_of_lt_of_le hwk8 HWA.out
            have HSC := Lib.hid (((HSB.out.ext E1.out).setFar (o := 1) (v := .int .i64 yz) HWA.out (fun t ht => by
              simp only [mvS, List.mem_cons, List.not_mem_nil, or_false] at ht
              rcases ht with rfl | rfl | rfl | rfl <;> exact Nat.ne_of_lt h16)).ext xc)
            have HBC := Lib.hid (show BoxAt b21 #[.int .i64 (c : Int), .int .i64 yz, .bool true, .bool true] 78 Wc from ((HBB.out.ext E1.out).setCell 1 (.int .i64 yz)).ext xc)
            have HXC := Lib.hid (show But [wk.heap.size] W Wc from (((HXB.out.trans E1.out).setCell (p := ⟨b21, 1, none⟩) HWL.out _).trans xc).but)
            clear xc d1 e1 ld c4 c5 k9 l4 l5 l9
            simp only [List.drop_succ_cons, List.drop_nil]
            obtain ⟨⟨a0, a1, a2, a3⟩, f0, f1, f2, f3⟩ := mvS_at HSC.out.cells
            have g0 := HBC.out.cell (i := 0) rfl
            have g1 := HBC.out.cell (i := 1) rfl
            have g2 := HBC.out.cell (i := 2) rfl
            have g3 := HBC.out.cell (i := 3) rfl
            have la := cell_lt a0
            have lg := cell_lt g0
            by_cases hx0 : xv = 0
            · subst hx0
              have HSZ := Lib.hid (show stepZ p t true true c s x.val = some yz by rw [← HXV.out]; unfold stepZ; rw [if_pos rfl, HTZ.out])
              gi_wp2
              exact ⟨yz, HSZ.out, ((((HXC.out.setCell (p := ⟨wk.heap.size, 0, none⟩) (by simp) _).setCell (p := ⟨wk.heap.size, 1, none⟩) (by simp) _).setCell (p := ⟨wk.heap.size, 2, none⟩) (by simp) _).setCell (p := ⟨wk.heap.size, 3, none⟩) (by simp) _), mvS_put HSC.out.cells⟩
            · have hx0b : ((xv : Int) == 0) = false := by simp; omega
              by_cases hsy : s = yz
              · have HSZ := Lib.hid (show stepZ p t true true c s x.val = some s by rw [← HXV.out]; unfold stepZ; rw [if_neg hx0, HTZ.out, if_pos hsy])
                subst hsy
                gi_wp2
                exact ⟨s, HSZ.out, HXC.out, HSC.out.cells⟩
              · have HSZ := Lib.hid (show stepZ p t true true c s x.val = none by rw [← HXV.out]; unfold stepZ; rw [if_neg hx0, HTZ.out, if_neg hsy])
                have hsyb : (s == yz) = false := by simp [hsy]
                gi_wp2
                exact ⟨rfl, HSZ.out, HXC.out⟩
          case done11 =>
            intro M s W hM hf hst hmark
            have hwk8 : wk.heap.size < W8.heap.size := HB16.out.lt
            have HSM := Lib.hid (HKM.out ((c : Int), s, true, true) (by unfold kindO; rw [← HOB.out, if_pos rfl, hf]; rfl))
            obtain ⟨⟨a0, a1, a2, a3⟩, -⟩ := mvS_at hst.cells
            have la := cell_lt a0
            have HOW := Lib.hid ((HOL.out.ext X8.out).butN hst.but (fun g hg e => by have := (HOL.out.lt g hg).2; rw [List.mem_singleton] at e; omega))
            have HMW := Lib.hid (((HMK.out.ext X8.out).turn hst.but (fun e he => by rw [List.mem_singleton] at he; subst he; exact box_cells HB16.out)))
            have HXW := Lib.hid (hst.but.below (HXK.out.trans X8.out) (fun d hd => by rw [List.mem_singleton] at hd; subst hd; exact HKS.out.2))
            have HMM := Lib.hid (Mks.mark (M := M) (HMK.out.ext X8.out) HMW.out (by have := X8.out.bel.size; omega) hM hmark)
            have hW7W : W7.heap.size ≤ W.heap.size := HXW.out.bel.size
            clear hf hst hmark
            gi_wp2_with (gi_at_builtin; refine EK.app_in (K := moveK) (B := W7.heap.size) (xs := rowM p t N c k) (v := ol) rfl (.tmp 154) (.tmp 156) rfl W.heap.size 1 ((c : Int), s, true, true) rfl rfl (fun ii u hu => cell_new hu) (HOW.out.ext ((Ext.refl _).alloc _)) (by simp; omega) (by omega) ?_; intro v' w3 o3 b3 g3; have HO3 := Lib.hid o3; have HX3 := Lib.hid ((HXW.out.alloc (.cells #[.int .i64 (c : Int), .int .i64 s, .bool true, .bool true] 78)).below b3 (Nat.le_refl _)); have HM3 := Lib.hid ((HMM.out.ext ((Ext.refl W).alloc (.cells #[.int .i64 (c : Int), .int .i64 s, .bool true, .bool true] 78))).turn ((But.refl _ _).grown (D := ol.ownBlock.toList) g3 (fun r e => .inl (by rw [e]; simp))) (fun e he => (own_blockN (HOW.out.ext ((Ext.refl _).alloc _)) he).2)); clear o3 b3 g3)
            refine ⟨⟨k + 1, v', M :: Es, SyK.mk .., by omega, by rw [HSM.out]; exact HO3.out, HX3.out, HM3.out⟩, ?_⟩
            show 4 - (intOf (.int .i64 ((k : Int) + 1))).toNat < 4 - (intOf (.int .i64 (k : Int))).toNat
            simp only [intOf]
            omega
          case stop11 =>
            intro M W hM hf hbt hmark
            have hwk8 : wk.heap.size < W8.heap.size := HB16.out.lt
            have HNO := Lib.hid (HKN.out (show kindO p t N c true true = none by unfold kindO; rw [← HOB.out, if_pos rfl, hf]; rfl))
            have HOW := Lib.hid ((HOL.out.ext X8.out).butN hbt (fun g hg e => by have := (HOL.out.lt g hg).2; rw [List.mem_singleton] at e; omega))
            have HMW := Lib.hid (((HMK.out.ext X8.out).turn hbt (fun e he => by rw [List.mem_singleton] at he; subst he; exact box_cells HB16.out)))
            have HXW := Lib.hid (hbt.below (HXK.out.trans X8.out) (fun d hd => by rw [List.mem_singleton] at hd; subst hd; exact HKS.out.2))
            have HMM := Lib.hid (Mks.mark (M := M) (HMK.out.ext X8.out) HMW.out (by have := X8.out.bel.size; omega) hM hmark)
            clear hf hbt hmark
            gi_wp2
            refine ⟨⟨k + 1, ol, M :: Es, SyK.mk .., by omega, by rw [HNO.out]; exact HOW.out, HXW.out, HMM.out⟩, ?_⟩
            show 4 - (intOf (.int .i64 ((k : Int) + 1))).toNat < 4 - (intOf (.int .i64 (k : Int))).toNat
            simp only [intOf]
            omega
    · have hk5 : k = 4 := by omega
      rw [hk5] at hol
      have hki : ¬ (k : Int) < 4 := by omega
      have hrl := rowM_len p t N c 4
      obtain ⟨Ao, no, co, rfl⟩ := hol.shape
      have hno := own_len moveK hol
      have hno4 : no ≤ 4 := by omega
      obtain ⟨xs, hxs⟩ : ∃ xs, xs = sortM (rowM p t N c 4) := ⟨_, rfl⟩
      have HSR := Lib.hid (HSO.out W7.heap.size no _ Ao co rfl (rowM p t N c 4) wk hol hno.symm (by omega))
      rw [← hxs] at HSR
      have HXL := Lib.hid (show xs.length = no by rw [hxs, sortM_len, hno])
      have HXS := Lib.hid (show symTo p t N (c + 1) = symTo p t N c ++ xs by rw [symTo_succ, ← hxs])
      have HOS4 := Lib.hid hol
      have HWR := Lib.hid (show b13 ≤ W7.heap.size from Nat.le_of_lt HB13.out.lt)
      clear hol hxk hmk hk5 hrl hno hxs HOL
      gi_wp2
      refine (callsIn_wide.2 HSR.out).mono ?_
      rintro e V1 ⟨⟨u1, rfl⟩, o1, bt1⟩
      obtain ⟨u0, hub, huo⟩ := HW.out.list
      have huo' := (huo.ext HX7.out).ext HXK.out
      have hob : ∀ e, e ∈ (Value.slice Ao no co).ownBlock.toList → W7.heap.size ≤ e := fun e he => (own_blockN HOS4.out he).1
      have hu0 : ∀ r, u0.ownBlock = some r → r < W7.heap.size := fun r e => Nat.lt_of_lt_of_le (huo.lt r e).2 HX7.out.bel.size
      have HV1 := Lib.hid (show BoxAt lb #[u0] 38 V1 from ((hub.ext HX7.out).ext HXK.out).but bt1 (fun e => by have := hob _ e; have := HS7.out; omega))
      have HU1 := Lib.hid (show moveK.Own W6.heap.size V1 u0 (symTo p t N c) from huo'.butN bt1 (fun g hg e => by have := hob _ e; have := hu0 g hg; omega))
      have HN1 := Lib.hid (show ∀ r, u0.ownBlock = some r → (Value.slice Ao no co).ownBlock ≠ some r from fun r e e2 => by
        have h1 := hu0 r e
        have h2 := hob r (by rw [e2]; simp)
        omega)
      have HM1 := Lib.hid (HMK.out.turn bt1 (fun e he => (own_blockN HOS4.out he).2))
      have HBV := Lib.hid (but_old (HB7.out.ext HXK.out) (but_mono bt1 (fun d hd => List.mem_cons_of_mem _ hd)) (fun e he => Nat.le_trans HS7.out (hob e he)))
      have HO1 := Lib.hid o1
      clear o1 bt1 hub huo huo' hob hu0
      gi_wp2
      obtain ⟨Vo, hVo⟩ : ∃ Vo, Vo = V1 := ⟨_, rfl⟩
      rw [← hVo]
      have HVO := Lib.hid hVo
      clear hVo
      gi_loopw [163] (fun qv wq => ∃ (q : Nat) (uu : Value), q ≤ no ∧ qv = .int .i64 (q : Int) ∧ (BoxAt lb #[uu] 38 wq ∧ moveK.Own W6.heap.size wq uu (symTo p t N c ++ xs.take q)) ∧
        (moveK.Own W7.heap.size wq (.slice Ao no co) xs ∧ ∀ r, uu.ownBlock = some r → (Value.slice Ao no co).ownBlock ≠ some r) ∧ Mks W6.heap.size Es wq ∧ But [lb] W6 wq) (fun qv _ => no - (intOf qv).toNat)
      case atStart => exact ⟨0, u0, Nat.zero_le _, rfl, by rw [HVO.out]; exact ⟨HV1.out, by rw [List.take_zero, List.append_nil]; exact HU1.out⟩, by rw [HVO.out]; exact ⟨HO1.out, HN1.out⟩, by rw [HVO.out]; exact HM1.out, by rw [HVO.out]; exact HBV.out⟩
      case round =>
        obtain ⟨q, uu, hq, rfl, ⟨hbx, hou⟩, ⟨hox, hne⟩, hmk, hbt⟩ := hrel
        have HBX := Lib.hid hbx
        have HOU := Lib.hid hou
        have HOX := Lib.hid hox
        have HNE := Lib.hid hne
        have HMQ := Lib.hid hmk
        have HBT := Lib.hid hbt
        by_cases hqn : q < no
        · have hql : q < xs.length := by rw [HXL.out]; exact hqn
          obtain ⟨gx, cx, hge, -, hgl, hgc, -⟩ := hox.slot hql
          simp only [Value.slice.injEq] at hge
          obtain ⟨rfl, -, rfl⟩ := hge
          have HTK := Lib.hid (show xs.take (q + 1) = xs.take q ++ [xs[q]] from List.take_succ_eq_append_getElem hql)
          obtain ⟨xx, hxx⟩ : ∃ z, z = xs[q] := ⟨_, rfl⟩
          rw [← hxx] at hgc HTK
          obtain ⟨xa, xb, xc, xd⟩ := xx
          have q0 := hgc 0 _ rfl
          have q1 := hgc 1 _ rfl
          have q2 := hgc 2 _ rfl
          have q3 := hgc 3 _ rfl
          simp only [moveK, Nat.add_zero] at q0 q1 q2 q3
          have lq := cell_lt q0
          have hsl := symTo_len p t N c
          have HS1 := Lib.hid fun (W' : World) (x : Ext wr W') => sym1_any lb W6.heap.size uu (symTo p t N c ++ xs.take q) (xa, xb, xc, xd) W' (HBX.out.ext x) (HOU.out.ext x) hlb6 (Nat.le_trans HBT.out.size x.bel.size) (by rw [List.length_append, List.length_take]; omega)
          have hqi : (q : Int) < (no : Int) := by omega
          clear hbx hou hox hne hmk hbt hgc hgl hsl hxx
          gi_wp2
          refine (callsIn_wide.2 (HS1.out _ ((Ext.refl _).alloc _))).mono ?_
          rintro e V2 ⟨rfl, u2, hb2, ho2, bt2, hn2⟩
          have hxa : Ext wr (wr.alloc (.cells #[.int .i64 xa, .int .i64 xb, .bool xc, .bool xd] 78)) := (Ext.refl _).alloc _
          have HB2 := Lib.hid hb2
          have HO2 := Lib.hid ho2
          have hcl : ∀ e, e ∈ lb :: uu.ownBlock.toList → ∃ o : Obj, (wr.alloc (.cells #[.int .i64 xa, .int .i64 xb, .bool xc, .bool xd] 78)).heap[e]? = some o ∧ o.isCells = true := fun e he => by
            rcases List.mem_cons.1 he with h | h
            · rw [h]; exact box_cells (HBX.out.ext hxa)
            · exact (own_blockN (HOU.out.ext hxa) h).2
          have HM2 := Lib.hid ((HMQ.out.ext hxa).turn bt2 hcl)
          have HT2 := Lib.hid (but_old (HBT.out.ext hxa) bt2 (fun e he => (own_blockN HOU.out he).1))
          have HX2 := Lib.hid ((HOX.out.ext hxa).butN bt2 (fun g hg e => by
            rcases List.mem_cons.1 e with h | h
            · have := (HOX.out.lt g hg).1; have := HS7.out; omega
            · exact HNE.out g (by simpa using h) hg))
          have HN2 := Lib.hid (show ∀ r, u2.ownBlock = some r → (Value.slice (some ⟨gx, 0, none⟩) no co).ownBlock ≠ some r from fun r e e2 => by
            rcases hn2 with h | h
            · exact HNE.out r (by rw [← h]; exact e) e2
            · have h1 := h r e
              have h2 := (HOX.out.lt r e2).2
              have h3 := hxa.bel.size
              omega)
          clear hb2 ho2 bt2 hn2 hxa hcl q0 q1 q2 q3 lq
          gi_wp2
          go_roundw
          case rel => exact ⟨q + 1, u2, by omega, by go_num, ⟨HB2.out, by rw [HTK.out, ← List.append_assoc]; exact HO2.out⟩, ⟨HX2.out, HN2.out⟩, HM2.out, HT2.out⟩
          case measure => simp [intOf]; omega
        · obtain rfl : q = no := by omega
          have HU2 := Lib.hid (show moveK.Own W6.heap.size _ uu (symTo p t N (c + 1)) by
            have h := HOU.out
            rw [List.take_of_length_le (by rw [HXL.out]; exact Nat.le_refl _)] at h
            rw [HXS.out]
            exact h)
          clear hbx hou hox hne hmk hbt
          gi_wp2
          apply_assumption
          gi_wp2
          refine ⟨⟨c + 1, Es, SyC.mk .., by omega, HBT.out, HMQ.out, _, HBX.out, HU2.out⟩, ?_⟩
          show N - (intOf (.int .i64 ((c : Int) + 1))).toNat < N - (intOf (.int .i64 (c : Int))).toNat
          simp only [intOf]
          omega
  · have hcN2 : c = N := by omega
    have hci : ¬ (c : Int) < (N : Int) := by omega
    have HCN := Lib.hid hcN2
    clear hcN2
    gi_wp2
    refine leaves_marks Ds _ HW.out.mks.nd (fun D hD => (HW.out.mks.mks D hD).2) (fun W' hW => ?_)
    obtain ⟨u0, hub, huo⟩ := HW.out.list
    have hB : But Ds wr W' := ⟨hW.os, hW.tape, hW.output, Nat.le_of_eq hW.size.symm, fun i _ hd => hW.block i hd⟩
    have hD : ∀ D ∈ Ds, W6.heap.size ≤ D := fun D h => (HW.out.mks.mks D h).1
    refine ⟨_, results_none rfl _ _ _, ⟨_, rfl⟩, ⟨u0, hub.but hB (fun e => by have := hD _ e; omega), ?_⟩, ?_⟩
    · have h1 : symTo p t N c = symL p t := by rw [HSL.out, HCN.out]
      rw [h1] at huo
      refine (huo.butN hB (fun g hg e => ?_)).mono HX6.out.bel.size
      obtain ⟨o, h3, h4⟩ := (own_blockN huo (e := g) (by rw [hg]; simp)).2
      rw [(HW.out.mks.mks g e).2] at h3
      cases h3
      cases h4
    · have h1 := but_old HW.out.but (but_mono hB (fun d hd => List.mem_cons_of_mem _ hd)) hD
      exact HX6.out.but.trans h1

/-- The symmetries of a valid program. -/
theorem Symm_good (p : PrT) (v : PrV) (t : Nat) (w : World) (h : PrIs w v p) (hg : Good p) (ht : LeastT (liftL p.ros p.rub) t) :
    Calls Tryz.prog 10 #[p.val v] w fun e w' => ∃ u, e = .returned (.tuple #[u, .int .i64 0]) ∧ moveK.Is w' u (symL p t) ∧ Ext w w' := by
  have HM := Lib.hid fun (W : World) (x : Ext w W) => mounted_good p v W (h.ext x) hg
  have HS := Lib.hid fun (b lb : Nat) (lv : Value) (W : World) (hb : BenchAt b W p v lv) (hl : BoxAt lb #[.slice none 0 0] 38 W) => search_self b lb p v lv t W hb hg ht hl
  obtain ⟨ur, ub, us⟩ := v
  obtain ⟨A1, n1, c1, rfl, -⟩ := h.ros.open_
  obtain ⟨A2, n2, c2, rfl, -⟩ := h.rub.open_
  obtain ⟨A3, n3, c3, rfl, -⟩ := h.sh.open_
  clear h hg ht
  unfold PrT.val at *
  go_enter Tryz.func10, Tryz.ntmps10
  go_wp2_with fail
  refine (HM.out _ ((Ext.refl _).alloc _)).mono ?_
  rintro e w1 ⟨b, lv, rfl, hb, hbe, x1⟩
  have HX1 := Lib.hid (((Ext.refl w).alloc _).trans x1)
  have HBE := Lib.hid hbe
  clear x1 hbe hb
  go_wp2_with fail
  refine (HS.out _ w1.heap.size lv _ (HBE.out.ext ((Ext.refl _).alloc _)) (BoxAt.new w1 _ _)).mono ?_
  rintro e w2 ⟨⟨z, rfl⟩, ⟨u, hu, ho⟩, hbt⟩
  have HU := Lib.hid ho.is
  have HX2 := Lib.hid (hbt.below (HX1.out.trans ((Ext.refl w1).alloc (.cells #[.slice none 0 0] 38))) (fun d hd => by rw [List.mem_singleton] at hd; subst hd; exact HX1.out.bel.size))
  obtain ⟨Au, nu, cu, rfl⟩ := ho.shape
  have c0 := hu.cell (i := 0) rfl
  have lc := cell_lt c0
  clear hu ho hbt
  go_wp2_with fail
  go_ret2
  exact ⟨_, rfl, HU.out, HX2.out⟩
end Go.Proofs.YtkjgcmdabelohaaGreat
