/- groove.Hide, where its arguments are right. Conditions: so named. -/
import Derived.Test.YtgeapenglcohfaaGHidT
import Derived.Test.YtgeapenglcohfaaGDist
import Derived.Shelf.Abstract
namespace Go.Proofs.Ytgeapenglcohfaa
open Go.RowKit Go.Shelf

attribute [local go_sem] Oper.semAt_some

def Hid2 (A : Option Addr) (k c L : Nat) (mo : Int) (b8 : Nat) (b10 : Nat) (Ds : List Nat) (a : Act) : Prop := ∃ u : Nat → Value, a = { tmps := #[.slice A k c, .int .i64 (L : Int), .int .i64 mo, u 3, u 4, u 5, u 6, u 7, .pointer (some ⟨b8, 0, none⟩), u 9, .pointer (some ⟨b10, 0, none⟩), u 11, u 12, u 13, u 14, u 15, u 16, u 17, u 18, u 19, u 20, u 21, u 22, u 23, u 24, u 25, u 26, u 27, u 28, u 29, u 30, u 31, u 32, u 33, u 34, u 35, u 36, u 37, u 38, u 39, u 40, u 41, u 42, u 43, u 44, u 45, u 46, u 47, u 48, u 49, u 50, u 51, u 52, u 53, u 54, u 55, u 56, u 57, u 58, u 59, u 60, u 61, u 62, u 63, u 64, u 65, u 66, u 67, u 68, u 69, u 70, u 71, u 72, u 73, u 74, u 75, u 76, u 77, u 78, u 79, u 80, u 81, u 82, u 83, u 84, u 85, u 86, u 87, u 88, u 89, u 90, u 91, u 92, u 93, u 94, u 95, u 96, u 97, u 98, u 99, u 100, u 101, u 102, u 103, u 104, u 105, u 106, u 107, u 108, u 109, u 110, u 111, u 112, u 113, u 114, u 115, u 116, u 117, u 118, u 119, u 120, u 121, u 122, u 123, u 124, u 125, u 126, u 127, u 128, u 129, u 130, u 131, u 132, u 133, u 134, u 135, u 136, u 137, u 138, u 139], defers := marksOf Ds }
set_option maxRecDepth 100000 in
theorem Hid2.mk (A : Option Addr) (k c L : Nat) (mo : Int) (b8 : Nat) (b10 : Nat) (Ds : List Nat) (u3 u4 u5 u6 u7 u9 u11 u12 u13 u14 u15 u16 u17 u18 u19 u20 u21 u22 u23 u24 u25 u26 u27 u28 u29 u30 u31 u32 u33 u34 u35 u36 u37 u38 u39 u40 u41 u42 u43 u44 u45 u46 u47 u48 u49 u50 u51 u52 u53 u54 u55 u56 u57 u58 u59 u60 u61 u62 u63 u64 u65 u66 u67 u68 u69 u70 u71 u72 u73 u74 u75 u76 u77 u78 u79 u80 u81 u82 u83 u84 u85 u86 u87 u88 u89 u90 u91 u92 u93 u94 u95 u96 u97 u98 u99 u100 u101 u102 u103 u104 u105 u106 u107 u108 u109 u110 u111 u112 u113 u114 u115 u116 u117 u118 u119 u120 u121 u122 u123 u124 u125 u126 u127 u128 u129 u130 u131 u132 u133 u134 u135 u136 u137 u138 u139 : Value) : Hid2 A k c L mo b8 b10 Ds { tmps := #[.slice A k c, .int .i64 (L : Int), .int .i64 mo, u3, u4, u5, u6, u7, .pointer (some ⟨b8, 0, none⟩), u9, .pointer (some ⟨b10, 0, none⟩), u11, u12, u13, u14, u15, u16, u17, u18, u19, u20, u21, u22, u23, u24, u25, u26, u27, u28, u29, u30, u31, u32, u33, u34, u35, u36, u37, u38, u39, u40, u41, u42, u43, u44, u45, u46, u47, u48, u49, u50, u51, u52, u53, u54, u55, u56, u57, u58, u59, u60, u61, u62, u63, u64, u65, u66, u67, u68, u69, u70, u71, u72, u73, u74, u75, u76, u77, u78, u79, u80, u81, u82, u83, u84, u85, u86, u87, u88, u89, u90, u91, u92, u93, u94, u95, u96, u97, u98, u99, u100, u101, u102, u103, u104, u105, u106, u107, u108, u109, u110, u111, u112, u113, u114, u115, u116, u117, u118, u119, u120, u121, u122, u123, u124, u125, u126, u127, u128, u129, u130, u131, u132, u133, u134, u135, u136, u137, u138, u139], defers := marksOf Ds } := ⟨fun i => [undef, undef, undef, u3, u4, u5, u6, u7, undef, u9, undef, u11, u12, u13, u14, u15, u16, u17, u18, u19, u20, u21, u22, u23, u24, u25, u26, u27, u28, u29, u30, u31, u32, u33, u34, u35, u36, u37, u38, u39, u40, u41, u42, u43, u44, u45, u46, u47, u48, u49, u50, u51, u52, u53, u54, u55, u56, u57, u58, u59, u60, u61, u62, u63, u64, u65, u66, u67, u68, u69, u70, u71, u72, u73, u74, u75, u76, u77, u78, u79, u80, u81, u82, u83, u84, u85, u86, u87, u88, u89, u90, u91, u92, u93, u94, u95, u96, u97, u98, u99, u100, u101, u102, u103, u104, u105, u106, u107, u108, u109, u110, u111, u112, u113, u114, u115, u116, u117, u118, u119, u120, u121, u122, u123, u124, u125, u126, u127, u128, u129, u130, u131, u132, u133, u134, u135, u136, u137, u138, u139].getD i undef, rfl⟩
def Hid4 (A : Option Addr) (k c L : Nat) (mo : Int) (b8 : Nat) (b10 : Nat) (nn : Int) (Ds : List Nat) (a : Act) : Prop := ∃ u : Nat → Value, a = { tmps := #[.slice A k c, .int .i64 (L : Int), .int .i64 mo, u 3, u 4, u 5, u 6, u 7, .pointer (some ⟨b8, 0, none⟩), u 9, .pointer (some ⟨b10, 0, none⟩), .int .i64 nn, u 12, u 13, u 14, u 15, u 16, u 17, u 18, u 19, u 20, u 21, u 22, u 23, u 24, u 25, u 26, u 27, u 28, u 29, u 30, u 31, u 32, u 33, u 34, u 35, u 36, u 37, u 38, u 39, u 40, u 41, u 42, u 43, u 44, u 45, u 46, u 47, u 48, u 49, u 50, u 51, u 52, u 53, u 54, u 55, u 56, u 57, u 58, u 59, u 60, u 61, u 62, u 63, u 64, u 65, u 66, u 67, u 68, u 69, u 70, u 71, u 72, u 73, u 74, u 75, u 76, u 77, u 78, u 79, u 80, u 81, u 82, u 83, u 84, u 85, u 86, u 87, u 88, u 89, u 90, u 91, u 92, u 93, u 94, u 95, u 96, u 97, u 98, u 99, u 100, u 101, u 102, u 103, u 104, u 105, u 106, u 107, u 108, u 109, u 110, u 111, u 112, u 113, u 114, u 115, u 116, u 117, u 118, u 119, u 120, u 121, u 122, u 123, u 124, u 125, u 126, u 127, u 128, u 129, u 130, u 131, u 132, u 133, u 134, u 135, u 136, u 137, u 138, u 139], defers := marksOf Ds }
set_option maxRecDepth 100000 in
theorem Hid4.mk (A : Option Addr) (k c L : Nat) (mo : Int) (b8 : Nat) (b10 : Nat) (nn : Int) (Ds : List Nat) (u3 u4 u5 u6 u7 u9 u12 u13 u14 u15 u16 u17 u18 u19 u20 u21 u22 u23 u24 u25 u26 u27 u28 u29 u30 u31 u32 u33 u34 u35 u36 u37 u38 u39 u40 u41 u42 u43 u44 u45 u46 u47 u48 u49 u50 u51 u52 u53 u54 u55 u56 u57 u58 u59 u60 u61 u62 u63 u64 u65 u66 u67 u68 u69 u70 u71 u72 u73 u74 u75 u76 u77 u78 u79 u80 u81 u82 u83 u84 u85 u86 u87 u88 u89 u90 u91 u92 u93 u94 u95 u96 u97 u98 u99 u100 u101 u102 u103 u104 u105 u106 u107 u108 u109 u110 u111 u112 u113 u114 u115 u116 u117 u118 u119 u120 u121 u122 u123 u124 u125 u126 u127 u128 u129 u130 u131 u132 u133 u134 u135 u136 u137 u138 u139 : Value) : Hid4 A k c L mo b8 b10 nn Ds { tmps := #[.slice A k c, .int .i64 (L : Int), .int .i64 mo, u3, u4, u5, u6, u7, .pointer (some ⟨b8, 0, none⟩), u9, .pointer (some ⟨b10, 0, none⟩), .int .i64 nn, u12, u13, u14, u15, u16, u17, u18, u19, u20, u21, u22, u23, u24, u25, u26, u27, u28, u29, u30, u31, u32, u33, u34, u35, u36, u37, u38, u39, u40, u41, u42, u43, u44, u45, u46, u47, u48, u49, u50, u51, u52, u53, u54, u55, u56, u57, u58, u59, u60, u61, u62, u63, u64, u65, u66, u67, u68, u69, u70, u71, u72, u73, u74, u75, u76, u77, u78, u79, u80, u81, u82, u83, u84, u85, u86, u87, u88, u89, u90, u91, u92, u93, u94, u95, u96, u97, u98, u99, u100, u101, u102, u103, u104, u105, u106, u107, u108, u109, u110, u111, u112, u113, u114, u115, u116, u117, u118, u119, u120, u121, u122, u123, u124, u125, u126, u127, u128, u129, u130, u131, u132, u133, u134, u135, u136, u137, u138, u139], defers := marksOf Ds } := ⟨fun i => [undef, undef, undef, u3, u4, u5, u6, u7, undef, u9, undef, undef, u12, u13, u14, u15, u16, u17, u18, u19, u20, u21, u22, u23, u24, u25, u26, u27, u28, u29, u30, u31, u32, u33, u34, u35, u36, u37, u38, u39, u40, u41, u42, u43, u44, u45, u46, u47, u48, u49, u50, u51, u52, u53, u54, u55, u56, u57, u58, u59, u60, u61, u62, u63, u64, u65, u66, u67, u68, u69, u70, u71, u72, u73, u74, u75, u76, u77, u78, u79, u80, u81, u82, u83, u84, u85, u86, u87, u88, u89, u90, u91, u92, u93, u94, u95, u96, u97, u98, u99, u100, u101, u102, u103, u104, u105, u106, u107, u108, u109, u110, u111, u112, u113, u114, u115, u116, u117, u118, u119, u120, u121, u122, u123, u124, u125, u126, u127, u128, u129, u130, u131, u132, u133, u134, u135, u136, u137, u138, u139].getD i undef, rfl⟩
def Hid8 (A : Option Addr) (k c L : Nat) (mo : Int) (b8 : Nat) (ov : Value) (la : Int) (i : Nat) (Ds : List Nat) (a : Act) : Prop := ∃ u : Nat → Value, a = { tmps := #[.slice A k c, .int .i64 (L : Int), .int .i64 mo, u 3, u 4, u 5, u 6, u 7, .pointer (some ⟨b8, 0, none⟩), u 9, u 10, u 11, u 12, u 13, u 14, ov, .int .i64 la, u 17, u 18, u 19, u 20, u 21, u 22, u 23, u 24, u 25, u 26, u 27, u 28, u 29, u 30, u 31, u 32, u 33, u 34, u 35, u 36, u 37, u 38, u 39, u 40, u 41, u 42, u 43, u 44, u 45, u 46, u 47, u 48, u 49, u 50, u 51, u 52, u 53, u 54, u 55, u 56, u 57, u 58, u 59, u 60, u 61, u 62, u 63, u 64, u 65, u 66, u 67, u 68, u 69, u 70, u 71, u 72, u 73, u 74, u 75, u 76, u 77, u 78, u 79, u 80, u 81, u 82, u 83, u 84, u 85, u 86, u 87, u 88, u 89, u 90, u 91, u 92, u 93, u 94, u 95, u 96, u 97, u 98, u 99, u 100, u 101, u 102, u 103, u 104, u 105, u 106, u 107, .int .i64 ((L : Int) + 1), .int .i64 (i : Int), u 110, u 111, u 112, u 113, u 114, u 115, u 116, u 117, u 118, u 119, u 120, u 121, u 122, u 123, u 124, u 125, u 126, u 127, u 128, u 129, u 130, u 131, u 132, u 133, u 134, u 135, u 136, u 137, u 138, u 139], defers := marksOf Ds }
set_option maxRecDepth 100000 in
theorem Hid8.mk (A : Option Addr) (k c L : Nat) (mo : Int) (b8 : Nat) (ov : Value) (la : Int) (i : Nat) (Ds : List Nat) (u3 u4 u5 u6 u7 u9 u10 u11 u12 u13 u14 u17 u18 u19 u20 u21 u22 u23 u24 u25 u26 u27 u28 u29 u30 u31 u32 u33 u34 u35 u36 u37 u38 u39 u40 u41 u42 u43 u44 u45 u46 u47 u48 u49 u50 u51 u52 u53 u54 u55 u56 u57 u58 u59 u60 u61 u62 u63 u64 u65 u66 u67 u68 u69 u70 u71 u72 u73 u74 u75 u76 u77 u78 u79 u80 u81 u82 u83 u84 u85 u86 u87 u88 u89 u90 u91 u92 u93 u94 u95 u96 u97 u98 u99 u100 u101 u102 u103 u104 u105 u106 u107 u110 u111 u112 u113 u114 u115 u116 u117 u118 u119 u120 u121 u122 u123 u124 u125 u126 u127 u128 u129 u130 u131 u132 u133 u134 u135 u136 u137 u138 u139 : Value) : Hid8 A k c L mo b8 ov la i Ds { tmps := #[.slice A k c, .int .i64 (L : Int), .int .i64 mo, u3, u4, u5, u6, u7, .pointer (some ⟨b8, 0, none⟩), u9, u10, u11, u12, u13, u14, ov, .int .i64 la, u17, u18, u19, u20, u21, u22, u23, u24, u25, u26, u27, u28, u29, u30, u31, u32, u33, u34, u35, u36, u37, u38, u39, u40, u41, u42, u43, u44, u45, u46, u47, u48, u49, u50, u51, u52, u53, u54, u55, u56, u57, u58, u59, u60, u61, u62, u63, u64, u65, u66, u67, u68, u69, u70, u71, u72, u73, u74, u75, u76, u77, u78, u79, u80, u81, u82, u83, u84, u85, u86, u87, u88, u89, u90, u91, u92, u93, u94, u95, u96, u97, u98, u99, u100, u101, u102, u103, u104, u105, u106, u107, .int .i64 ((L : Int) + 1), .int .i64 (i : Int), u110, u111, u112, u113, u114, u115, u116, u117, u118, u119, u120, u121, u122, u123, u124, u125, u126, u127, u128, u129, u130, u131, u132, u133, u134, u135, u136, u137, u138, u139], defers := marksOf Ds } := ⟨fun i => [undef, undef, undef, u3, u4, u5, u6, u7, undef, u9, u10, u11, u12, u13, u14, undef, undef, u17, u18, u19, u20, u21, u22, u23, u24, u25, u26, u27, u28, u29, u30, u31, u32, u33, u34, u35, u36, u37, u38, u39, u40, u41, u42, u43, u44, u45, u46, u47, u48, u49, u50, u51, u52, u53, u54, u55, u56, u57, u58, u59, u60, u61, u62, u63, u64, u65, u66, u67, u68, u69, u70, u71, u72, u73, u74, u75, u76, u77, u78, u79, u80, u81, u82, u83, u84, u85, u86, u87, u88, u89, u90, u91, u92, u93, u94, u95, u96, u97, u98, u99, u100, u101, u102, u103, u104, u105, u106, u107, undef, undef, u110, u111, u112, u113, u114, u115, u116, u117, u118, u119, u120, u121, u122, u123, u124, u125, u126, u127, u128, u129, u130, u131, u132, u133, u134, u135, u136, u137, u138, u139].getD i undef, rfl⟩

/-- What Hide answers. -/
def HidPost (r : Option (List Int × Int)) (L : Nat) (w : World) (e : Ending) (w' : World) : Prop :=
  ∃ v er xs, e = .returned (.tuple #[v, .int .i64 er]) ∧ IsI w' v xs ∧ Ext w w' ∧ ((r = none ∧ er = 6 ∧ xs = []) ∨ (∃ ys la, r = some (ys, la) ∧ er = 0 ∧ xs = ys.take L))

theorem allB_at {lo hi : Int} {zs : List Int} (h : allB lo hi zs = true) {i : Nat} (hi' : i < zs.length) : lo ≤ zs[i]?.getD 0 ∧ zs[i]?.getD 0 ≤ hi := by
  rw [List.getElem?_eq_getElem hi']
  exact inB_iff.1 (List.all_eq_true.1 h _ (List.getElem_mem hi'))

/-- The world of the rounds. -/
structure HidW (W2 : World) (g R : Nat) (T : Nat → Nat → Cst) (Ds : List Nat) (W : World) : Prop where
  but : But [g] W2 W
  tab : TabIs g R T W
  nd : Ds.Nodup
  mks : ∀ D ∈ Ds, W2.heap.size ≤ D ∧ W.heap[D]? = some (.deferred (some []))
theorem HidW.ext {W2 W W' : World} {g R : Nat} {T : Nat → Nat → Cst} {Ds : List Nat} (h : HidW W2 g R T Ds W) (x : Ext W W') : HidW W2 g R T Ds W' :=
  ⟨h.but.ext x, h.tab.ext x, h.nd, fun D hD => ⟨(h.mks D hD).1, (x.bel.block D (Array.getElem?_eq_some_iff.1 (h.mks D hD).2).1).trans (h.mks D hD).2⟩⟩
theorem HidW.turn {W2 W W' : World} {g R : Nat} {T : Nat → Nat → Cst} {Ds E : List Nat} (h : HidW W2 g R T Ds W) (k : But E W W') (hE : ∀ e ∈ E, W2.heap.size ≤ e ∧ ∃ o : Obj, W.heap[e]? = some o ∧ o.isCells = true) (hg : g < W2.heap.size) : HidW W2 g R T Ds W' := by
  have notE : ∀ i, i < W2.heap.size → i ∉ E := fun i hi hm => by have := (hE i hm).1; omega
  refine ⟨⟨k.os.trans h.but.os, k.tape.trans h.but.tape, k.output.trans h.but.output, Nat.le_trans h.but.size k.size, fun i hi hd => (k.block i (Nat.lt_of_lt_of_le hi h.but.size) (notE i hi)).trans (h.but.block i hi hd)⟩, h.tab.but k (notE g hg), h.nd, fun D hD => ?_⟩
  obtain ⟨h1, h2⟩ := h.mks D hD
  refine ⟨h1, (k.block D (Array.getElem?_eq_some_iff.1 h2).1 (fun hm => ?_)).trans h2⟩
  obtain ⟨_, o, h3, h4⟩ := hE D hm
  rw [h2] at h3
  obtain rfl := Option.some.inj h3
  cases h4
theorem HidW.mark {W2 W : World} {g R M : Nat} {T : Nat → Nat → Cst} {Ds : List Nat} (h : HidW W2 g R T Ds W) (hlt : ∀ D ∈ Ds, D < M) (hM : W2.heap.size ≤ M) (hm : W.heap[M]? = some (.deferred (some []))) : HidW W2 g R T (M :: Ds) W :=
  ⟨h.but, h.tab, List.nodup_cons.2 ⟨fun hD => Nat.lt_irrefl _ (hlt M hD), h.nd⟩, fun D hD => by
    rcases List.mem_cons.1 hD with rfl | hD
    · exact ⟨hM, hm⟩
    · exact h.mks D hD⟩
theorem cells_of {W : World} {b o : Nat} {v : Value} (h : W.cell? ⟨b, o, none⟩ = some v) : ∃ x : Obj, W.heap[b]? = some x ∧ x.isCells = true := by
  unfold World.cell? at h
  simp only at h
  split at h
  · rename_i hx
    exact ⟨_, hx, rfl⟩
  · cases h
theorem EK.Own.but' {α : Type} {K : EK α} {B : Nat} {D : List Nat} {w w' : World} {v : Value} {xs : List α} (h : K.Own B w v xs) (k : But D w w') (hd : ∀ g, v.ownBlock = some g → g ∉ D) : K.Own B w' v xs := by
  refine ⟨h.1, ?_⟩
  rcases h.2 with hn | ⟨g, cap, cur, hv, hb, hg, rest⟩
  · exact .inl hn
  · exact .inr ⟨g, cap, cur, hv, hb, (k.block g (Array.getElem?_eq_some_iff.1 hg).1 (hd g (by rw [hv]; rfl))).trans hg, rest⟩
theorem own_block {α : Type} {K : EK α} {B : Nat} {w : World} {v : Value} {xs : List α} (h : K.Own B w v xs) {e : Nat} (he : e ∈ v.ownBlock.toList) : B ≤ e ∧ ∃ o : Obj, w.heap[e]? = some o ∧ o.isCells = true := by
  rcases h.2 with ⟨rfl, _⟩ | ⟨g, cap, cur, rfl, hb, hg, _⟩
  · simp [Value.ownBlock] at he
  · simp only [Value.ownBlock, Option.toList_some, List.mem_singleton] at he
    subst he
    exact ⟨hb, _, hg, rfl⟩
theorem hide_stop {made mo : Int} {L : Nat} {la : Int} {i : Nat} (h : hideTo made mo L la i = none) : ∀ {n : Nat}, i ≤ n → hideTo made mo L la n = none := by
  intro n hn
  obtain ⟨d, rfl⟩ := Nat.exists_eq_add_of_le hn
  induction d with
  | zero => exact h
  | succ d ih =>
    show (hideTo made mo L la (i + d)).bind _ = none
    rw [ih (by omega)]
    rfl
theorem HidW.over {W2 Wf W : World} {g R b M : Nat} {T : Nat → Nat → Cst} {Ds : List Nat} (h : HidW W2 g R T Ds Wf) (k : But [b] Wf W) (hb : W2.heap.size ≤ b) (hg : g < W2.heap.size) (hc : ∃ o v, Wf.cell? ⟨b, o, none⟩ = some v) (hM : Wf.heap.size ≤ M) (hm : W.heap[M]? = some (.deferred (some []))) :
    HidW W2 g R T (M :: Ds) W := by
  obtain ⟨o, v, hc⟩ := hc
  refine (h.turn k (fun e he => ?_) hg).mark (fun D hD => Nat.lt_of_lt_of_le (Array.getElem?_eq_some_iff.1 (h.mks D hD).2).1 hM) (Nat.le_trans h.but.size hM) hm
  obtain rfl := List.mem_singleton.1 he
  exact ⟨hb, cells_of hc⟩
theorem HidW.congr {W2 W : World} {g R : Nat} {T T' : Nat → Nat → Cst} {Ds : List Nat} (h : HidW W2 g R T Ds W) (e : ∀ i s, i < R → s < 41 → T i s = T' i s) : HidW W2 g R T' Ds W := ⟨h.but, h.tab.congr e, h.nd, h.mks⟩
theorem HidW.put3 {W2 W : World} {g R : Nat} {T : Nat → Nat → Cst} {Ds : List Nat} (h : HidW W2 g R T Ds W) {i s : Nat} (hi : i < R) (hs : s < 41) (d : Cst) (hg : g < W2.heap.size) :
    HidW W2 g R (updT T i s d) Ds (((W.setCell ⟨g, i * 123 + s * 3, none⟩ (.int .i64 d.1)).setCell ⟨g, i * 123 + s * 3 + 1, none⟩ (.int .i64 d.2.1)).setCell ⟨g, i * 123 + s * 3 + 2, none⟩ (.bool d.2.2)) :=
  ⟨((h.but.setCell (p := ⟨g, i * 123 + s * 3, none⟩) (by simp) _).setCell (p := ⟨g, i * 123 + s * 3 + 1, none⟩) (by simp) _).setCell (p := ⟨g, i * 123 + s * 3 + 2, none⟩) (by simp) _, h.tab.put hi hs d, h.nd, fun D hD => by
    obtain ⟨h1, h2⟩ := h.mks D hD
    have hne : D ≠ g := by omega
    refine ⟨h1, ?_⟩
    rw [heap_setCell_other _ _ _ _ hne, heap_setCell_other _ _ _ _ hne, heap_setCell_other _ _ _ _ hne]
    exact h2⟩

def meas2 (a : Act) (wr : World) : Nat := match a.tmps.getD 10 undef with
  | .pointer (some p) => ((wr.cell? p).map fun v => (intOf v + 1).toNat).getD 0
  | _ => 0
theorem meas2_at {a : Act} {wr : World} {p : Addr} {n : Int} (h : a.tmps.getD 10 undef = .pointer (some p)) (hc : wr.cell? p = some (.int .i64 n)) : meas2 a wr = (n + 1).toNat := by
  unfold meas2
  rw [h]
  simp [hc, intOf]

theorem isI_take {w : World} {g n c m : Nat} {zs : List Int} (h : IsI w (.slice (some ⟨g, 0, none⟩) n c) zs) (hm : m ≤ zs.length) (hc : m ≤ c) : IsI w (.slice (some ⟨g, 0, none⟩) m c) (zs.take m) := by
  obtain ⟨A, c', he, _, ⟨hc1, hc2⟩, hr⟩ := h
  simp only [Value.slice.injEq] at he
  obtain ⟨rfl, rfl, rfl⟩ := he
  refine IsI.of_row (by simp) hc hc2 ⟨by simp; omega, by omega, fun k hk => ?_⟩
  obtain ⟨b, o, hA, hb, hcell⟩ := hr.at_ k (by omega)
  refine ⟨b, o, hA, hb, ?_⟩
  rw [List.getElem?_take, if_pos hk]
  exact hcell
theorem IsI.put {w w' : World} {v : Value} {zs : List Int} {Ds : List Nat} (h : IsI w v zs) (hW : PutAt Ds w w') (hD : ∀ D ∈ Ds, w.heap[D]? = some (.deferred (some []))) : IsI w' v zs := by
  obtain ⟨A, c, rfl, h0, hc, hr⟩ := h
  refine ⟨A, c, rfl, h0, hc, ⟨hr.len, hr.max, fun k hk => ?_⟩⟩
  obtain ⟨b, o, hA, hb, hcell⟩ := hr.at_ k hk
  exact ⟨b, o, hA, by rw [hW.size]; exact hb, hW.cell hD hcell⟩

/-- The table with d rows done, and s slips of the next. -/
def tabD (made mo : Int) (L d s : Nat) (i r : Nat) : Cst := if L - d ≤ i then rowF made mo (L - i) (-20 + r) else if i + 1 + d = L ∧ r < s then rowF made mo (d + 1) (-20 + r) else (0, 0, false)

/-- The cells of a box of costs. -/
def c3 (b : Nat) (s : Cst) : List (Nat × Nat × Value) := [(b, 0, .int .i64 s.1), (b, 1, .int .i64 s.2.1), (b, 2, .bool s.2.2)]
theorem c3_cost {b : Nat} {s : Cst} {W : World} : CellsAt (c3 b s) W ↔ CostAt b 0 s W := by
  constructor
  · intro h
    obtain ⟨a0, a1⟩ := h (b, 0, .int .i64 s.1) (by simp [c3])
    obtain ⟨b0, b1⟩ := h (b, 1, .int .i64 s.2.1) (by simp [c3])
    obtain ⟨c0, c1⟩ := h (b, 2, .bool s.2.2) (by simp [c3])
    exact ⟨a0, b0, c0, a1, b1, c1⟩
  · intro h t ht
    simp only [c3, List.mem_cons, List.not_mem_nil, or_false] at ht
    rcases ht with rfl | rfl | rfl
    · exact ⟨h.c0, h.f0⟩
    · exact ⟨h.c1, h.f1⟩
    · exact ⟨h.c2, h.f2⟩
theorem c3_put {b : Nat} {s : Cst} {W : World} (h : CellsAt (c3 b s) W) (t : Cst) : CellsAt (c3 b t) (((W.setCell ⟨b, 0, none⟩ (.int .i64 t.1)).setCell ⟨b, 1, none⟩ (.int .i64 t.2.1)).setCell ⟨b, 2, none⟩ (.bool t.2.2)) := c3_cost.2 ((c3_cost.1 h).put t)
def stepC (f : Int → Cst) (lo : Int) (s : Cst) (i : Nat) : Cst := if befC (f (lo + i)) s then f (lo + i) else s
theorem fold_pick (f : Int → Cst) (lo : Int) : ∀ N : Nat, (List.range N).foldlM (fun s i => some (stepC f lo s i)) noneC = some (pickTo f lo N).1
  | 0 => rfl
  | N + 1 => by
    rw [foldM_succ (fold_pick f lo N)]
    show some (if befC (f (lo + N)) (pickTo f lo N).1 then f (lo + N) else (pickTo f lo N).1) = some (if befC (f (lo + N)) (pickTo f lo N).1 then (f (lo + N), lo + (N : Int)) else pickTo f lo N).1
    split <;> rfl

/-- The same with which one. -/
def c4 (b : Nat) (s : Cst × Int) : List (Nat × Nat × Value) := c3 b s.1 ++ [(b + 1, 0, .int .i64 s.2)]
theorem c4_put {b : Nat} {s : Cst × Int} {W : World} (h : CellsAt (c4 b s) W) (t : Cst × Int) :
    CellsAt (c4 b t) ((((W.setCell ⟨b, 0, none⟩ (.int .i64 t.1.1)).setCell ⟨b, 1, none⟩ (.int .i64 t.1.2.1)).setCell ⟨b, 2, none⟩ (.bool t.1.2.2)).setCell ⟨b + 1, 0, none⟩ (.int .i64 t.2)) := by
  have h3 := c3_cost.1 (c3_put (b := b) (s := s.1) (fun y hy => h y (List.mem_append_left _ hy)) t.1)
  obtain ⟨h4, h5⟩ := h (b + 1, 0, .int .i64 s.2) (by simp [c4])
  simp only at h4 h5
  intro y hy
  rcases List.mem_append.1 hy with hy | hy
  · exact c3_cost.2 (h3.oth _ (.inl (by omega))) y hy
  · obtain rfl := List.mem_singleton.1 hy
    have hne : b + 1 ≠ b := by omega
    exact ⟨cell_set_same ((cell_set_other (.inl hne)).trans ((cell_set_other (.inl hne)).trans ((cell_set_other (.inl hne)).trans h4))), by simp [h5]⟩
def stepP (f : Int → Cst) (lo : Int) (s : Cst × Int) (i : Nat) : Cst × Int := if befC (f (lo + i)) s.1 then (f (lo + i), lo + (i : Int)) else s
theorem fold_pick2 (f : Int → Cst) (lo : Int) : ∀ N : Nat, (List.range N).foldlM (fun s i => some (stepP f lo s i)) (noneC, 0) = some (pickTo f lo N)
  | 0 => rfl
  | N + 1 => by rw [foldM_succ (fold_pick2 f lo N)]; rfl

/-- The last row, s slips done. -/
def tab0 (made : Int) (L s : Nat) (i r : Nat) : Cst := if i = L ∧ r < s then (0, 0, ((r : Int) != made + 20)) else (0, 0, false)

theorem pick_bd (made mo : Int) : ∀ (d : Nat) (n : Int), 0 ≤ (pickTo (rowF made mo d) (loA n mo) (cntA n mo)).1.1 ∧ (pickTo (rowF made mo d) (loA n mo) (cntA n mo)).1.1 ≤ d ∧ 0 ≤ (pickTo (rowF made mo d) (loA n mo) (cntA n mo)).1.2.1 ∧ (pickTo (rowF made mo d) (loA n mo) (cntA n mo)).1.2.1 ≤ 20 * d
  | 0, n => by
    rcases pickTo_spec (rowF made mo 0) (loA n mo) (cntA n mo) with ⟨h, _⟩ | ⟨i, h, _⟩
    · rw [h]
      show (0 : Int) ≤ 0 ∧ (0 : Int) ≤ ((0 : Nat) : Int) ∧ (0 : Int) ≤ 0 ∧ (0 : Int) ≤ 20 * ((0 : Nat) : Int)
      omega
    · rw [h]
      show (0 : Int) ≤ 0 ∧ (0 : Int) ≤ ((0 : Nat) : Int) ∧ (0 : Int) ≤ 0 ∧ (0 : Int) ≤ 20 * ((0 : Nat) : Int)
      omega
  | d + 1, n => by
    rcases pickTo_spec (rowF made mo (d + 1)) (loA n mo) (cntA n mo) with ⟨h, _⟩ | ⟨i, h, hl⟩
    · rw [h]
      show (0 : Int) ≤ 0 ∧ (0 : Int) ≤ ((d + 1 : Nat) : Int) ∧ (0 : Int) ≤ 0 ∧ (0 : Int) ≤ 20 * ((d + 1 : Nat) : Int)
      omega
    · rw [h]
      obtain ⟨h1, h2, h3, h4⟩ := pick_bd made mo d i
      have hm := hl.mem.1
      simp only [rowF, plusC]
      unfold loA cntA at hm
      split <;> (try simp only) <;> omega
theorem at_ext (g o : Nat) (n : Int) (i : Nat) (w : World) (hi : n + 20 = i) (h2 : i < 41) :
    Calls Try.prog 67 #[.pointer (some ⟨g, o, none⟩), .int .i64 n] w fun e w' => e = .returned (.pointer (some ⟨g, o + i * 3, none⟩)) ∧ Ext w w' :=
  (at_any g o n i w hi h2).mono fun _ _ h => ⟨h.1, h.2 ▸ Ext.refl _⟩
theorem tabD_done {made mo : Int} {L d s i r : Nat} (h : L - d ≤ i) : tabD made mo L d s i r = rowF made mo (L - i) (-20 + r) := if_pos h

set_option maxRecDepth 100000 in
set_option maxHeartbeats 8000000 in
theorem hide_good (A : Option Addr) (k c : Nat) (made : List Int) (L : Nat) (mo : Int) (w : World) (hz : RowI w A k made) (hk1 : 1 ≤ k) (hk2 : k ≤ 60) (hall : allB (-20) 20 made = true) (hL : L ≤ 60) (hm0 : 0 ≤ mo) (hm1 : mo ≤ 20) :
    Calls Try.prog 26 #[.slice A k c, .int .i64 (L : Int), .int .i64 mo] w (HidPost (hideTo (made[0]?.getD 0) mo L (made[k - 1]?.getD 0) (L + 1)) L w) := by
  obtain ⟨ab, ao, rfl, hab, hA0⟩ := hz.at_ 0 (by omega)
  obtain ⟨ab', ao', he, _, hA1⟩ := hz.at_ (k - 1) (by omega)
  simp only [Option.some.injEq, Addr.mk.injEq, and_true] at he
  obtain ⟨rfl, rfl⟩ := he
  have hb0 : -20 ≤ made[0]?.getD 0 ∧ made[0]?.getD 0 ≤ 20 := allB_at hall (by rw [hz.len]; omega)
  have hb1 : -20 ≤ made[k - 1]?.getD 0 ∧ made[k - 1]?.getD 0 ≤ 20 := allB_at hall (by rw [hz.len]; omega)
  have HF := Lib.hid fun (W : World) (x : Ext w W) => from_any (some ⟨ab, ao, none⟩) k c made (-20) 20 W (hz.ext x)
  rw [hall] at HF
  generalize made[0]?.getD 0 = m0 at *
  generalize made[k - 1]?.getD 0 = ml at *
  obtain ⟨hm2, hm3⟩ := hb0
  obtain ⟨hm4, hm5⟩ := hb1
  have HA0 := Lib.hid hA0
  have HA1 := Lib.hid hA1
  clear hz hall hA0 hA1
  have hin1 : inB 0 60 (L : Int) = true := inB_iff.2 ⟨by omega, by omega⟩
  have hin2 : inB 0 20 mo = true := inB_iff.2 ⟨hm0, hm1⟩
  have HG1 := Lib.hid fun (b : Nat) (W : World) (h : W.cell? ⟨b, 0, none⟩ = some (.int .i64 (L : Int))) => hin1 ▸ from_one b (L : Int) 0 60 1 W h
  have HG2 := Lib.hid fun (b : Nat) (W : World) (h : W.cell? ⟨b, 0, none⟩ = some (.int .i64 mo)) => hin2 ▸ from_one b mo 0 20 1 W h
  clear hin1 hin2
  have hmk : ∀ w : World, (Instr.makeSlice 101 (.int .i64 ((L : Int) + 1)) (.int .i64 ((L : Int) + 1))).run Try.prog w = .ok (.slice (some ⟨w.heap.size, 0, none⟩) (L + 1) (L + 1)) (w.alloc (.cells (madeCells zeroCells ((L + 1) * 123)) 105)) := fun w =>
    run_make_slips (L + 1) (by omega) w
  refine (callsIn_wide (n := 6)).1 ?_
  refine callsIn_of_wp_marks Try.func26 rfl trivial ?_ rfl
  simp only [Try.ntmps26, List.size_toArray, List.length_cons, List.length_nil, Nat.reduceAdd, Nat.reduceSub, Array.replicate_succ, Array.replicate_zero, List.push_toArray, List.append_toArray, List.nil_append, List.cons_append]
  have F1 : Fence.wide.fn 61 := trivial
  have F2 : Fence.wide.fn 66 := trivial
  have F3 : Fence.wide.fn 67 := trivial
  have F4 : Fence.wide.fn 68 := trivial
  have F5 : Fence.wide.fn 69 := trivial
  have hkb : ((k : Int) == 0) = false := by simp; omega
  have hkd : decide ((60 : Int) < (k : Int)) = false := by simp; omega
  gi_wp2
  refine (callsIn_wide.2 (HF.out _ (Ext.refl w))).mono ?_
  rintro e W0 ⟨rfl, x0⟩
  have HX0 := Lib.hid x0
  clear x0
  gi_wp2
  refine (callsIn_wide.2 (HG1.out W0.heap.size _ (by go_cell))).mono ?_
  rintro e W1 ⟨rfl, x1⟩
  have HX1 := Lib.hid (show Ext w W1 from (HX0.out.alloc _).trans x1)
  clear x1
  gi_wp2
  refine (callsIn_wide.2 (HG2.out W1.heap.size _ (by go_cell))).mono ?_
  rintro e W1' ⟨rfl, x1⟩
  have HX2 := Lib.hid (show Ext w W1' from (HX1.out.alloc _).trans x1)
  clear x1 HX1 HX0
  gi_wp2
  refine lay_in (fun W => Ext w W ∧ W.heap.size = W1'.heap.size + 2 ∧ TabIs W1'.heap.size (L + 1) (fun _ _ => (0, 0, false)) W ∧ W.cell? ⟨W1'.heap.size + 1, 0, none⟩ = some (.slice (some ⟨W1'.heap.size, 0, none⟩) (L + 1) (L + 1)))
    ⟨(HX2.out.alloc _).alloc _, by simp, (TabIs.made W1' (L + 1) _).ext ((Ext.refl _).alloc _), by go_cell⟩ ?_
  rintro W2 ⟨x2, hs2, htab, c8⟩
  have hgw : w.heap.size ≤ W1'.heap.size := HX2.out.bel.size
  generalize W1'.heap.size = g at *
  have HXW := Lib.hid x2
  have HTAB := Lib.hid htab
  have a0 := x2.cell_some HA0.out
  have a1 := x2.cell_some HA1.out
  have hg2 : g < W2.heap.size := by omega
  have hag : ab < g := by omega
  clear x2 htab HX2 HF HG1 HG2 hmk
  simp only [Nat.add_zero] at a0
  refine wpIn_wide.2 ?_
  go_loopw [48] (fun iv wr => ∃ s : Nat, s ≤ 41 ∧ iv = .int .i64 s ∧ But [g] W2 wr ∧ TabIs g (L + 1) (tab0 m0 L s) wr) (fun iv _ => 41 - (intOf iv).toNat)
  case atStart => exact ⟨0, by omega, rfl, But.refl _ _, HTAB.out.congr fun i r _ _ => by simp [tab0]⟩
  case round =>
    obtain ⟨s, hs, rfl, hbut, htab⟩ := hrel
    have HBU := Lib.hid hbut
    have HTA := Lib.hid htab
    by_cases hlt : s < 41
    · have e8 := hbut.cell c8 (by simp)
      have e0 := hbut.cell a0 (by simp; omega)
      have hc := htab L s (by omega) hlt
      have c2 := hc.c2
      have f2 := hc.f2
      have l8 := cell_lt e8
      have l0 := cell_lt e0
      have lg := cell_lt c2
      have HT2 := Lib.hid (htab.put2 (show L < L + 1 by omega) hlt ((s : Int) != m0 + 20))
      have HT3 := Lib.hid (show ∀ i r, i < L + 1 → r < 41 → updT (tab0 m0 L s) L s ((tab0 m0 L s L s).1, (tab0 m0 L s L s).2.1, ((s : Int) != m0 + 20)) i r = tab0 m0 L (s + 1) i r from fun i r _ _ => by
        unfold updT tab0
        by_cases e : i = L ∧ r = s
        · rw [if_pos e, if_pos (show i = L ∧ r < s + 1 by omega), if_neg (show ¬ (L = L ∧ s < s) by omega), e.2]
        · rw [if_neg e]
          by_cases e2 : i = L ∧ r < s
          · rw [if_pos e2, if_pos ⟨e2.1, by omega⟩]
          · rw [if_neg e2, if_neg (by omega)])
      have hLL : (L : Int) < (L : Int) + 1 := by omega
      have hk0 : 0 < k := hk1
      clear hbut htab hc
      go_wp2_with fail
      refine wp_region_still_tail 12 (by kernel_rfl) (by kernel_rfl) ?_
      simp only [List.take_succ_cons, List.take_zero, List.drop_succ_cons, List.drop_zero]
      repeat (refine wpStill_step (fun K hK => ?_); go_simp; (try go_bits); refine hK _ ?_; clear hK K)
      refine wpStill_nil ?_
      change wpList _ _ _ _ _ wr.drew
      go_wp2_with fail
      go_roundw
      case rel => exact ⟨s + 1, by omega, by go_num, (HBU.out.setCell (p := ⟨g, L * 123 + s * 3 + 2, none⟩) (by simp) _).ext (by (repeat' (first | with_reducible exact Ext.refl _ | with_reducible apply Ext.alloc | with_reducible apply Ext.drew | with_reducible apply Ext.drewN | with_reducible refine Ext.setCell ?_ ?_ _ | with_reducible apply Ext.step | with_reducible assumption | with_reducible exact Nat.le_refl _ | (simp; done) | (simp; omega)))), (TabIs.congr HT2.out HT3.out).ext (by (repeat' (first | with_reducible exact Ext.refl _ | with_reducible apply Ext.alloc | with_reducible apply Ext.drew | with_reducible apply Ext.drewN | with_reducible refine Ext.setCell ?_ ?_ _ | with_reducible apply Ext.step | with_reducible assumption | with_reducible exact Nat.le_refl _ | (simp; done) | (simp; omega))))⟩
      case measure => simp [intOf]; omega
    · obtain rfl : s = 41 := by omega
      have HW := Lib.hid (show HidW W2 g (L + 1) (tabD m0 mo L 0 0) [] wr from ⟨hbut, htab.congr fun i r h1 h2 => by
        unfold tab0 tabD
        by_cases e : i = L
        · subst e
          rw [if_pos ⟨rfl, h2⟩, if_pos (by omega), Nat.sub_self]
          simp only [rowF, Prod.mk.injEq, true_and]
          rw [Bool.eq_iff_iff]
          simp
          omega
        · rw [if_neg (by omega), if_neg (by omega), if_neg (by omega)], List.nodup_nil, fun D hD => by cases hD⟩)
      clear hbut htab HBU HTA HTAB a0 HA0
      go_wp2_with fail
      gi_wp2
      refine lay_in (fun W => HidW W2 g (L + 1) (tabD m0 mo L 0 0) [] W ∧ W2.heap.size ≤ wr.heap.size ∧ W.cell? ⟨wr.heap.size, 0, none⟩ = some (.int .i64 ((L : Int) - 1)) ∧ W.frozen? ⟨wr.heap.size, 0, none⟩ = false) ⟨HW.out.ext (by (repeat' (first | with_reducible exact Ext.refl _ | with_reducible apply Ext.alloc | with_reducible apply Ext.drew | with_reducible apply Ext.drewN | with_reducible refine Ext.setCell ?_ ?_ _ | with_reducible apply Ext.step | with_reducible assumption | with_reducible exact Nat.le_refl _ | (simp; done) | (simp; omega)))), HW.out.but.size, by go_cell, by go_simp⟩ ?_
      rintro W3 ⟨hw3, hb10, c10, f10⟩
      have HW3 := Lib.hid hw3
      clear hw3 HW
      generalize wr.heap.size = b10 at *
      refine wpIn_loop (fun a wr => ∃ (d b10 : Nat) (Ds : List Nat), Hid2 (some ⟨ab, ao, none⟩) k c L mo (g + 1) b10 Ds a ∧ d ≤ L ∧ HidW W2 g (L + 1) (tabD m0 mo L d 0) Ds wr ∧ W2.heap.size ≤ b10 ∧ wr.cell? ⟨b10, 0, none⟩ = some (.int .i64 ((L : Int) - 1 - d)) ∧ wr.frozen? ⟨b10, 0, none⟩ = false)
        meas2
        ⟨0, b10, [], Hid2.mk .., by omega, HW3.out, hb10, by simpa using c10, f10⟩ ?_
      rintro a wr ⟨d, b10, Ds, ⟨u, rfl⟩, hd, hw, hb10, c10, f10⟩
      have HW := Lib.hid hw
      have e8 := hw.but.cell c8 (by simp)
      have l10 := cell_lt c10
      have l8 := cell_lt e8
      clear hw
      by_cases hdl : d < L
      · obtain ⟨i, hi⟩ : ∃ i : Nat, i + 1 + d = L := ⟨L - 1 - d, by omega⟩
        have hii : (L : Int) - 1 - d = i := by omega
        rw [hii] at c10
        clear hii
        have HME := Lib.hid (meas2_at (a := { tmps := #[.slice (some ⟨ab, ao, none⟩) k c, .int .i64 (L : Int), .int .i64 mo, u 3, u 4, u 5, u 6, u 7, .pointer (some ⟨g + 1, 0, none⟩), u 9, .pointer (some ⟨b10, 0, none⟩), u 11, u 12, u 13, u 14, u 15, u 16, u 17, u 18, u 19, u 20, u 21, u 22, u 23, u 24, u 25, u 26, u 27, u 28, u 29, u 30, u 31, u 32, u 33, u 34, u 35, u 36, u 37, u 38, u 39, u 40, u 41, u 42, u 43, u 44, u 45, u 46, u 47, u 48, u 49, u 50, u 51, u 52, u 53, u 54, u 55, u 56, u 57, u 58, u 59, u 60, u 61, u 62, u 63, u 64, u 65, u 66, u 67, u 68, u 69, u 70, u 71, u 72, u 73, u 74, u 75, u 76, u 77, u 78, u 79, u 80, u 81, u 82, u 83, u 84, u 85, u 86, u 87, u 88, u 89, u 90, u 91, u 92, u 93, u 94, u 95, u 96, u 97, u 98, u 99, u 100, u 101, u 102, u 103, u 104, u 105, u 106, u 107, u 108, u 109, u 110, u 111, u 112, u 113, u 114, u 115, u 116, u 117, u 118, u 119, u 120, u 121, u 122, u 123, u 124, u 125, u 126, u 127, u 128, u 129, u 130, u 131, u 132, u 133, u 134, u 135, u 136, u 137, u 138, u 139], defers := marksOf Ds }
          ) (p := ⟨b10, 0, none⟩) (n := (i : Int)) rfl c10)
        have hi0 : (0 : Int) ≤ (i : Int) := by omega
        gi_wp2
        clear l8 e8
        refine wpIn_loop (fun a w4 => ∃ (nn : Int) (s : Nat) (Es : List Nat), nn = -20 + s ∧ Hid4 (some ⟨ab, ao, none⟩) k c L mo (g + 1) b10 nn Es a ∧ s ≤ 41 ∧ HidW W2 g (L + 1) (tabD m0 mo L d s) Es w4 ∧ w4.cell? ⟨b10, 0, none⟩ = some (.int .i64 (i : Int)) ∧ w4.frozen? ⟨b10, 0, none⟩ = false)
          (fun a _ => 41 - (intOf (a.tmps.getD 11 undef) + 20).toNat) ⟨-20, 0, Ds, by omega, Hid4.mk .., by omega, HW.out, c10, f10⟩ ?_
        clear c10 f10 l10 HW
        rintro a wr ⟨nn, s, Es, hnn, ⟨u, rfl⟩, hs, hw, c10, f10⟩
        have HW := Lib.hid hw
        have e8 := hw.but.cell c8 (by simp)
        have l10 := cell_lt c10
        have l8 := cell_lt e8
        clear hw
        by_cases hs41 : s < 41
        · have hn1 : nn ≤ 20 := by omega
          have hn0 : -20 ≤ nn := by omega
          have hns : nn + 20 = s := by omega
          have HNN := Lib.hid hnn
          have HNS := Lib.hid hns
          clear hnn hns
          gi_wp2
          refine (around_in Fence.wide 5 trivial rfl _ _ _).mono ?_
          rintro e _ ⟨rfl, rfl⟩
          gi_wp2
          refine lay_in (fun W => Ext wr W ∧ W.heap.size = wr.heap.size + 3 ∧ AroundAt W [wr.heap.size] (wr.heap.size + 1) (wr.heap.size + 1 + 1) nn mo ∧ CellsAt (c3 wr.heap.size noneC) W)
            ⟨by (repeat' (first | with_reducible exact Ext.refl _ | with_reducible apply Ext.alloc | with_reducible apply Ext.drew | with_reducible apply Ext.drewN | with_reducible refine Ext.setCell ?_ ?_ _ | with_reducible apply Ext.step | with_reducible assumption | with_reducible exact Nat.le_refl _ | (simp; done) | (simp; omega))), by simp, ⟨by go_cell, by go_cell, ⟨hn0, hn1⟩, ⟨hm0, hm1⟩, by simp; omega⟩, by
              intro t ht
              simp only [c3, noneC, List.mem_cons, List.not_mem_nil, or_false] at ht
              rcases ht with rfl | rfl | rfl <;> exact ⟨by go_cell, by go_simp⟩⟩ ?_
          rintro Wf ⟨xf, hsf, har, hc3⟩
          have HXF := Lib.hid xf
          have HC3 := Lib.hid hc3
          have hwsz := HW.out.but.size
          have e8f := xf.cell_some e8
          have c10f := xf.cell_some c10
          have f10f := xf.frozen c10 f10
          have HWF := Lib.hid (HW.out.ext xf)
          clear xf hc3 e8 c10 f10 HW
          generalize hb12 : wr.heap.size = b12 at *
          refine wpIn_range_out (N := cntA nn mo) (fun s => c3 b12 s) (fun s i => some (stepC (rowF m0 mo d) (loA nn mo) s i)) noneC (fun _ => True) [b12] rfl (by decide) (gf := 95) (lb := #[.pointer (some ⟨b12 + 1, 0, none⟩), .pointer (some ⟨b12 + 1 + 1, 0, none⟩)]) rfl trivial (enters_of Try.func95 (by kernel_rfl) rfl)
            (around_seq 5 (by decide) _ _ _ nn mo Wf har) (fun _ => rfl) (fun d hd => by simp at hd; omega) HC3.out (fun _ _ _ _ hs hg hr => trivial) ?Ax ?hAx ?assign ?body ?done ?stop
          case Ax => exact fun x a' W => a' = { tmps := #[.slice (some ⟨ab, ao, none⟩) k c, .int .i64 (L : Int), .int .i64 mo, u 3, u 4, u 5, u 6, u 7, .pointer (some ⟨g + 1, 0, none⟩), u 9, .pointer (some ⟨b10, 0, none⟩), .int .i64 nn, .pointer (some ⟨b12, 0, none⟩), .int .i64 (loA nn mo + (x.val : Int)), u 14, u 15, u 16, u 17, u 18, u 19, u 20, u 21, u 22, u 23, u 24, u 25, u 26, u 27, u 28, u 29, u 30, u 31, u 32, u 33, u 34, u 35, u 36, u 37, u 38, u 39, u 40, u 41, u 42, u 43, u 44, u 45, u 46, u 47, u 48, u 49, u 50, u 51, u 52, u 53, u 54, u 55, u 56, u 57, u 58, u 59, u 60, u 61, u 62, u 63, u 64, u 65, u 66, u 67, u 68, u 69, .int .i64 nn, .bool true, u 72, u 73, .agg #[.int .i64 0, .int .i64 0, .bool true], .int .i64 nn, .int .i64 mo, .func (.func 95) #[] #[.pointer (some ⟨b12 + 1, 0, none⟩), .pointer (some ⟨b12 + 1 + 1, 0, none⟩)], .int .i64 (loA nn mo + (x.val : Int)), u 79, u 80, u 81, u 82, u 83, u 84, u 85, u 86, u 87, u 88, u 89, u 90, u 91, u 92, u 93, u 94, u 95, u 96, u 97, u 98, u 99, u 100, u 101, u 102, u 103, u 104, u 105, u 106, u 107, u 108, u 109, u 110, u 111, u 112, u 113, u 114, u 115, u 116, u 117, u 118, u 119, u 120, u 121, u 122, u 123, u 124, u 125, u 126, u 127, u 128, u 129, u 130, u 131, u 132, u 133, u 134, u 135, u 136, u 137, u 138, u 139], defers := [] }
          case hAx => exact fun x a' _ A B row h hg hr => h
          case stop =>
            intro M W hM hf
            rw [fold_pick] at hf
            cases hf
          case assign =>
            intro l x W K hW hK
            simp only [aroundEnc]
            gi_wp2
            exact hK _ _ (Ext.refl _) rfl
          case body =>
            intro l s2 x a' W hl hf hlr hst hax
            subst hax
            clear hf hlr
            have hx := x.isLt
            have hlo : -20 ≤ loA nn mo := by unfold loA; omega
            have hlc : loA nn mo + (cntA nn mo : Int) ≤ 21 := by unfold loA cntA; omega
            obtain ⟨r, hr⟩ : ∃ r : Nat, loA nn mo + (x.val : Int) + 20 = r := ⟨(loA nn mo + (x.val : Int) + 20).toNat, by omega⟩
            have hr2 : r < 41 := by omega
            have hrow := (HWF.out.tab (i + 1) r (by omega) hr2).but hst.but (by simp; omega)
            rw [tabD_done (show L - d ≤ i + 1 by omega), show L - (i + 1) = d by omega, show -20 + (r : Int) = loA nn mo + (x.val : Int) by omega] at hrow
            have HSTEP := Lib.hid (show stepC (rowF m0 mo d) (loA nn mo) s2 x.val = if befC (rowF m0 mo d (loA nn mo + (x.val : Int))) s2 then rowF m0 mo d (loA nn mo + (x.val : Int)) else s2 from rfl)
            dsimp only
            generalize stepC (rowF m0 mo d) (loA nn mo) s2 x.val = st at *
            generalize loA nn mo + (x.val : Int) = q at *
            generalize rowF m0 mo d q = fq at *
            have HBE := Lib.hid fun W : World => before_any fq s2 W
            have e8 := hst.but.cell e8f (by simp; omega)
            have c10 := hst.but.cell c10f (by simp; omega)
            obtain ⟨s0, g0⟩ := hst.cells (b12, 0, .int .i64 s2.1) (by simp [c3])
            obtain ⟨s1, g1⟩ := hst.cells (b12, 1, .int .i64 s2.2.1) (by simp [c3])
            obtain ⟨s3, g3⟩ := hst.cells (b12, 2, .bool s2.2.2) (by simp [c3])
            obtain ⟨r0, r1, r2, _, _, _⟩ := hrow
            obtain ⟨fc, fs, fn⟩ := fq
            obtain ⟨sc, ss, sn⟩ := s2
            simp only at s0 s1 s3 g0 g1 g3 r0 r1 r2
            have l8 := cell_lt e8
            have l10 := cell_lt c10
            have l12 := cell_lt s0
            have lg := cell_lt r0
            have HR := Lib.hid fun W : World => at_any g ((i + 1) * 123) q r W hr hr2
            have HST := Lib.hid hst
            clear hst hx hlo hlc hr har
            gi_wp2
            refine (CallsIn.inRound l (callsIn_wide.2 (HR.out _))).mono ?_
            rintro e _ ⟨rfl, rfl⟩
            cases hb : befC (fc, fs, fn) (sc, ss, sn)
            · rw [hb] at HBE HSTEP
              clear hb
              gi_wp2
              refine (CallsIn.inRound l (callsIn_wide.2 (HBE.out _))).mono ?_
              rintro e W4 ⟨rfl, x4⟩
              have HX4 := Lib.hid (show Ext W W4 from ((Ext.refl W).alloc _).trans x4)
              clear x4
              gi_wp2
              exact ⟨(sc, ss, sn), by simp [HSTEP.out], HX4.out.but, (HST.out.ext HX4.out).cells⟩
            · rw [hb] at HBE HSTEP
              clear hb
              gi_wp2
              refine (CallsIn.inRound l (callsIn_wide.2 (HBE.out _))).mono ?_
              rintro e W4 ⟨rfl, x4⟩
              have HX4 := Lib.hid (show Ext W W4 from ((Ext.refl W).alloc _).trans x4)
              have k0 : W4.cell? ⟨W.heap.size, 0, none⟩ = some (.int .i64 fc) := x4.cell_some (by go_cell)
              have k1 : W4.cell? ⟨W.heap.size, 1, none⟩ = some (.int .i64 fs) := x4.cell_some (by go_cell)
              have k2 : W4.cell? ⟨W.heap.size, 2, none⟩ = some (.bool fn) := x4.cell_some (by go_cell)
              replace g0 := HX4.out.frozen s0 g0
              replace g1 := HX4.out.frozen s1 g1
              replace g3 := HX4.out.frozen s3 g3
              replace s0 := HX4.out.cell_some s0
              replace s1 := HX4.out.cell_some s1
              replace s3 := HX4.out.cell_some s3
              have lk := cell_lt k0
              have l12' := cell_lt s0
              clear x4 e8 c10 r0 r1 r2 l8 l10 l12 lg
              gi_wp2
              exact ⟨(fc, fs, fn), by simp [HSTEP.out], ((HX4.out.but.setCell (p := ⟨b12, 0, none⟩) (by simp) _).setCell (p := ⟨b12, 1, none⟩) (by simp) _).setCell (p := ⟨b12, 2, none⟩) (by simp) _, c3_put (HST.out.ext HX4.out).cells (fc, fs, fn)⟩
          case done =>
            intro M s' W hM hf hst hmark
            rw [fold_pick] at hf
            have hs' := Option.some.inj hf
            have HWM := Lib.hid (HWF.out.over hst.but hwsz hg2 ⟨0, _, (HC3.out (b12, 0, .int .i64 noneC.1) (by simp [c3])).1⟩ hM hmark)
            obtain ⟨p1, p2, p3, p4⟩ := pick_bd m0 mo d nn
            rw [hs'] at p1 p2 p3 p4
            have hrow := HWM.out.tab i s (by omega) hs41
            have HTP := Lib.hid (show ∀ j r, j < L + 1 → r < 41 → updT (tabD m0 mo L d s) i s (plusC s' nn) j r = tabD m0 mo L d (s + 1) j r from fun j r _ _ => by
              unfold updT
              by_cases e : j = i ∧ r = s
              · rw [if_pos e]
                unfold tabD
                rw [if_neg (by omega), if_pos (by omega), e.2]
                show plusC s' nn = plusC (pickTo (rowF m0 mo d) (loA (-20 + (s : Int)) mo) (cntA (-20 + (s : Int)) mo)).1 (-20 + (s : Int))
                rw [← HNN.out, hs']
              · rw [if_neg e]
                unfold tabD
                by_cases e1 : L - d ≤ j
                · rw [if_pos e1, if_pos e1]
                · rw [if_neg e1, if_neg e1]
                  by_cases e2 : j + 1 + d = L ∧ r < s
                  · rw [if_pos e2, if_pos (by omega)]
                  · rw [if_neg e2, if_neg (by omega)])
            have HPL := Lib.hid fun W : World => plus_any s' nn W ⟨p1, by omega⟩ ⟨p3, by omega⟩ ⟨hn0, hn1⟩
            have hiL : (i : Int) < (L : Int) + 1 := by omega
            have HR := Lib.hid fun W : World => at_ext g (i * 123) nn s W HNS.out hs41
            obtain ⟨s0, -⟩ := hst.cells (b12, 0, .int .i64 s'.1) (by simp [c3])
            obtain ⟨s1, -⟩ := hst.cells (b12, 1, .int .i64 s'.2.1) (by simp [c3])
            obtain ⟨s3, -⟩ := hst.cells (b12, 2, .bool s'.2.2) (by simp [c3])
            have e8 := hst.but.cell e8f (by simp; omega)
            have c10 := hst.but.cell c10f (by simp; omega)
            have f10 := hst.but.frozen c10f f10f (by simp; omega)
            generalize plusC s' nn = pn at *
            obtain ⟨pc, ps, pb⟩ := pn
            obtain ⟨sc, ss, sn⟩ := s'
            simp only at s0 s1 s3
            have hmarks : ({ target := .collected M, args := #[] } : Deferred) :: marksOf Es = marksOf (M :: Es) := rfl
            rw [hmarks]
            clear hf hst hmark p1 p2 p3 p4 hs' har hmarks hrow
            have q0 := But.cells (D := []) s0 (by simp)
            have q1 := But.cells (D := []) s1 (by simp)
            have q2 := But.cells (D := []) s3 (by simp)
            have q3 := But.cells (D := []) e8 (by simp)
            have q4 := But.cells (D := []) c10 (by simp)
            gi_wp2
            refine wpIn_region_steps [] 9 [(0, true), (1, true), (2, true), (3, true), (4, true), (5, true), (6, true), (7, true), (8, true)] (by kernel_rfl) (by kernel_rfl) ?_
            iterate 4 (refine wpSD_q (by rfl) (fun _ _ _ => trivial) (fun K hK => ?_); go_simp; refine hK _ ?_; clear hK K)
            refine wpSD_q (by rfl) (fun _ _ _ => trivial) (fun K hK => ?_)
            go_simp
            refine ⟨_, fun δ => callsIn_wide.2 (HR.out δ.wd), hK _ ?_⟩
            clear hK K
            iterate 2 (refine wpSD_q (by rfl) (fun _ _ _ => trivial) (fun K hK => ?_); go_simp; refine hK _ ?_; clear hK K)
            refine wpSD_q (by rfl) (fun _ _ _ => trivial) (fun K hK => ?_)
            go_simp
            refine ⟨_, fun δ => callsIn_wide.2 (HPL.out δ.wd), hK _ ?_⟩
            clear hK K
            refine wpSD_q (by rfl) (fun _ _ _ => trivial) (fun K hK => ?_)
            go_simp
            refine hK _ ?_
            clear hK K
            refine wpSD_nil ?_
            intro W5 x5
            have HW5 := Lib.hid (HWM.out.ext x5)
            replace f10 := x5.frozen c10 f10
            replace c10 := x5.cell_some c10
            obtain ⟨r0, r1, r2, t0, t1, t2⟩ := HW5.out.tab i s (by omega) hs41
            have lg := cell_lt r0
            have l10 := cell_lt c10
            clear q0 q1 q2 q3 q4 s0 s1 s3 e8 x5 e8f c10f f10f
            simp only [List.drop_succ_cons, List.drop_zero]
            gi_wp2
            have hbg : b10 ≠ g := by omega
            refine ⟨⟨nn + 1, s + 1, M :: Es, by have := HNN.out; omega, Hid4.mk .., by omega, (HW5.out.put3 (by omega) hs41 (pc, ps, pb) hg2).congr HTP.out, ?_, ?_⟩, ?_⟩
            · exact (cell_set_other (.inl hbg)).trans ((cell_set_other (.inl hbg)).trans ((cell_set_other (.inl hbg)).trans c10))
            · simp [f10]
            · have := HNS.out
              show 41 - (intOf (.int .i64 (nn + 1)) + 20).toNat < 41 - (intOf (.int .i64 nn) + 20).toNat
              simp only [intOf]
              omega
        · obtain rfl : s = 41 := by omega
          obtain rfl : nn = 21 := by omega
          have HW2' := Lib.hid (show HidW W2 g (L + 1) (tabD m0 mo L (d + 1) 0) Es wr from HW.out.congr fun j r _ hr => by
            unfold tabD
            by_cases e1 : L - d ≤ j
            · rw [if_pos e1, if_pos (by omega)]
            · rw [if_neg e1]
              by_cases e2 : j + 1 + d = L
              · rw [if_pos ⟨e2, hr⟩, if_pos (by omega), show L - j = d + 1 by omega]
              · rw [if_neg (by omega), if_neg (by omega), if_neg (by omega)])
          have hsz := HW.out.but.size
          have hmk2 : (L : Int) - 1 - ((d : Int) + 1) = (i : Int) - 1 := by omega
          clear HW e8 l8 hs hs41 hnn f10
          gi_wp2
          refine ⟨⟨d + 1, wr.heap.size, Es, Hid2.mk .., by omega, HW2'.out.ext (by (repeat' (first | with_reducible exact Ext.refl _ | with_reducible apply Ext.alloc | with_reducible apply Ext.drew | with_reducible apply Ext.drewN | with_reducible refine Ext.setCell ?_ ?_ _ | with_reducible apply Ext.step | with_reducible assumption | with_reducible exact Nat.le_refl _ | (simp; done) | (simp; omega)))), hsz, ?_, ?_⟩, ?_⟩
          · rw [show ((d + 1 : Nat) : Int) = (d : Int) + 1 by omega, hmk2]
            go_cell
          · go_simp
          · rw [meas2_at (p := ⟨wr.heap.size, 0, none⟩) (n := (i : Int) - 1) rfl (by go_cell), HME.out]
            omega
      · obtain rfl : d = L := by omega
        have hneg : ¬ (0 : Int) ≤ (d : Int) - 1 - (d : Int) := by omega
        have HT := Lib.hid (show ∀ i r, i < d + 1 → tabD m0 mo d d 0 i r = rowF m0 mo (d - i) (-20 + r) from fun i r _ => tabD_done (by omega))
        have am := HW.out.but.cell a1 (by simp; omega)
        have lam := cell_lt am
        gi_wp2
        clear e8 l8 f10 c10 l10 hneg am lam
        refine wpIn_loop (fun a w8 => ∃ (i : Nat) (ov : Value) (la : Int) (xs : List Int) (Es : List Nat), Hid8 (some ⟨ab, ao, none⟩) k c d mo (g + 1) ov la i Es a ∧ i ≤ d + 1 ∧ hideTo m0 mo d ml i = some (xs, la) ∧ (-20 ≤ la ∧ la ≤ 20) ∧ xs.length = i ∧ intK.Own W2.heap.size w8 ov xs ∧ HidW W2 g (d + 1) (tabD m0 mo d d 0) Es w8)
          (fun a _ => d + 1 - (intOf (a.tmps.getD 109 undef)).toNat) ⟨0, .slice none 0 0, ml, [], Ds, Hid8.mk .., by omega, rfl, ⟨hm4, hm5⟩, rfl, EK.Own.nil _ _, HW.out⟩ ?_
        clear HW
        rintro a wr ⟨i, ov, la, xs, Es, ⟨u, rfl⟩, hi, hto, ⟨hl0, hl1⟩, hxl, hown, hw⟩
        have HW := Lib.hid hw
        have HO := Lib.hid hown
        have HTO := Lib.hid hto
        have HXL := Lib.hid hxl
        have e8 := hw.but.cell c8 (by simp)
        have l8 := cell_lt e8
        clear hw hto hxl
        by_cases hid : i < d + 1
        · have hlt8 : (i : Int) < (d : Int) + 1 := by omega
          gi_wp2
          refine (around_in Fence.wide 5 trivial rfl _ _ _).mono ?_
          rintro e _ ⟨rfl, rfl⟩
          gi_wp2
          refine lay_in (fun W => Ext wr W ∧ W.heap.size = wr.heap.size + 5 ∧ AroundAt W [wr.heap.size + 1, wr.heap.size + 1 + 1] (wr.heap.size + 1 + 1 + 1) (wr.heap.size + 1 + 1 + 1 + 1) la mo ∧ CellsAt (c4 (wr.heap.size + 1) (noneC, 0)) W ∧ W.cell? ⟨wr.heap.size, 0, none⟩ = some (.int .i64 (i : Int)))
            ⟨by (repeat' (first | with_reducible exact Ext.refl _ | with_reducible apply Ext.alloc | with_reducible apply Ext.drew | with_reducible apply Ext.drewN | with_reducible refine Ext.setCell ?_ ?_ _ | with_reducible apply Ext.step | with_reducible assumption | with_reducible exact Nat.le_refl _ | (simp; done) | (simp; omega))), by simp, ⟨by go_cell, by go_cell, ⟨hl0, hl1⟩, ⟨hm0, hm1⟩, by simp; omega⟩, by
              intro t ht
              simp only [c4, c3, noneC, List.cons_append, List.nil_append, List.mem_cons, List.not_mem_nil, or_false] at ht
              rcases ht with rfl | rfl | rfl | rfl <;> exact ⟨by go_cell, by go_simp⟩, by go_cell⟩ ?_
          rintro Wf ⟨xf, hsf, har, hc4, c17⟩
          have HXF := Lib.hid xf
          have HC4 := Lib.hid hc4
          have hwsz := HW.out.but.size
          have e8f := xf.cell_some e8
          have HWF := Lib.hid (HW.out.ext xf)
          have HOF := Lib.hid (hown.ext xf)
          have HOL := Lib.hid hown.lt
          clear xf hc4 e8 HW HO hown
          generalize hB : wr.heap.size = B at *
          refine wpIn_range_out (N := cntA la mo) (fun s => c4 (B + 1) s) (fun s j => some (stepP (rowF m0 mo (d - i)) (loA la mo) s j)) (noneC, 0) (fun _ => True) [B + 1, B + 1 + 1] rfl (by decide) (gf := 95) (lb := #[.pointer (some ⟨B + 1 + 1 + 1, 0, none⟩), .pointer (some ⟨B + 1 + 1 + 1 + 1, 0, none⟩)]) rfl trivial (enters_of Try.func95 (by kernel_rfl) rfl)
            (around_seq 5 (by decide) _ _ _ la mo Wf har) (fun _ => rfl) (fun d hd => by simp at hd; omega) HC4.out (fun _ _ _ _ hs hg hr => trivial) ?Ax ?hAx ?assign ?body ?done ?stop
          case Ax => exact fun x a' W => a' = { tmps := #[.slice (some ⟨ab, ao, none⟩) k c, .int .i64 (d : Int), .int .i64 mo, u 3, u 4, u 5, u 6, u 7, .pointer (some ⟨g + 1, 0, none⟩), u 9, u 10, u 11, u 12, u 13, u 14, ov, .int .i64 la, .pointer (some ⟨B, 0, none⟩), .pointer (some ⟨B + 1, 0, none⟩), .pointer (some ⟨B + 1 + 1, 0, none⟩), .int .i64 (loA la mo + (x.val : Int)), u 21, u 22, u 23, u 24, u 25, u 26, u 27, u 28, u 29, u 30, u 31, u 32, u 33, u 34, u 35, u 36, u 37, u 38, u 39, u 40, u 41, u 42, u 43, u 44, u 45, u 46, u 47, u 48, u 49, u 50, u 51, u 52, u 53, u 54, u 55, u 56, u 57, u 58, u 59, u 60, u 61, u 62, u 63, u 64, u 65, u 66, u 67, u 68, u 69, u 70, u 71, u 72, u 73, u 74, u 75, u 76, u 77, u 78, u 79, u 80, u 81, u 82, u 83, u 84, u 85, u 86, u 87, u 88, u 89, u 90, u 91, u 92, u 93, u 94, u 95, u 96, u 97, u 98, u 99, u 100, u 101, u 102, u 103, u 104, u 105, u 106, u 107, .int .i64 ((d : Int) + 1), .int .i64 (i : Int), .bool true, .int .i64 (i : Int), .agg #[.int .i64 0, .int .i64 0, .bool true], .int .i64 la, .int .i64 mo, .func (.func 95) #[] #[.pointer (some ⟨B + 1 + 1 + 1, 0, none⟩), .pointer (some ⟨B + 1 + 1 + 1 + 1, 0, none⟩)], .int .i64 (loA la mo + (x.val : Int)), u 117, u 118, u 119, u 120, u 121, u 122, u 123, u 124, u 125, u 126, u 127, u 128, u 129, u 130, u 131, u 132, u 133, u 134, u 135, u 136, u 137, u 138, u 139], defers := [] }
          case hAx => exact fun x a' _ A B row h hg hr => h
          case stop =>
            intro M W hM hf
            rw [fold_pick2] at hf
            cases hf
          case assign =>
            intro l x W K hW hK
            simp only [aroundEnc]
            gi_wp2
            exact hK _ _ (Ext.refl _) rfl
          case body =>
            intro l s2 x a' W hl hf hlr hst hax
            subst hax
            clear hf hlr
            have hx := x.isLt
            have hlo : -20 ≤ loA la mo := by unfold loA; omega
            have hlc : loA la mo + (cntA la mo : Int) ≤ 21 := by unfold loA cntA; omega
            obtain ⟨r, hr⟩ : ∃ r : Nat, loA la mo + (x.val : Int) + 20 = r := ⟨(loA la mo + (x.val : Int) + 20).toNat, by omega⟩
            have hr2 : r < 41 := by omega
            have hrow := (HWF.out.tab i r hid hr2).but hst.but (by simp; omega)
            rw [HT.out i r hid, show -20 + (r : Int) = loA la mo + (x.val : Int) by omega] at hrow
            have HSTEP := Lib.hid (show stepP (rowF m0 mo (d - i)) (loA la mo) s2 x.val = if befC (rowF m0 mo (d - i) (loA la mo + (x.val : Int))) s2.1 then (rowF m0 mo (d - i) (loA la mo + (x.val : Int)), loA la mo + (x.val : Int)) else s2 from rfl)
            dsimp only
            generalize stepP (rowF m0 mo (d - i)) (loA la mo) s2 x.val = st at *
            generalize loA la mo + (x.val : Int) = q at *
            generalize rowF m0 mo (d - i) q = fq at *
            have HBE := Lib.hid fun W : World => before_any fq s2.1 W
            have e8 := hst.but.cell e8f (by simp; omega)
            have c17' := hst.but.cell c17 (by simp <;> omega)
            obtain ⟨s0, g0⟩ := hst.cells (B + 1, 0, .int .i64 s2.1.1) (by simp [c4, c3])
            obtain ⟨s1, g1⟩ := hst.cells (B + 1, 1, .int .i64 s2.1.2.1) (by simp [c4, c3])
            obtain ⟨s3, g3⟩ := hst.cells (B + 1, 2, .bool s2.1.2.2) (by simp [c4, c3])
            obtain ⟨s4, g4⟩ := hst.cells (B + 1 + 1, 0, .int .i64 s2.2) (by simp [c4, c3])
            obtain ⟨r0, r1, r2, _, _, _⟩ := hrow
            obtain ⟨fc, fs, fn⟩ := fq
            obtain ⟨⟨sc, ss, sn⟩, sa⟩ := s2
            simp only at s0 s1 s3 s4 g0 g1 g3 g4 r0 r1 r2
            have l8 := cell_lt e8
            have l17 := cell_lt c17'
            have l18 := cell_lt s0
            have l19 := cell_lt s4
            have lg := cell_lt r0
            have HR := Lib.hid fun W : World => at_any g (i * 123) q r W hr hr2
            have HST := Lib.hid hst
            clear hst hx hlo hlc hr har hB
            gi_wp2
            refine (CallsIn.inRound l (callsIn_wide.2 (HR.out _))).mono ?_
            rintro e _ ⟨rfl, rfl⟩
            cases hb : befC (fc, fs, fn) (sc, ss, sn)
            · simp only [hb] at HBE HSTEP
              clear hb
              gi_wp2
              refine (CallsIn.inRound l (callsIn_wide.2 (HBE.out _))).mono ?_
              rintro e W4 ⟨rfl, x4⟩
              have HX4 := Lib.hid (show Ext W W4 from ((Ext.refl W).alloc _).trans x4)
              clear x4
              gi_wp2
              exact ⟨((sc, ss, sn), sa), by simp [HSTEP.out], HX4.out.but, (HST.out.ext HX4.out).cells⟩
            · simp only [hb] at HBE HSTEP
              clear hb
              gi_wp2
              refine (CallsIn.inRound l (callsIn_wide.2 (HBE.out _))).mono ?_
              rintro e W4 ⟨rfl, x4⟩
              have HX4 := Lib.hid (show Ext W W4 from ((Ext.refl W).alloc _).trans x4)
              have k0 : W4.cell? ⟨W.heap.size, 0, none⟩ = some (.int .i64 fc) := x4.cell_some (by go_cell)
              have k1 : W4.cell? ⟨W.heap.size, 1, none⟩ = some (.int .i64 fs) := x4.cell_some (by go_cell)
              have k2 : W4.cell? ⟨W.heap.size, 2, none⟩ = some (.bool fn) := x4.cell_some (by go_cell)
              replace g0 := HX4.out.frozen s0 g0
              replace g1 := HX4.out.frozen s1 g1
              replace g3 := HX4.out.frozen s3 g3
              replace g4 := HX4.out.frozen s4 g4
              replace s0 := HX4.out.cell_some s0
              replace s1 := HX4.out.cell_some s1
              replace s3 := HX4.out.cell_some s3
              replace s4 := HX4.out.cell_some s4
              have lk := cell_lt k0
              have l18' := cell_lt s0
              have l19' := cell_lt s4
              clear x4 e8 c17' r0 r1 r2 l8 l17 l18 l19 lg
              gi_wp2
              exact ⟨((fc, fs, fn), q), by simp [HSTEP.out], (((HX4.out.but.setCell (p := ⟨B + 1, 0, none⟩) (by simp) _).setCell (p := ⟨B + 1, 1, none⟩) (by simp) _).setCell (p := ⟨B + 1, 2, none⟩) (by simp) _).setCell (p := ⟨B + 1 + 1, 0, none⟩) (by simp) _, c4_put (HST.out.ext HX4.out).cells ((fc, fs, fn), q)⟩
          case done =>
            intro M s' W hM hf hst hmark
            rw [fold_pick2] at hf
            have hs' := Option.some.inj hf
            have HWM := Lib.hid ((HWF.out.turn hst.but (fun e he => by
              simp only [List.mem_cons, List.not_mem_nil, or_false] at he
              rcases he with rfl | rfl
              · exact ⟨by omega, cells_of (HC4.out (B + 1, 0, .int .i64 noneC.1) (by simp [c4, c3])).1⟩
              · exact ⟨by omega, cells_of (HC4.out (B + 1 + 1, 0, .int .i64 0) (by simp [c4, c3])).1⟩) hg2).mark (fun D hD => Nat.lt_of_lt_of_le (Array.getElem?_eq_some_iff.1 (HWF.out.mks D hD).2).1 hM) (Nat.le_trans HWF.out.but.size hM) hmark)
            have HOW := Lib.hid (HOF.out.but' hst.but (fun gg e => by
              have := (HOL.out gg e).2
              simp
              omega))
            have HTN := Lib.hid (show hideTo m0 mo d ml (i + 1) = if (pickTo (rowF m0 mo (d - i)) (loA la mo) (cntA la mo)).1.2.2 then none else some (xs ++ [(pickTo (rowF m0 mo (d - i)) (loA la mo) (cntA la mo)).2], (pickTo (rowF m0 mo (d - i)) (loA la mo) (cntA la mo)).2) by
              simp only [hideTo, HTO.out, Option.bind_some])
            have hpk : s'.1.2.2 = false → -20 ≤ s'.2 ∧ s'.2 ≤ 20 := fun h => by
              rcases pickTo_spec (rowF m0 mo (d - i)) (loA la mo) (cntA la mo) with ⟨h1, _⟩ | ⟨j, h1, h2⟩
              · rw [h1] at hs'
                subst hs'
                cases h
              · rw [h1] at hs'
                subst hs'
                have := h2.mem.1
                unfold loA cntA at this
                simp only
                omega
            rw [hs'] at HTN
            have e8 := hst.but.cell e8f (by simp; omega)
            obtain ⟨s3, -⟩ := hst.cells (B + 1, 2, .bool s'.1.2.2) (by simp [c4, c3])
            obtain ⟨s4, -⟩ := hst.cells (B + 1 + 1, 0, .int .i64 s'.2) (by simp [c4, c3])
            have hmarks : ({ target := .collected M, args := #[] } : Deferred) :: marksOf Es = marksOf (M :: Es) := rfl
            dsimp only
            rw [hmarks]
            obtain ⟨⟨sc, ss, sn⟩, sa⟩ := s'
            simp only at s3 s4 hpk
            have l18 := cell_lt s3
            have l19 := cell_lt s4
            clear hf hst hmark hs' har hmarks
            cases sn
            · obtain ⟨hsa0, hsa1⟩ := hpk rfl
              have HTY := Lib.hid (show hideTo m0 mo d ml (i + 1) = some (xs ++ [sa], sa) from HTN.out)
              have HZ := Lib.hid (show xs.length ≤ 1000000000 by rw [HXL.out]; omega)
              have q0 := But.cells (D := ov.ownBlock.toList) s4 (notin_own (fun gg e => by have := (HOL.out gg e).2; omega))
              gi_wp2
              refine wpIn_region_steps ov.ownBlock.toList 6 [(0, true), (1, true), (4, true), (2, false), (3, false), (5, true)] (by kernel_rfl) (by kernel_rfl) ?_
              iterate 3 (refine wpSD_q (by rfl) (fun _ _ _ => trivial) (fun K hK => ?_); go_simp; refine hK _ ?_; clear hK K)
              refine wpSD_m (by rfl) (fun _ _ _ => trivial) (fun δ K hK => ?_)
              go_simp
              refine ⟨((Ext.refl _).alloc _).but, hK _ _ ?_⟩
              clear hK K
              have Xd : Ext W δ.wd := ⟨δ, rfl⟩
              refine EK.app_s (K := intK) (B := W2.heap.size) (v := ov) (by rfl) rfl (.tmp 131) (.tmp 133) rfl δ.wd.heap.size 1 sa rfl rfl (fun i u hu => cell_new hu) (HOW.out.ext (Xd.alloc _)) (Nat.le_trans HWM.out.but.size (Xd.alloc _).bel.size) HZ.out ?_
              intro v' w3 w4 o3 x3 g3
              refine wpSD_q (by rfl) (fun _ _ _ => trivial) (fun K hK => ?_)
              go_simp
              refine hK _ ?_
              clear hK K
              refine wpSD_nil ?_
              intro W5 x5
              have HW5 := Lib.hid (((HWM.out.ext ((Xd.alloc _).trans x3)).turn ((But.refl ov.ownBlock.toList w3).grown g3 (fun r e => .inl (by rw [e]; simp))) (fun e he => own_block ((HOW.out.ext ((Xd.alloc _).trans x3))) he) hg2).ext x5)
              have HO5 := Lib.hid (o3.ext x5)
              clear q0 s3 s4 e8 x5 x3 g3 o3 Xd l18 l19
              simp only [List.drop_succ_cons, List.drop_zero]
              gi_wp2
              refine ⟨⟨i + 1, v', sa, xs ++ [sa], M :: Es, Hid8.mk .., by omega, HTY.out, ⟨hsa0, hsa1⟩, by simp [HXL.out], HO5.out, HW5.out⟩, ?_⟩
              show d + 1 - (intOf (.int .i64 ((i : Int) + 1))).toNat < d + 1 - (intOf (.int .i64 (i : Int))).toNat
              simp only [intOf]
              omega
            · have HTY := Lib.hid (hide_stop (show hideTo m0 mo d ml (i + 1) = none from HTN.out) (show i + 1 ≤ d + 1 by omega))
              gi_wp2
              refine leaves_marks (M :: Es) _ HWM.out.nd (fun D hD => (HWM.out.mks D hD).2) (fun W' hW => ?_)
              exact ⟨.tuple #[.slice none 0 0, .int .i64 6], by simp [results, Try.results26, go_sem], _, 6, [], rfl, (OwnI.nil 0 _).isI, hW.ext (HWM.out.but.below HXW.out (by simp; omega)) (fun D hD => Nat.le_trans HXW.out.bel.size (HWM.out.mks D hD).1), .inl ⟨HTY.out, rfl, rfl⟩⟩
        · obtain rfl : i = d + 1 := by omega
          obtain ⟨gv, cv, hov⟩ : ∃ gv cv, ov = .slice (some ⟨gv, 0, none⟩) (d + 1) cv := by
            rcases hown.2 with ⟨_, h0⟩ | ⟨g, cap, _, hv, _⟩
            · have := HXL.out; omega
            · exact ⟨g, cap, by rw [hv, HXL.out]⟩
          subst hov
          have HI := Lib.hid (intK_own.1 hown).isI
          obtain ⟨hcv1, hcv2⟩ := HI.out.caps
          have hcv3 : d ≤ cv := by omega
          clear hown hi hid
          gi_wp2
          refine leaves_marks Es _ HW.out.nd (fun D hD => (HW.out.mks D hD).2) (fun W' hW => ?_)
          exact ⟨.tuple #[.slice (some ⟨gv, 0, none⟩) d cv, .int .i64 0], by simp [results, Try.results26, go_sem], _, 0, xs.take d, rfl, (isI_take HI.out (by rw [HXL.out]; omega) hcv3).put hW (fun D hD => (HW.out.mks D hD).2), hW.ext (HW.out.but.below HXW.out (by simp; omega)) (fun D hD => Nat.le_trans HXW.out.bel.size (HW.out.mks D hD).1), .inr ⟨xs, la, HTO.out, rfl, rfl⟩⟩
end Go.Proofs.Ytgeapenglcohfaa
