/- bobstayref17.Read: its loop's body taken out, and the loop's invariant. Printed by wip/genrd.py. bobstayref17.Read: a round over a word. Printed by wip/genrd.py. bobstayref17.Read: a round over a separator. Printed by wip/genrd.py. bobstayref17.Read: the round at the end. Printed by wip/genrd.py. -/
import Derived.Test.YtmagggflamdahaaGreatDoorSr
namespace Go.Proofs.YtmagggflamdahaaGreatDoor
open Go.RowKit

def RdQ (n : Nat) (w : World) (e : Ending) (w' : World) : Prop := ∃ v, e = .returned (.tuple #[v, .int .i64 n]) ∧ Below w.heap.size w w'
def firstLoop : Code → Option Code
  | .loop c => some c
  | .seq a b => match firstLoop a with
    | some c => some c
    | none => firstLoop b
  | .block _ c => firstLoop c
  | .scope c => firstLoop c
  | .cond _ a b => match firstLoop a with
    | some c => some c
    | none => firstLoop b
  | _ => none
noncomputable def rdBody : Code := ((Tryz.f8.body.bind firstLoop).getD .skip)
/-- what is known of a line that is being read -/
structure RdC (s : ByteArray) (L : List (List UInt8)) (w2 : World) (b0 : Nat) (aL aF : Option Addr) (cL cF : Nat) : Prop where
  toks : toksS s.data.toList = some L
  big : s.size ≤ 65536
  base : b0 = w2.heap.size
  len : L.length ≤ 65536
  rows : ∀ i t, L[i]? = some t → ∃ gL cL' gF cF', Value.slice aL L.length cL = .slice (some ⟨gL, 0, none⟩) L.length cL' ∧ Value.slice aF L.length cF = .slice (some ⟨gF, 0, none⟩) L.length cF' ∧ gL < w2.heap.size ∧ gF < w2.heap.size ∧ w2.cell? ⟨gL, i, none⟩ = some (.string ⟨t.toArray⟩) ∧ w2.cell? ⟨gF, i, none⟩ = some (.bool (flagT t))
  ops : ∀ t ∈ L, t ≠ [] ∧ (flagT t = true → t ∈ opList)
def RdRel (L : List (List UInt8)) (b0 : Nat) (w2 : World) (v8 v9 v11 v12 : Value) (wr : World) : Prop := ∃ (i : Nat) (form sm : Bool) (vo : Value) (op : List UInt8), v8 = .bool form ∧ vo = v9 ∧ v11 = .bool sm ∧ v12 = .int .i64 i ∧ i ≤ L.length + 1 ∧ Hid (RdB b0 w2 op vo i wr) ∧ Hid (RdE L i form sm op)
set_option maxRecDepth 1000000 in
def RdPost (L : List (List UInt8)) (b0 : Nat) (w2 : World) (n0 : Nat) (c0 c1 c4 c5 c6 c7 c10 c18 c19 c20 c21 c22 c23 c24 c25 c26 c27 c28 c29 c30 c31 c32 c33 c188 c189 : Value) (a' : Act) (w' : World) : Prop :=
  (∃ u2 u3 u8 u9 u11 u12 u13 u14 u15 u16 u17 u34 u35 u36 u37 u38 u39 u40 u41 u42 u43 u44 u45 u46 u47 u48 u49 u50 u51 u52 u53 u54 u55 u56 u57 u58 u59 u60 u61 u62 u63 u64 u65 u66 u67 u68 u69 u70 u71 u72 u73 u74 u75 u76 u77 u78 u79 u80 u81 u82 u83 u84 u85 u86 u87 u88 u89 u90 u91 u92 u93 u94 u95 u96 u97 u98 u99 u100 u101 u102 u103 u104 u105 u106 u107 u108 u109 u110 u111 u112 u113 u114 u115 u116 u117 u118 u119 u120 u121 u122 u123 u124 u125 u126 u127 u128 u129 u130 u131 u132 u133 u134 u135 u136 u137 u138 u139 u140 u141 u142 u143 u144 u145 u146 u147 u148 u149 u150 u151 u152 u153 u154 u155 u156 u157 u158 u159 u160 u161 u162 u163 u164 u165 u166 u167 u168 u169 u170 u171 u172 u173 u174 u175 u176 u177 u178 u179 u180 u181 u182 u183 u184 u185 u186 u187 : Value, RdRel L b0 w2 u8 u9 u11 u12 w' ∧ a' = ⟨#[c0, c1, u2, u3, c4, c5, c6, c7, u8, u9, c10, u11, u12, u13, u14, u15, u16, u17, c18, c19, c20, c21, c22, c23, c24, c25, c26, c27, c28, c29, c30, c31, c32, c33, u34, u35, u36, u37, u38, u39, u40, u41, u42, u43, u44, u45, u46, u47, u48, u49, u50, u51, u52, u53, u54, u55, u56, u57, u58, u59, u60, u61, u62, u63, u64, u65, u66, u67, u68, u69, u70, u71, u72, u73, u74, u75, u76, u77, u78, u79, u80, u81, u82, u83, u84, u85, u86, u87, u88, u89, u90, u91, u92, u93, u94, u95, u96, u97, u98, u99, u100, u101, u102, u103, u104, u105, u106, u107, u108, u109, u110, u111, u112, u113, u114, u115, u116, u117, u118, u119, u120, u121, u122, u123, u124, u125, u126, u127, u128, u129, u130, u131, u132, u133, u134, u135, u136, u137, u138, u139, u140, u141, u142, u143, u144, u145, u146, u147, u148, u149, u150, u151, u152, u153, u154, u155, u156, u157, u158, u159, u160, u161, u162, u163, u164, u165, u166, u167, u168, u169, u170, u171, u172, u173, u174, u175, u176, u177, u178, u179, u180, u181, u182, u183, u184, u185, u186, u187, c188, c189], []⟩) ∧ L.length + 2 - (intOf (a'.tmps.getD 12 undef)).toNat < n0
set_option maxRecDepth 1000000 in
theorem rdPost_of {L : List (List UInt8)} {b0 n0 : Nat} {w2 wr : World} {c0 c1 c4 c5 c6 c7 c10 c18 c19 c20 c21 c22 c23 c24 c25 c26 c27 c28 c29 c30 c31 c32 c33 c188 c189 u2 u3 u13 u14 u15 u16 u17 u34 u35 u36 u37 u38 u39 u40 u41 u42 u43 u44 u45 u46 u47 u48 u49 u50 u51 u52 u53 u54 u55 u56 u57 u58 u59 u60 u61 u62 u63 u64 u65 u66 u67 u68 u69 u70 u71 u72 u73 u74 u75 u76 u77 u78 u79 u80 u81 u82 u83 u84 u85 u86 u87 u88 u89 u90 u91 u92 u93 u94 u95 u96 u97 u98 u99 u100 u101 u102 u103 u104 u105 u106 u107 u108 u109 u110 u111 u112 u113 u114 u115 u116 u117 u118 u119 u120 u121 u122 u123 u124 u125 u126 u127 u128 u129 u130 u131 u132 u133 u134 u135 u136 u137 u138 u139 u140 u141 u142 u143 u144 u145 u146 u147 u148 u149 u150 u151 u152 u153 u154 u155 u156 u157 u158 u159 u160 u161 u162 u163 u164 u165 u166 u167 u168 u169 u170 u171 u172 u173 u174 u175 u176 u177 u178 u179 u180 u181 u182 u183 u184 u185 u186 u187 v12 : Value} (i : Nat) (form sm : Bool) {vo : Value} {op : List UInt8} (h12 : v12 = .int .i64 i) (hi : i ≤ L.length + 1) (hm : L.length + 2 - i < n0)
    (HR : Hid (RdB b0 w2 op vo i wr)) (HE : Hid (RdE L i form sm op)) : RdPost L b0 w2 n0 c0 c1 c4 c5 c6 c7 c10 c18 c19 c20 c21 c22 c23 c24 c25 c26 c27 c28 c29 c30 c31 c32 c33 c188 c189 ⟨#[c0, c1, u2, u3, c4, c5, c6, c7, .bool form, vo, c10, .bool sm, v12, u13, u14, u15, u16, u17, c18, c19, c20, c21, c22, c23, c24, c25, c26, c27, c28, c29, c30, c31, c32, c33, u34, u35, u36, u37, u38, u39, u40, u41, u42, u43, u44, u45, u46, u47, u48, u49, u50, u51, u52, u53, u54, u55, u56, u57, u58, u59, u60, u61, u62, u63, u64, u65, u66, u67, u68, u69, u70, u71, u72, u73, u74, u75, u76, u77, u78, u79, u80, u81, u82, u83, u84, u85, u86, u87, u88, u89, u90, u91, u92, u93, u94, u95, u96, u97, u98, u99, u100, u101, u102, u103, u104, u105, u106, u107, u108, u109, u110, u111, u112, u113, u114, u115, u116, u117, u118, u119, u120, u121, u122, u123, u124, u125, u126, u127, u128, u129, u130, u131, u132, u133, u134, u135, u136, u137, u138, u139, u140, u141, u142, u143, u144, u145, u146, u147, u148, u149, u150, u151, u152, u153, u154, u155, u156, u157, u158, u159, u160, u161, u162, u163, u164, u165, u166, u167, u168, u169, u170, u171, u172, u173, u174, u175, u176, u177, u178, u179, u180, u181, u182, u183, u184, u185, u186, u187, c188, c189], []⟩ wr := by
  subst h12
  exact ⟨⟨u2, u3, .bool form, vo, .bool sm, .int .i64 i, u13, u14, u15, u16, u17, u34, u35, u36, u37, u38, u39, u40, u41, u42, u43, u44, u45, u46, u47, u48, u49, u50, u51, u52, u53, u54, u55, u56, u57, u58, u59, u60, u61, u62, u63, u64, u65, u66, u67, u68, u69, u70, u71, u72, u73, u74, u75, u76, u77, u78, u79, u80, u81, u82, u83, u84, u85, u86, u87, u88, u89, u90, u91, u92, u93, u94, u95, u96, u97, u98, u99, u100, u101, u102, u103, u104, u105, u106, u107, u108, u109, u110, u111, u112, u113, u114, u115, u116, u117, u118, u119, u120, u121, u122, u123, u124, u125, u126, u127, u128, u129, u130, u131, u132, u133, u134, u135, u136, u137, u138, u139, u140, u141, u142, u143, u144, u145, u146, u147, u148, u149, u150, u151, u152, u153, u154, u155, u156, u157, u158, u159, u160, u161, u162, u163, u164, u165, u166, u167, u168, u169, u170, u171, u172, u173, u174, u175, u176, u177, u178, u179, u180, u181, u182, u183, u184, u185, u186, u187, ⟨i, form, sm, vo, op, rfl, rfl, rfl, rfl, hi, HR, HE⟩, rfl⟩, hm⟩
end Go.Proofs.YtmagggflamdahaaGreatDoor

namespace Go.Proofs.YtmagggflamdahaaGreatDoor
open Go.RowKit

set_option maxHeartbeats 32000000 in
set_option maxRecDepth 1000000 in
theorem rd_word {s : ByteArray} {L : List (List UInt8)} {w2 wr : World} {b0 i : Nat} {aL aF : Option Addr} {cL cF : Nat} {form sm : Bool} {vo : Value} {op : List UInt8} {Q0 : Exit → Act → World → Prop} {c0 c1 c4 c5 c18 c19 c20 c21 c22 c23 c24 c25 c26 c27 c28 c29 c30 c31 c32 c33 c188 c189 u2 u3 u13 u14 u15 u16 u17 u34 u35 u36 u37 u38 u39 u40 u41 u42 u43 u44 u45 u46 u47 u48 u49 u50 u51 u52 u53 u54 u55 u56 u57 u58 u59 u60 u61 u62 u63 u64 u65 u66 u67 u68 u69 u70 u71 u72 u73 u74 u75 u76 u77 u78 u79 u80 u81 u82 u83 u84 u85 u86 u87 u88 u89 u90 u91 u92 u93 u94 u95 u96 u97 u98 u99 u100 u101 u102 u103 u104 u105 u106 u107 u108 u109 u110 u111 u112 u113 u114 u115 u116 u117 u118 u119 u120 u121 u122 u123 u124 u125 u126 u127 u128 u129 u130 u131 u132 u133 u134 u135 u136 u137 u138 u139 u140 u141 u142 u143 u144 u145 u146 u147 u148 u149 u150 u151 u152 u153 u154 u155 u156 u157 u158 u159 u160 u161 u162 u163 u164 u165 u166 u167 u168 u169 u170 u171 u172 u173 u174 u175 u176 u177 u178 u179 u180 u181 u182 u183 u184 u185 u186 u187 : Value}
    (H : RdC s L w2 b0 aL aF cL cF) (HR : Hid (RdB b0 w2 op vo i wr)) (HE : Hid (RdE L i form sm op)) {t : List UInt8} (ht : L[i]? = some t) (hfl : flagT t = false) :
    Code.wp Tryz.prog rdBody (Exit.then (RdPost L b0 w2 (L.length + 2 - i) c0 c1 c4 c5 (.slice aL L.length cL) (.slice aF L.length cF) (.pointer (some ⟨b0, 0, none⟩)) c18 c19 c20 c21 c22 c23 c24 c25 c26 c27 c28 c29 c30 c31 c32 c33 c188 c189) (Q0)) ⟨#[c0, c1, u2, u3, c4, c5, .slice aL L.length cL, .slice aF L.length cF, .bool form, vo, .pointer (some ⟨b0, 0, none⟩), .bool sm, .int .i64 i, u13, u14, u15, u16, u17, c18, c19, c20, c21, c22, c23, c24, c25, c26, c27, c28, c29, c30, c31, c32, c33, u34, u35, u36, u37, u38, u39, u40, u41, u42, u43, u44, u45, u46, u47, u48, u49, u50, u51, u52, u53, u54, u55, u56, u57, u58, u59, u60, u61, u62, u63, u64, u65, u66, u67, u68, u69, u70, u71, u72, u73, u74, u75, u76, u77, u78, u79, u80, u81, u82, u83, u84, u85, u86, u87, u88, u89, u90, u91, u92, u93, u94, u95, u96, u97, u98, u99, u100, u101, u102, u103, u104, u105, u106, u107, u108, u109, u110, u111, u112, u113, u114, u115, u116, u117, u118, u119, u120, u121, u122, u123, u124, u125, u126, u127, u128, u129, u130, u131, u132, u133, u134, u135, u136, u137, u138, u139, u140, u141, u142, u143, u144, u145, u146, u147, u148, u149, u150, u151, u152, u153, u154, u155, u156, u157, u158, u159, u160, u161, u162, u163, u164, u165, u166, u167, u168, u169, u170, u171, u172, u173, u174, u175, u176, u177, u178, u179, u180, u181, u182, u183, u184, u185, u186, u187, c188, c189], []⟩ wr := by
  conv => arg 2; whnf
  obtain ⟨i0, hi0, hz0, hz1, hz2⟩ := info_parts strInfo
  obtain ⟨k0, hk0, hc0, hc1, hc2⟩ := info_parts rcmdInfo
  have HLen := Lib.hid H.len
  have hLen := H.len
  have HB0 := Lib.hid H.base
  have HLL := Lib.hid H.toks
  have HBig : Hid (s.data.toList.length ≤ 65536) := Lib.hid (by have := H.big; simpa using this)
  obtain ⟨⟨aw, nw, cw, x2, x3, b4, b5, b6, xw, hbox, hnw, hwords⟩, ⟨no, xo, hno, hout⟩, hbel, hsz⟩ := HR.out
  have HBox := Lib.hid hbox
  have HWords := Lib.hid hwords
  have HOut := Lib.hid hout
  have HBel := Lib.hid hbel
  have HSz := Lib.hid hsz
  have y0 : wr.cell? ⟨b0, 0, none⟩ = some (.string ⟨op.toArray⟩) := Lib.cell_of_heap hbox 0
  have y1 : wr.cell? ⟨b0, 1, none⟩ = some (.slice aw nw cw) := Lib.cell_of_heap hbox 1
  have y2 : wr.cell? ⟨b0, 2, none⟩ = some (.string x2) := Lib.cell_of_heap hbox 2
  have y3 : wr.cell? ⟨b0, 3, none⟩ = some (.string x3) := Lib.cell_of_heap hbox 3
  have y4 : wr.cell? ⟨b0, 4, none⟩ = some (.bool b4) := Lib.cell_of_heap hbox 4
  have y5 : wr.cell? ⟨b0, 5, none⟩ = some (.bool b5) := Lib.cell_of_heap hbox 5
  have y6 : wr.cell? ⟨b0, 6, none⟩ = some (.bool b6) := Lib.cell_of_heap hbox 6
  have z0 := Lib.frozen_of_heap hbox 0
  have z1 := Lib.frozen_of_heap hbox 1
  have z2 := Lib.frozen_of_heap hbox 2
  have z3 := Lib.frozen_of_heap hbox 3
  have z4 := Lib.frozen_of_heap hbox 4
  have z5 := Lib.frozen_of_heap hbox 5
  have z6 := Lib.frozen_of_heap hbox 6
  clear hbox hwords hout hbel hsz
  have hlt : i < L.length := get_lt ht
  have HT := Lib.hid ht
  obtain ⟨gL, cL', gF, cF', he1, he2, hgL, hgF, hcL2, hcF2⟩ := H.rows i t ht
  simp only [Value.slice.injEq] at he1 he2
  obtain ⟨rfl, -, rfl⟩ := he1
  obtain ⟨rfl, -, rfl⟩ := he2
  have hcL : wr.cell? ⟨gL, i, none⟩ = some (.string ⟨t.toArray⟩) := (World.cell?_of_block (w := w2) (HBel.out.block gL (by rw [HB0.out]; exact hgL))).trans hcL2
  have hcF : wr.cell? ⟨gF, i, none⟩ = some (.bool (flagT t)) := (World.cell?_of_block (w := w2) (HBel.out.block gF (by rw [HB0.out]; exact hgF))).trans hcF2
  have hgL2 : gL < b0 := by rw [HB0.out]; exact hgL
  have hil : ((i : Int) == (L.length : Int)) = false := beq_eq_false_iff_ne.2 (by omega)
  have hle : (i : Int) ≤ (L.length : Int) := by omega
  have hnl : (i : Int) < (L.length : Int) := by omega
  rw [hfl] at hcF
  clear H ht
  have HEn : Hid (RdE L (i + 1) form true op) := Lib.hid (HE.out.word HT.out hfl)
  have HMn := Lib.hid (fun (x : ByteArray) (hx : x.size ≤ 1073741824) (w : World) => refMean_any x hx w)
  have HTl : Hid (t.length ≤ 65536) := Lib.hid (by have := HBig.out; have := (toks_all s.data.toList.length s.data.toList L (Nat.le_refl _) HLL.out t (List.mem_of_getElem? HT.out)).2; omega)
  clear hfl
  go_wp2_with fail
  go_at_call 26
  refine (HMn.out ⟨t.toArray⟩ (by show t.toArray.size ≤ _; simp; have := HTl.out; omega) wr).mono ?_
  rintro e w3 ⟨m, k, rfl, hb3⟩
  have hR3 := HR.out.below' hb3
  obtain ⟨⟨aw3, nw3, cw3, u2, u3, d4, d5, d6, xw3, hbox3, hnw3, hwords3⟩, hrow3, hbel3, hsz3⟩ := hR3
  have y1' : (w3.alloc (.cells #[.string m] 9)).cell? ⟨b0, 1, none⟩ = some (.slice aw3 nw3 cw3) := (World.cell?_of_block (w := w3) (Below.heap_alloc w3 _ b0 (by omega))).trans (Lib.cell_of_heap hbox3 1)
  have y1'' : w3.cell? ⟨b0, 1, none⟩ = some (.slice aw3 nw3 cw3) := Lib.cell_of_heap hbox3 1
  have HR3 : Hid (RdB b0 w2 op vo i w3) := Lib.hid ⟨⟨aw3, nw3, cw3, u2, u3, d4, d5, d6, xw3, hbox3, hnw3, hwords3⟩, hrow3, hbel3, hsz3⟩
  have HBx3 := Lib.hid hbox3
  have HW3 := Lib.hid hwords3
  have HS3 := Lib.hid hsz3
  clear y0 y1 y2 y3 y4 y5 y6 z0 z1 z2 z3 z4 z5 z6 hcL hcF hb3 hbox3 hwords3 hrow3 hbel3 hsz3
  go_wp2_with (at_builtin; refine wpList_append_own _ rfl _ _ 29 rfl (b0 + 1) 9 i0 (.string .empty) 1 16 Tryz.underlying29 hi0 hz0 hz1 hz2 rfl (by decide) _ _ _ rfl (HW3.out.alloc _) ⟨w3.heap.size, 0, none⟩ 1 1 [.string m] rfl rfl ?a1 ?b1 ?c1 ?d1 ?e1 ?_)
  try case a1 =>
    intro j y hj
    match j, hj with
    | 0, hj => simp at hj; subst hj; exact Lib.cell_of_heap (heap_alloc_new _ _) 0
  try case b1 => first | rfl | (intro y hy; simp at hy; subst hy; rfl)
  try case c1 => unfold maxLen; omega
  try case d1 => omega
  try case e1 => first | exact Nat.le_trans HS3.out (by simp) | (have := HS3.out; omega)
  intro v' w4 hown' hgrow _
  obtain ⟨a', c', rfl⟩ := ownsRow_slice hown'
  have HR4 : Hid (RdB b0 w2 op vo (i + 1) (w4.setCell ⟨b0, 1, none⟩ (.slice a' (nw3 + 1) c'))) := Lib.hid (RdB.push HR3.out HBx3.out HW3.out hnw3 hown' rfl hgrow)
  have hx4 : w4.heap[b0]? = _ := (hgrow.block b0 (by simp; have := HS3.out; omega) (fun e => by have := (HW3.out.lt b0 e.symm).1; omega)).trans ((Below.heap_alloc w3 _ b0 (by have := HS3.out; omega)).trans HBx3.out)
  have q1 : w4.cell? ⟨b0, 1, none⟩ = some (.slice aw3 nw3 cw3) := Lib.cell_of_heap hx4 1
  have qf : w4.frozen? ⟨b0, 1, none⟩ = false := Lib.frozen_of_heap hx4 1
  clear hown' hgrow hx4
  go_wp2
  exact rdPost_of (i + 1) form true (by go_num) (by omega) (by omega) HR4 HEn
end Go.Proofs.YtmagggflamdahaaGreatDoor

namespace Go.Proofs.YtmagggflamdahaaGreatDoor
open Go.RowKit

set_option maxHeartbeats 32000000 in
set_option maxRecDepth 1000000 in
theorem rd_sep {s : ByteArray} {L : List (List UInt8)} {w2 wr : World} {b0 i : Nat} {aL aF : Option Addr} {cL cF : Nat} {form sm : Bool} {vo : Value} {op : List UInt8} {Q0 : Exit → Act → World → Prop} {c0 c1 c4 c5 c18 c19 c20 c21 c22 c23 c24 c25 c26 c27 c28 c29 c30 c31 c32 c33 c188 c189 u2 u3 u13 u14 u15 u16 u17 u34 u35 u36 u37 u38 u39 u40 u41 u42 u43 u44 u45 u46 u47 u48 u49 u50 u51 u52 u53 u54 u55 u56 u57 u58 u59 u60 u61 u62 u63 u64 u65 u66 u67 u68 u69 u70 u71 u72 u73 u74 u75 u76 u77 u78 u79 u80 u81 u82 u83 u84 u85 u86 u87 u88 u89 u90 u91 u92 u93 u94 u95 u96 u97 u98 u99 u100 u101 u102 u103 u104 u105 u106 u107 u108 u109 u110 u111 u112 u113 u114 u115 u116 u117 u118 u119 u120 u121 u122 u123 u124 u125 u126 u127 u128 u129 u130 u131 u132 u133 u134 u135 u136 u137 u138 u139 u140 u141 u142 u143 u144 u145 u146 u147 u148 u149 u150 u151 u152 u153 u154 u155 u156 u157 u158 u159 u160 u161 u162 u163 u164 u165 u166 u167 u168 u169 u170 u171 u172 u173 u174 u175 u176 u177 u178 u179 u180 u181 u182 u183 u184 u185 u186 u187 : Value}
    (H : RdC s L w2 b0 aL aF cL cF) (HR : Hid (RdB b0 w2 op vo i wr)) (HE : Hid (RdE L i form sm op)) {t : List UInt8} (ht : L[i]? = some t) (hfl : flagT t = true) (hS : t = [59] ∨ t = [38, 38] ∨ t = [124, 124]) :
    Code.wp Tryz.prog rdBody (Exit.then (RdPost L b0 w2 (L.length + 2 - i) c0 c1 c4 c5 (.slice aL L.length cL) (.slice aF L.length cF) (.pointer (some ⟨b0, 0, none⟩)) c18 c19 c20 c21 c22 c23 c24 c25 c26 c27 c28 c29 c30 c31 c32 c33 c188 c189) (Q0)) ⟨#[c0, c1, u2, u3, c4, c5, .slice aL L.length cL, .slice aF L.length cF, .bool form, vo, .pointer (some ⟨b0, 0, none⟩), .bool sm, .int .i64 i, u13, u14, u15, u16, u17, c18, c19, c20, c21, c22, c23, c24, c25, c26, c27, c28, c29, c30, c31, c32, c33, u34, u35, u36, u37, u38, u39, u40, u41, u42, u43, u44, u45, u46, u47, u48, u49, u50, u51, u52, u53, u54, u55, u56, u57, u58, u59, u60, u61, u62, u63, u64, u65, u66, u67, u68, u69, u70, u71, u72, u73, u74, u75, u76, u77, u78, u79, u80, u81, u82, u83, u84, u85, u86, u87, u88, u89, u90, u91, u92, u93, u94, u95, u96, u97, u98, u99, u100, u101, u102, u103, u104, u105, u106, u107, u108, u109, u110, u111, u112, u113, u114, u115, u116, u117, u118, u119, u120, u121, u122, u123, u124, u125, u126, u127, u128, u129, u130, u131, u132, u133, u134, u135, u136, u137, u138, u139, u140, u141, u142, u143, u144, u145, u146, u147, u148, u149, u150, u151, u152, u153, u154, u155, u156, u157, u158, u159, u160, u161, u162, u163, u164, u165, u166, u167, u168, u169, u170, u171, u172, u173, u174, u175, u176, u177, u178, u179, u180, u181, u182, u183, u184, u185, u186, u187, c188, c189], []⟩ wr := by
  conv => arg 2; whnf
  obtain ⟨i0, hi0, hz0, hz1, hz2⟩ := info_parts strInfo
  obtain ⟨k0, hk0, hc0, hc1, hc2⟩ := info_parts rcmdInfo
  have HLen := Lib.hid H.len
  have hLen := H.len
  have HB0 := Lib.hid H.base
  have HLL := Lib.hid H.toks
  have HBig : Hid (s.data.toList.length ≤ 65536) := Lib.hid (by have := H.big; simpa using this)
  obtain ⟨⟨aw, nw, cw, x2, x3, b4, b5, b6, xw, hbox, hnw, hwords⟩, ⟨no, xo, hno, hout⟩, hbel, hsz⟩ := HR.out
  have HBox := Lib.hid hbox
  have HWords := Lib.hid hwords
  have HOut := Lib.hid hout
  have HBel := Lib.hid hbel
  have HSz := Lib.hid hsz
  have y0 : wr.cell? ⟨b0, 0, none⟩ = some (.string ⟨op.toArray⟩) := Lib.cell_of_heap hbox 0
  have y1 : wr.cell? ⟨b0, 1, none⟩ = some (.slice aw nw cw) := Lib.cell_of_heap hbox 1
  have y2 : wr.cell? ⟨b0, 2, none⟩ = some (.string x2) := Lib.cell_of_heap hbox 2
  have y3 : wr.cell? ⟨b0, 3, none⟩ = some (.string x3) := Lib.cell_of_heap hbox 3
  have y4 : wr.cell? ⟨b0, 4, none⟩ = some (.bool b4) := Lib.cell_of_heap hbox 4
  have y5 : wr.cell? ⟨b0, 5, none⟩ = some (.bool b5) := Lib.cell_of_heap hbox 5
  have y6 : wr.cell? ⟨b0, 6, none⟩ = some (.bool b6) := Lib.cell_of_heap hbox 6
  have z0 := Lib.frozen_of_heap hbox 0
  have z1 := Lib.frozen_of_heap hbox 1
  have z2 := Lib.frozen_of_heap hbox 2
  have z3 := Lib.frozen_of_heap hbox 3
  have z4 := Lib.frozen_of_heap hbox 4
  have z5 := Lib.frozen_of_heap hbox 5
  have z6 := Lib.frozen_of_heap hbox 6
  clear hbox hwords hout hbel hsz
  have hlt : i < L.length := get_lt ht
  have HT := Lib.hid ht
  obtain ⟨gL, cL', gF, cF', he1, he2, hgL, hgF, hcL2, hcF2⟩ := H.rows i t ht
  simp only [Value.slice.injEq] at he1 he2
  obtain ⟨rfl, -, rfl⟩ := he1
  obtain ⟨rfl, -, rfl⟩ := he2
  have hcL : wr.cell? ⟨gL, i, none⟩ = some (.string ⟨t.toArray⟩) := (World.cell?_of_block (w := w2) (HBel.out.block gL (by rw [HB0.out]; exact hgL))).trans hcL2
  have hcF : wr.cell? ⟨gF, i, none⟩ = some (.bool (flagT t)) := (World.cell?_of_block (w := w2) (HBel.out.block gF (by rw [HB0.out]; exact hgF))).trans hcF2
  have hgL2 : gL < b0 := by rw [HB0.out]; exact hgL
  have hil : ((i : Int) == (L.length : Int)) = false := beq_eq_false_iff_ne.2 (by omega)
  have hle : (i : Int) ≤ (L.length : Int) := by omega
  have hnl : (i : Int) < (L.length : Int) := by omega
  rw [hfl] at hcF
  have HS := Lib.hid hS
  clear H ht hfl
  go_upto_region 17 with fail
  go_cut [54] from 34 to 187 (fun s54 wx => s54 = .bool true ∧ wx = wr)
  case first =>
    rcases hS with rfl | rfl | rfl
    all_goals (
      go_wp2_with fail
      go_meet
      exact ⟨rfl, rfl⟩)
  case rest =>
    obtain ⟨rfl, rfl⟩ := hcut
    go_upto_if 86 with fail
    go_cut [9] from 34 to 187 (fun s9 wx => ∃ vo', vo' = s9 ∧ Hid (RdB b0 w2 op vo' (i + 1) wx))
    case first =>
      cases sm with
      | true =>
        go_wp2_with (at_builtin; go_loud (refine wpList_append_own _ rfl _ _ 24 rfl (b0 + 1) 66 k0 _ 7 80 Tryz.underlying24 hk0 hc0 hc1 hc2 rfl (by decide) _ _ _ rfl (HOut.out.alloc _) ⟨wc.heap.size, 0, none⟩ 1 1 [.string ⟨op.toArray⟩, .slice aw nw cw, .string x2, .string x3, .bool b4, .bool b5, .bool b6] rfl rfl ?a2 ?b2 ?c2 ?d2 ?e2 ?_))
        try case a2 =>
          intro j y hj
          match j, hj with
          | 0, hj => simp at hj; subst hj; exact Lib.cell_of_heap (heap_alloc_new _ _) 0
          | 1, hj => simp at hj; subst hj; exact Lib.cell_of_heap (heap_alloc_new _ _) 1
          | 2, hj => simp at hj; subst hj; exact Lib.cell_of_heap (heap_alloc_new _ _) 2
          | 3, hj => simp at hj; subst hj; exact Lib.cell_of_heap (heap_alloc_new _ _) 3
          | 4, hj => simp at hj; subst hj; exact Lib.cell_of_heap (heap_alloc_new _ _) 4
          | 5, hj => simp at hj; subst hj; exact Lib.cell_of_heap (heap_alloc_new _ _) 5
          | 6, hj => simp at hj; subst hj; exact Lib.cell_of_heap (heap_alloc_new _ _) 6
        try case b2 => first | exact ⟨rfl, rfl, rfl, rfl, rfl, rfl, rfl⟩ | (intro y hy; simp at hy; rcases hy with rfl | rfl | rfl | rfl | rfl | rfl | rfl <;> rfl)
        try case c2 => unfold maxLen; omega
        try case d2 => omega
        try case e2 => first | exact Nat.le_trans HSz.out (by simp) | (have := HSz.out; omega)
        intro v' w3 hown' hgrow _
        have hx3 : w3.heap[b0]? = _ := (hgrow.block b0 (by simp; have := HSz.out; omega) (fun e => by have := (HOut.out.lt b0 e.symm).1; omega)).trans ((Below.heap_alloc wc _ b0 (by have := HSz.out; omega)).trans HBox.out)
        have HRp : Hid (RdB b0 w2 op v' (i + 1) w3) := Lib.hid ⟨⟨aw, nw, cw, x2, x3, b4, b5, b6, xw, hx3, by omega, (HWords.out.alloc _).kept hgrow (apart_rows HWords.out HOut.out (by decide))⟩, ⟨no + 1, _, by omega, hown'⟩, (HBel.out.alloc (by have := HSz.out; omega) _).grown hgrow (by have := HSz.out; simp; omega) (fun k hk => by have := (HOut.out.lt k hk).1; omega), by have h1 := HSz.out; have h2 := hgrow.size; simp at h2; omega⟩
        clear hown' hgrow hx3
        go_wp2_with fail
        go_meet
        exact ⟨_, rfl, HRp⟩
      | false =>
        have HRp : Hid (RdB b0 w2 op vo (i + 1) wc) := Lib.hid (HR.out.more (by omega))
        go_wp2_with fail
        go_meet
        exact ⟨_, rfl, HRp⟩
    case rest =>
      obtain ⟨vo', rfl, HRw⟩ := hcut
      clear y0 y1 y2 y3 y4 y5 y6 z0 z1 z2 z3 z4 z5 z6 hcL hcF
      obtain ⟨⟨aw, nw, cw, x2, x3, b4, b5, b6, xw, hbox, hnw, hwords⟩, ⟨no, xo, hno, hout⟩, hbel, hsz⟩ := HRw.out
      have y0 : wc.cell? ⟨b0, 0, none⟩ = some (.string ⟨op.toArray⟩) := Lib.cell_of_heap hbox 0
      have y1 : wc.cell? ⟨b0, 1, none⟩ = some (.slice aw nw cw) := Lib.cell_of_heap hbox 1
      have y2 : wc.cell? ⟨b0, 2, none⟩ = some (.string x2) := Lib.cell_of_heap hbox 2
      have y3 : wc.cell? ⟨b0, 3, none⟩ = some (.string x3) := Lib.cell_of_heap hbox 3
      have y4 : wc.cell? ⟨b0, 4, none⟩ = some (.bool b4) := Lib.cell_of_heap hbox 4
      have y5 : wc.cell? ⟨b0, 5, none⟩ = some (.bool b5) := Lib.cell_of_heap hbox 5
      have y6 : wc.cell? ⟨b0, 6, none⟩ = some (.bool b6) := Lib.cell_of_heap hbox 6
      have z0 := Lib.frozen_of_heap hbox 0
      have z1 := Lib.frozen_of_heap hbox 1
      have z2 := Lib.frozen_of_heap hbox 2
      have z3 := Lib.frozen_of_heap hbox 3
      have z4 := Lib.frozen_of_heap hbox 4
      have z5 := Lib.frozen_of_heap hbox 5
      have z6 := Lib.frozen_of_heap hbox 6
      obtain ⟨WZ, hWZ⟩ : ∃ WZ, WZ = wZero wc b0 := ⟨_, rfl⟩
      have hxz : WZ.heap[b0]? = some (.cells #[.string ⟨#[]⟩, .slice none 0 0, .string ⟨#[]⟩, .string ⟨#[]⟩, .bool false, .bool false, .bool false] 66 (0, 0)) := by rw [hWZ]; exact wZero_heap hbox
      have HRz : Hid (RdB b0 w2 [] vo' (i + 1) WZ) := Lib.hid (by rw [hWZ]; exact ⟨⟨none, 0, 0, _, _, _, _, _, [], wZero_heap hbox, Nat.zero_le _, ⟨rfl, .inl ⟨rfl, rfl⟩⟩⟩, ⟨_, _, hno, ownsRow_heap hout (fun k hk => wZero_other _ _ k (by have := (hout.lt k hk).1; omega))⟩, wZero_below hbel (Nat.le_refl _), by rw [wZero_size]; exact hsz⟩)
      have HBelw := Lib.hid hbel
      clear hbox hwords hout hbel hsz hnw hno
      have HEn : Hid (RdE L (i + 1) (form || !sm) false t) := Lib.hid (HE.out.sep HT.out HS.out)
      go_upto_region 21 with fail
      go_cut [8] from 34 to 187 (fun s8 wx => s8 = .bool (form || !sm) ∧ wx = wc)
      case first =>
        cases form <;> cases sm
        all_goals (
          go_wp2_with fail
          go_meet
          exact ⟨rfl, rfl⟩)
      case rest =>
        obtain ⟨rfl, rfl⟩ := hcut
        have HRo : Hid (RdB b0 w2 t vo' (i + 1) (WZ.setCell ⟨b0, 0, none⟩ (.string ⟨t.toArray⟩))) := Lib.hid (HRz.out.setOp t)
        have hcZ : WZ.cell? ⟨gL, i, none⟩ = some (.string ⟨t.toArray⟩) := (World.cell?_of_block (w := w2) (HRz.out.below.block gL hgL2)).trans hcL2
        have yz : WZ.cell? ⟨b0, 0, none⟩ = some (.string ⟨#[]⟩) := Lib.cell_of_heap hxz 0
        have zz : WZ.frozen? ⟨b0, 0, none⟩ = false := Lib.frozen_of_heap hxz 0
        rw [hWZ] at hcZ yz zz HRo
        unfold wZero at hcZ yz zz HRo
        clear hxz hWZ
        generalize (form || !sm) = form2 at HEn
        go_wp2
        exact rdPost_of (i + 1) form2 false (by go_num) (by omega) (by omega) HRo HEn
end Go.Proofs.YtmagggflamdahaaGreatDoor

namespace Go.Proofs.YtmagggflamdahaaGreatDoor
open Go.RowKit

set_option maxHeartbeats 32000000 in
set_option maxRecDepth 1000000 in
theorem rd_end {s : ByteArray} {L : List (List UInt8)} {w2 wr : World} {b0 : Nat} {aL aF : Option Addr} {cL cF : Nat} {form sm : Bool} {vo : Value} {op : List UInt8} {Q0 : Exit → Act → World → Prop} {c0 c1 c4 c5 c18 c19 c20 c21 c22 c23 c24 c25 c26 c27 c28 c29 c30 c31 c32 c33 c188 c189 u2 u3 u13 u14 u15 u16 u17 u34 u35 u36 u37 u38 u39 u40 u41 u42 u43 u44 u45 u46 u47 u48 u49 u50 u51 u52 u53 u54 u55 u56 u57 u58 u59 u60 u61 u62 u63 u64 u65 u66 u67 u68 u69 u70 u71 u72 u73 u74 u75 u76 u77 u78 u79 u80 u81 u82 u83 u84 u85 u86 u87 u88 u89 u90 u91 u92 u93 u94 u95 u96 u97 u98 u99 u100 u101 u102 u103 u104 u105 u106 u107 u108 u109 u110 u111 u112 u113 u114 u115 u116 u117 u118 u119 u120 u121 u122 u123 u124 u125 u126 u127 u128 u129 u130 u131 u132 u133 u134 u135 u136 u137 u138 u139 u140 u141 u142 u143 u144 u145 u146 u147 u148 u149 u150 u151 u152 u153 u154 u155 u156 u157 u158 u159 u160 u161 u162 u163 u164 u165 u166 u167 u168 u169 u170 u171 u172 u173 u174 u175 u176 u177 u178 u179 u180 u181 u182 u183 u184 u185 u186 u187 : Value}
    (H : RdC s L w2 b0 aL aF cL cF) (HR : Hid (RdB b0 w2 op vo L.length wr)) (HE : Hid (RdE L L.length form sm op))  :
    Code.wp Tryz.prog rdBody (Exit.then (RdPost L b0 w2 (L.length + 2 - L.length) c0 c1 c4 c5 (.slice aL L.length cL) (.slice aF L.length cF) (.pointer (some ⟨b0, 0, none⟩)) c18 c19 c20 c21 c22 c23 c24 c25 c26 c27 c28 c29 c30 c31 c32 c33 c188 c189) (Q0)) ⟨#[c0, c1, u2, u3, c4, c5, .slice aL L.length cL, .slice aF L.length cF, .bool form, vo, .pointer (some ⟨b0, 0, none⟩), .bool sm, .int .i64 (L.length : Nat), u13, u14, u15, u16, u17, c18, c19, c20, c21, c22, c23, c24, c25, c26, c27, c28, c29, c30, c31, c32, c33, u34, u35, u36, u37, u38, u39, u40, u41, u42, u43, u44, u45, u46, u47, u48, u49, u50, u51, u52, u53, u54, u55, u56, u57, u58, u59, u60, u61, u62, u63, u64, u65, u66, u67, u68, u69, u70, u71, u72, u73, u74, u75, u76, u77, u78, u79, u80, u81, u82, u83, u84, u85, u86, u87, u88, u89, u90, u91, u92, u93, u94, u95, u96, u97, u98, u99, u100, u101, u102, u103, u104, u105, u106, u107, u108, u109, u110, u111, u112, u113, u114, u115, u116, u117, u118, u119, u120, u121, u122, u123, u124, u125, u126, u127, u128, u129, u130, u131, u132, u133, u134, u135, u136, u137, u138, u139, u140, u141, u142, u143, u144, u145, u146, u147, u148, u149, u150, u151, u152, u153, u154, u155, u156, u157, u158, u159, u160, u161, u162, u163, u164, u165, u166, u167, u168, u169, u170, u171, u172, u173, u174, u175, u176, u177, u178, u179, u180, u181, u182, u183, u184, u185, u186, u187, c188, c189], []⟩ wr := by
  conv => arg 2; whnf
  obtain ⟨i0, hi0, hz0, hz1, hz2⟩ := info_parts strInfo
  obtain ⟨k0, hk0, hc0, hc1, hc2⟩ := info_parts rcmdInfo
  have HLen := Lib.hid H.len
  have hLen := H.len
  have HB0 := Lib.hid H.base
  have HLL := Lib.hid H.toks
  have HBig : Hid (s.data.toList.length ≤ 65536) := Lib.hid (by have := H.big; simpa using this)
  obtain ⟨⟨aw, nw, cw, x2, x3, b4, b5, b6, xw, hbox, hnw, hwords⟩, ⟨no, xo, hno, hout⟩, hbel, hsz⟩ := HR.out
  have HBox := Lib.hid hbox
  have HWords := Lib.hid hwords
  have HOut := Lib.hid hout
  have HBel := Lib.hid hbel
  have HSz := Lib.hid hsz
  have y0 : wr.cell? ⟨b0, 0, none⟩ = some (.string ⟨op.toArray⟩) := Lib.cell_of_heap hbox 0
  have y1 : wr.cell? ⟨b0, 1, none⟩ = some (.slice aw nw cw) := Lib.cell_of_heap hbox 1
  have y2 : wr.cell? ⟨b0, 2, none⟩ = some (.string x2) := Lib.cell_of_heap hbox 2
  have y3 : wr.cell? ⟨b0, 3, none⟩ = some (.string x3) := Lib.cell_of_heap hbox 3
  have y4 : wr.cell? ⟨b0, 4, none⟩ = some (.bool b4) := Lib.cell_of_heap hbox 4
  have y5 : wr.cell? ⟨b0, 5, none⟩ = some (.bool b5) := Lib.cell_of_heap hbox 5
  have y6 : wr.cell? ⟨b0, 6, none⟩ = some (.bool b6) := Lib.cell_of_heap hbox 6
  have z0 := Lib.frozen_of_heap hbox 0
  have z1 := Lib.frozen_of_heap hbox 1
  have z2 := Lib.frozen_of_heap hbox 2
  have z3 := Lib.frozen_of_heap hbox 3
  have z4 := Lib.frozen_of_heap hbox 4
  have z5 := Lib.frozen_of_heap hbox 5
  have z6 := Lib.frozen_of_heap hbox 6
  clear hbox hwords hout hbel hsz
  have hil : ((L.length : Int) == (L.length : Int)) = true := by simp
  have hle : (L.length : Int) ≤ (L.length : Int) := Int.le_refl _
  have hnl : ¬ (L.length : Int) < (L.length : Int) := by omega
  clear H
  go_upto_region 17 with fail
  go_cut [54] from 34 to 187 (fun s54 wx => s54 = .bool true ∧ wx = wr)
  case first =>
    go_wp2_with fail
    go_meet
    exact ⟨rfl, rfl⟩
  case rest =>
    obtain ⟨rfl, rfl⟩ := hcut
    go_upto_if 86 with fail
    go_cut [9] from 34 to 187 (fun s9 wx => ∃ vo', vo' = s9 ∧ Hid (RdB b0 w2 op vo' (L.length + 1) wx))
    case first =>
      cases sm with
      | true =>
        go_wp2_with (at_builtin; go_loud (refine wpList_append_own _ rfl _ _ 24 rfl (b0 + 1) 66 k0 _ 7 80 Tryz.underlying24 hk0 hc0 hc1 hc2 rfl (by decide) _ _ _ rfl (HOut.out.alloc _) ⟨wc.heap.size, 0, none⟩ 1 1 [.string ⟨op.toArray⟩, .slice aw nw cw, .string x2, .string x3, .bool b4, .bool b5, .bool b6] rfl rfl ?a3 ?b3 ?c3 ?d3 ?e3 ?_))
        try case a3 =>
          intro j y hj
          match j, hj with
          | 0, hj => simp at hj; subst hj; exact Lib.cell_of_heap (heap_alloc_new _ _) 0
          | 1, hj => simp at hj; subst hj; exact Lib.cell_of_heap (heap_alloc_new _ _) 1
          | 2, hj => simp at hj; subst hj; exact Lib.cell_of_heap (heap_alloc_new _ _) 2
          | 3, hj => simp at hj; subst hj; exact Lib.cell_of_heap (heap_alloc_new _ _) 3
          | 4, hj => simp at hj; subst hj; exact Lib.cell_of_heap (heap_alloc_new _ _) 4
          | 5, hj => simp at hj; subst hj; exact Lib.cell_of_heap (heap_alloc_new _ _) 5
          | 6, hj => simp at hj; subst hj; exact Lib.cell_of_heap (heap_alloc_new _ _) 6
        try case b3 => first | exact ⟨rfl, rfl, rfl, rfl, rfl, rfl, rfl⟩ | (intro y hy; simp at hy; rcases hy with rfl | rfl | rfl | rfl | rfl | rfl | rfl <;> rfl)
        try case c3 => unfold maxLen; omega
        try case d3 => omega
        try case e3 => first | exact Nat.le_trans HSz.out (by simp) | (have := HSz.out; omega)
        intro v' w3 hown' hgrow _
        have hx3 : w3.heap[b0]? = _ := (hgrow.block b0 (by simp; have := HSz.out; omega) (fun e => by have := (HOut.out.lt b0 e.symm).1; omega)).trans ((Below.heap_alloc wc _ b0 (by have := HSz.out; omega)).trans HBox.out)
        have HRp : Hid (RdB b0 w2 op v' (L.length + 1) w3) := Lib.hid ⟨⟨aw, nw, cw, x2, x3, b4, b5, b6, xw, hx3, by omega, (HWords.out.alloc _).kept hgrow (apart_rows HWords.out HOut.out (by decide))⟩, ⟨no + 1, _, by omega, hown'⟩, (HBel.out.alloc (by have := HSz.out; omega) _).grown hgrow (by have := HSz.out; simp; omega) (fun k hk => by have := (HOut.out.lt k hk).1; omega), by have h1 := HSz.out; have h2 := hgrow.size; simp at h2; omega⟩
        clear hown' hgrow hx3
        go_wp2_with fail
        go_meet
        exact ⟨_, rfl, HRp⟩
      | false =>
        have HRp : Hid (RdB b0 w2 op vo (L.length + 1) wc) := Lib.hid (HR.out.more (by omega))
        go_wp2_with fail
        go_meet
        exact ⟨_, rfl, HRp⟩
    case rest =>
      obtain ⟨vo', rfl, HRw⟩ := hcut
      clear y0 y1 y2 y3 y4 y5 y6 z0 z1 z2 z3 z4 z5 z6
      obtain ⟨⟨aw, nw, cw, x2, x3, b4, b5, b6, xw, hbox, hnw, hwords⟩, ⟨no, xo, hno, hout⟩, hbel, hsz⟩ := HRw.out
      have y0 : wc.cell? ⟨b0, 0, none⟩ = some (.string ⟨op.toArray⟩) := Lib.cell_of_heap hbox 0
      have y1 : wc.cell? ⟨b0, 1, none⟩ = some (.slice aw nw cw) := Lib.cell_of_heap hbox 1
      have y2 : wc.cell? ⟨b0, 2, none⟩ = some (.string x2) := Lib.cell_of_heap hbox 2
      have y3 : wc.cell? ⟨b0, 3, none⟩ = some (.string x3) := Lib.cell_of_heap hbox 3
      have y4 : wc.cell? ⟨b0, 4, none⟩ = some (.bool b4) := Lib.cell_of_heap hbox 4
      have y5 : wc.cell? ⟨b0, 5, none⟩ = some (.bool b5) := Lib.cell_of_heap hbox 5
      have y6 : wc.cell? ⟨b0, 6, none⟩ = some (.bool b6) := Lib.cell_of_heap hbox 6
      have z0 := Lib.frozen_of_heap hbox 0
      have z1 := Lib.frozen_of_heap hbox 1
      have z2 := Lib.frozen_of_heap hbox 2
      have z3 := Lib.frozen_of_heap hbox 3
      have z4 := Lib.frozen_of_heap hbox 4
      have z5 := Lib.frozen_of_heap hbox 5
      have z6 := Lib.frozen_of_heap hbox 6
      obtain ⟨WZ, hWZ⟩ : ∃ WZ, WZ = wZero wc b0 := ⟨_, rfl⟩
      have hxz : WZ.heap[b0]? = some (.cells #[.string ⟨#[]⟩, .slice none 0 0, .string ⟨#[]⟩, .string ⟨#[]⟩, .bool false, .bool false, .bool false] 66 (0, 0)) := by rw [hWZ]; exact wZero_heap hbox
      have HRz : Hid (RdB b0 w2 [] vo' (L.length + 1) WZ) := Lib.hid (by rw [hWZ]; exact ⟨⟨none, 0, 0, _, _, _, _, _, [], wZero_heap hbox, Nat.zero_le _, ⟨rfl, .inl ⟨rfl, rfl⟩⟩⟩, ⟨_, _, hno, ownsRow_heap hout (fun k hk => wZero_other _ _ k (by have := (hout.lt k hk).1; omega))⟩, wZero_below hbel (Nat.le_refl _), by rw [wZero_size]; exact hsz⟩)
      have HBelw := Lib.hid hbel
      clear hbox hwords hout hbel hsz hnw hno
      go_upto_region 20 with fail
      go_cut [13] from 34 to 187 (fun s13 wx => s13 = .bool (op == [59] || L.isEmpty) ∧ wx = wc)
      case first =>
        cases hop : (op == [59]) with
        | true =>
          have HOP := Lib.hid hop
          go_wp2_with fail
          go_meet
          exact ⟨by rw [HOP.out]; rfl, rfl⟩
        | false =>
          have HOP := Lib.hid hop
          cases hl0 : ((L.length : Int) == 0) with
          | true =>
            have HEm : Hid (L.isEmpty = true) := Lib.hid (by
              have h0 : L = [] := List.eq_nil_of_length_eq_zero (by rw [beq_iff_eq] at hl0; omega)
              rw [h0]; rfl)
            go_wp2_with fail
            go_meet
            exact ⟨by rw [HOP.out, HEm.out]; rfl, rfl⟩
          | false =>
            have HEm : Hid (L.isEmpty = false) := Lib.hid (by
              cases L with
              | nil => simp at hl0
              | cons _ _ => rfl)
            go_wp2_with fail
            go_meet
            exact ⟨by rw [HOP.out, HEm.out]; rfl, rfl⟩
      case rest =>
        obtain ⟨rfl, rfl⟩ := hcut
        generalize hlast : (op == [59] || L.isEmpty) = last
        have HEn : Hid (RdE L (L.length + 1) (form || (!sm && !last)) false []) := Lib.hid (by have := HE.out.finish; rw [hlast] at this; exact this)
        clear hlast
        go_upto_region 21 with fail
        go_cut [8] from 34 to 187 (fun s8 wx => s8 = .bool (form || (!sm && !last)) ∧ wx = wc)
        case first =>
          cases form <;> cases sm <;> cases last
          all_goals (
            go_wp2_with fail
            go_meet
            exact ⟨rfl, rfl⟩)
        case rest =>
          obtain ⟨rfl, rfl⟩ := hcut
          rw [hWZ] at HRz
          unfold wZero at HRz
          clear hxz hWZ
          generalize (form || (!sm && !last)) = form2 at HEn
          go_wp2
          exact rdPost_of (L.length + 1) form2 false (by go_num) (by omega) (by omega) HRz HEn
end Go.Proofs.YtmagggflamdahaaGreatDoor
