/- bobstayref17.Read: a round over '&' or '|'. Printed by wip/genrd.py. bobstayref17.Read: a round over '<', '>', '>>' that is wrong. Printed by wip/genrd.py. bobstayref17.Read: a round over '<'. Printed by wip/genrd.py. bobstayref17.Read: a round over '>' or '>>'. Printed by wip/genrd.py. bobstayref17.Read: its walk. -/
import Derived.Test.YtmagggflamdahaaGreatDoorSs
namespace Go.Proofs.YtmagggflamdahaaGreatDoor
open Go.RowKit

set_option maxHeartbeats 32000000 in
set_option maxRecDepth 1000000 in
theorem rd_amp {s : ByteArray} {L : List (List UInt8)} {w2 wr : World} {b0 i : Nat} {aL aF : Option Addr} {cL cF : Nat} {form sm : Bool} {vo : Value} {op : List UInt8} {Q0 : Exit → Act → World → Prop} {c0 c1 c4 c5 c18 c19 c20 c21 c22 c23 c24 c25 c26 c27 c28 c29 c30 c31 c32 c33 c188 c189 u2 u3 u13 u14 u15 u16 u17 u34 u35 u36 u37 u38 u39 u40 u41 u42 u43 u44 u45 u46 u47 u48 u49 u50 u51 u52 u53 u54 u55 u56 u57 u58 u59 u60 u61 u62 u63 u64 u65 u66 u67 u68 u69 u70 u71 u72 u73 u74 u75 u76 u77 u78 u79 u80 u81 u82 u83 u84 u85 u86 u87 u88 u89 u90 u91 u92 u93 u94 u95 u96 u97 u98 u99 u100 u101 u102 u103 u104 u105 u106 u107 u108 u109 u110 u111 u112 u113 u114 u115 u116 u117 u118 u119 u120 u121 u122 u123 u124 u125 u126 u127 u128 u129 u130 u131 u132 u133 u134 u135 u136 u137 u138 u139 u140 u141 u142 u143 u144 u145 u146 u147 u148 u149 u150 u151 u152 u153 u154 u155 u156 u157 u158 u159 u160 u161 u162 u163 u164 u165 u166 u167 u168 u169 u170 u171 u172 u173 u174 u175 u176 u177 u178 u179 u180 u181 u182 u183 u184 u185 u186 u187 : Value}
    (H : RdC s L w2 b0 aL aF cL cF) (HR : Hid (RdB b0 w2 op vo i wr)) (HE : Hid (RdE L i form sm op)) {t : List UInt8} (ht : L[i]? = some t) (hfl : flagT t = true) (hA : t = [38] ∨ t = [124]) :
    Code.wp Tryz.prog rdBody (Exit.then (RdPost L b0 w2 (L.length + 2 - i) c0 c1 c4 c5 (.slice aL L.length cL) (.slice aF L.length cF) (.pointer (some ⟨b0, 0, none⟩)) c18 c19 c20 c21 c22 c23 c24 c25 c26 c27 c28 c29 c30 c31 c32 c33 c188 c189) (Q0)) ⟨#[c0, c1, u2, u3, c4, c5, .slice aL L.length cL, .slice aF L.length cF, .bool form, vo, .pointer (some ⟨b0, 0, none⟩), .bool sm, .int .i64 i, u13, u14, u15, u16, u17, c18, c19, c20, c21, c22, c23, c24, c25, c26, c27, c28, c29, c30, c31, c32, c33, u34, u35, u36, u37, u38, u39, u40, u41, u42, u43, u44, u45, u46, u47, u48, u49, u50, u51, u52, u53, u54, u55, u56, u57, u58, u59, u60, u61, u62, u63, u64, u65, u66, u67, u68, u69, u70, u71, u72, u73, u74, u75, u76, u77, u78, u79, u80, u81, u82, u83, u84, u85, u86, u87, u88, u89, u90, u91, u92, u93, u94, u95, u96, u97, u98, u99, u100, u101, u102, u103, u104, u105, u106, u107, u108, u109, u110, u111, u112, u113, u114, u115, u116, u117, u118, u119, u120, u121, u122, u123, u124, u125, u126, u127, u128, u129, u130, u131, u132, u133, u134, u135, u136, u137, u138, u139, u140, u141, u142, u143, u144, u145, u146, u147, u148, u149, u150, u151, u152, u153, u154, u155, u156, u157, u158, u159, u160, u161, u162, u163, u164, u165, u166, u167, u168, u169, u170, u171, u172, u173, u174, u175, u176, u177, u178, u179, u180, u181, u182, u183, u184, u185, u186, u187, c188, c189], []⟩ wr := by
  conv => arg 2; whnf
  obtain ⟨i0, hi0, hz0, hz1, hz2⟩ := info_parts strInfo
  obtain ⟨k0, hk0, hc0, hc1, hc2⟩ := info_parts rcmdInfo
  have HLen := Lib.hid H.len
  have hLen := H.len
  have HB0 := Lib.hid H.base
  have HLL := Lib.hid H.toks
  have HBig : Hid (s.data.toList.length ≤ 65536) := Lib.hid (by have := H.big; simpa using this)
  obtain ⟨⟨aw, nw, cw, x2, x3, b4, b5, b6, xw, hbox, hnw, hwords⟩, ⟨no, xo, hno, hout⟩, hbel, hsz⟩ := HR.out
  have HBox := Lib.hid hbox
  have HWords := Lib.hid hwords
  have HOut := Lib.hid hout
  have HBel := Lib.hid hbel
  have HSz := Lib.hid hsz
  have y0 : wr.cell? ⟨b0, 0, none⟩ = some (.string ⟨op.toArray⟩) := Lib.cell_of_heap hbox 0
  have y1 : wr.cell? ⟨b0, 1, none⟩ = some (.slice aw nw cw) := Lib.cell_of_heap hbox 1
  have y2 : wr.cell? ⟨b0, 2, none⟩ = some (.string x2) := Lib.cell_of_heap hbox 2
  have y3 : wr.cell? ⟨b0, 3, none⟩ = some (.string x3) := Lib.cell_of_heap hbox 3
  have y4 : wr.cell? ⟨b0, 4, none⟩ = some (.bool b4) := Lib.cell_of_heap hbox 4
  have y5 : wr.cell? ⟨b0, 5, none⟩ = some (.bool b5) := Lib.cell_of_heap hbox 5
  have y6 : wr.cell? ⟨b0, 6, none⟩ = some (.bool b6) := Lib.cell_of_heap hbox 6
  have z0 := Lib.frozen_of_heap hbox 0
  have z1 := Lib.frozen_of_heap hbox 1
  have z2 := Lib.frozen_of_heap hbox 2
  have z3 := Lib.frozen_of_heap hbox 3
  have z4 := Lib.frozen_of_heap hbox 4
  have z5 := Lib.frozen_of_heap hbox 5
  have z6 := Lib.frozen_of_heap hbox 6
  clear hbox hwords hout hbel hsz
  have hlt : i < L.length := get_lt ht
  have HT := Lib.hid ht
  obtain ⟨gL, cL', gF, cF', he1, he2, hgL, hgF, hcL2, hcF2⟩ := H.rows i t ht
  simp only [Value.slice.injEq] at he1 he2
  obtain ⟨rfl, -, rfl⟩ := he1
  obtain ⟨rfl, -, rfl⟩ := he2
  have hcL : wr.cell? ⟨gL, i, none⟩ = some (.string ⟨t.toArray⟩) := (World.cell?_of_block (w := w2) (HBel.out.block gL (by rw [HB0.out]; exact hgL))).trans hcL2
  have hcF : wr.cell? ⟨gF, i, none⟩ = some (.bool (flagT t)) := (World.cell?_of_block (w := w2) (HBel.out.block gF (by rw [HB0.out]; exact hgF))).trans hcF2
  have hgL2 : gL < b0 := by rw [HB0.out]; exact hgL
  have hil : ((i : Int) == (L.length : Int)) = false := beq_eq_false_iff_ne.2 (by omega)
  have hle : (i : Int) ≤ (L.length : Int) := by omega
  have hnl : (i : Int) < (L.length : Int) := by omega
  rw [hfl] at hcF
  clear H ht hfl
  have HEn : Hid (RdE L (i + 1) true sm op) := Lib.hid (HE.out.amp HT.out hA)
  have HR2 : Hid (RdB b0 w2 op vo (i + 1) wr) := Lib.hid (HR.out.more (by omega))
  rcases hA with rfl | rfl
  all_goals (
    go_wp2
    exact rdPost_of (i + 1) true sm (by go_num) (by omega) (by omega) HR2 HEn)
end Go.Proofs.YtmagggflamdahaaGreatDoor

namespace Go.Proofs.YtmagggflamdahaaGreatDoor
open Go.RowKit

set_option maxHeartbeats 32000000 in
set_option maxRecDepth 1000000 in
theorem rd_bad1 {s : ByteArray} {L : List (List UInt8)} {w2 wr : World} {b0 i : Nat} {aL aF : Option Addr} {cL cF : Nat} {form sm : Bool} {vo : Value} {op : List UInt8} {K : Act → World → Prop} {w : World} {n : Nat} {c0 c1 c4 c5 c18 c19 c20 c21 c22 c23 c24 c25 c26 c27 c28 c29 c30 c31 c32 c33 c188 c189 u2 u3 u13 u14 u15 u16 u17 u34 u35 u36 u37 u38 u39 u40 u41 u42 u43 u44 u45 u46 u47 u48 u49 u50 u51 u52 u53 u54 u55 u56 u57 u58 u59 u60 u61 u62 u63 u64 u65 u66 u67 u68 u69 u70 u71 u72 u73 u74 u75 u76 u77 u78 u79 u80 u81 u82 u83 u84 u85 u86 u87 u88 u89 u90 u91 u92 u93 u94 u95 u96 u97 u98 u99 u100 u101 u102 u103 u104 u105 u106 u107 u108 u109 u110 u111 u112 u113 u114 u115 u116 u117 u118 u119 u120 u121 u122 u123 u124 u125 u126 u127 u128 u129 u130 u131 u132 u133 u134 u135 u136 u137 u138 u139 u140 u141 u142 u143 u144 u145 u146 u147 u148 u149 u150 u151 u152 u153 u154 u155 u156 u157 u158 u159 u160 u161 u162 u163 u164 u165 u166 u167 u168 u169 u170 u171 u172 u173 u174 u175 u176 u177 u178 u179 u180 u181 u182 u183 u184 u185 u186 u187 : Value}
    (H : RdC s L w2 b0 aL aF cL cF) (HR : Hid (RdB b0 w2 op vo i wr)) {t : List UInt8} (ht : L[i]? = some t) (hfl : flagT t = true) (hR : t = [60] ∨ t = [62] ∨ t = [62, 62]) (HN : Hid (n = 4)) (HBf : Hid (Below w.heap.size w wr)) (hend : i + 1 = L.length) :
    Code.wp Tryz.prog rdBody (Exit.then (RdPost L b0 w2 (L.length + 2 - i) c0 c1 c4 c5 (.slice aL L.length cL) (.slice aF L.length cF) (.pointer (some ⟨b0, 0, none⟩)) c18 c19 c20 c21 c22 c23 c24 c25 c26 c27 c28 c29 c30 c31 c32 c33 c188 c189) (Exit.inBlock 0 (Exit.then K (bodyPost Tryz.prog Tryz.f8 (RdQ n w))))) ⟨#[c0, c1, u2, u3, c4, c5, .slice aL L.length cL, .slice aF L.length cF, .bool form, vo, .pointer (some ⟨b0, 0, none⟩), .bool sm, .int .i64 i, u13, u14, u15, u16, u17, c18, c19, c20, c21, c22, c23, c24, c25, c26, c27, c28, c29, c30, c31, c32, c33, u34, u35, u36, u37, u38, u39, u40, u41, u42, u43, u44, u45, u46, u47, u48, u49, u50, u51, u52, u53, u54, u55, u56, u57, u58, u59, u60, u61, u62, u63, u64, u65, u66, u67, u68, u69, u70, u71, u72, u73, u74, u75, u76, u77, u78, u79, u80, u81, u82, u83, u84, u85, u86, u87, u88, u89, u90, u91, u92, u93, u94, u95, u96, u97, u98, u99, u100, u101, u102, u103, u104, u105, u106, u107, u108, u109, u110, u111, u112, u113, u114, u115, u116, u117, u118, u119, u120, u121, u122, u123, u124, u125, u126, u127, u128, u129, u130, u131, u132, u133, u134, u135, u136, u137, u138, u139, u140, u141, u142, u143, u144, u145, u146, u147, u148, u149, u150, u151, u152, u153, u154, u155, u156, u157, u158, u159, u160, u161, u162, u163, u164, u165, u166, u167, u168, u169, u170, u171, u172, u173, u174, u175, u176, u177, u178, u179, u180, u181, u182, u183, u184, u185, u186, u187, c188, c189], []⟩ wr := by
  conv => arg 2; whnf
  obtain ⟨i0, hi0, hz0, hz1, hz2⟩ := info_parts strInfo
  obtain ⟨k0, hk0, hc0, hc1, hc2⟩ := info_parts rcmdInfo
  have HLen := Lib.hid H.len
  have hLen := H.len
  have HB0 := Lib.hid H.base
  have HLL := Lib.hid H.toks
  have HBig : Hid (s.data.toList.length ≤ 65536) := Lib.hid (by have := H.big; simpa using this)
  obtain ⟨⟨aw, nw, cw, x2, x3, b4, b5, b6, xw, hbox, hnw, hwords⟩, ⟨no, xo, hno, hout⟩, hbel, hsz⟩ := HR.out
  have HBox := Lib.hid hbox
  have HWords := Lib.hid hwords
  have HOut := Lib.hid hout
  have HBel := Lib.hid hbel
  have HSz := Lib.hid hsz
  have y0 : wr.cell? ⟨b0, 0, none⟩ = some (.string ⟨op.toArray⟩) := Lib.cell_of_heap hbox 0
  have y1 : wr.cell? ⟨b0, 1, none⟩ = some (.slice aw nw cw) := Lib.cell_of_heap hbox 1
  have y2 : wr.cell? ⟨b0, 2, none⟩ = some (.string x2) := Lib.cell_of_heap hbox 2
  have y3 : wr.cell? ⟨b0, 3, none⟩ = some (.string x3) := Lib.cell_of_heap hbox 3
  have y4 : wr.cell? ⟨b0, 4, none⟩ = some (.bool b4) := Lib.cell_of_heap hbox 4
  have y5 : wr.cell? ⟨b0, 5, none⟩ = some (.bool b5) := Lib.cell_of_heap hbox 5
  have y6 : wr.cell? ⟨b0, 6, none⟩ = some (.bool b6) := Lib.cell_of_heap hbox 6
  have z0 := Lib.frozen_of_heap hbox 0
  have z1 := Lib.frozen_of_heap hbox 1
  have z2 := Lib.frozen_of_heap hbox 2
  have z3 := Lib.frozen_of_heap hbox 3
  have z4 := Lib.frozen_of_heap hbox 4
  have z5 := Lib.frozen_of_heap hbox 5
  have z6 := Lib.frozen_of_heap hbox 6
  clear hbox hwords hout hbel hsz
  have hlt : i < L.length := get_lt ht
  have HT := Lib.hid ht
  obtain ⟨gL, cL', gF, cF', he1, he2, hgL, hgF, hcL2, hcF2⟩ := H.rows i t ht
  simp only [Value.slice.injEq] at he1 he2
  obtain ⟨rfl, -, rfl⟩ := he1
  obtain ⟨rfl, -, rfl⟩ := he2
  have hcL : wr.cell? ⟨gL, i, none⟩ = some (.string ⟨t.toArray⟩) := (World.cell?_of_block (w := w2) (HBel.out.block gL (by rw [HB0.out]; exact hgL))).trans hcL2
  have hcF : wr.cell? ⟨gF, i, none⟩ = some (.bool (flagT t)) := (World.cell?_of_block (w := w2) (HBel.out.block gF (by rw [HB0.out]; exact hgF))).trans hcF2
  have hgL2 : gL < b0 := by rw [HB0.out]; exact hgL
  have hil : ((i : Int) == (L.length : Int)) = false := beq_eq_false_iff_ne.2 (by omega)
  have hle : (i : Int) ≤ (L.length : Int) := by omega
  have hnl : (i : Int) < (L.length : Int) := by omega
  rw [hfl] at hcF
  have hil2 : ((i : Int) + 1 == (L.length : Int)) = true := beq_iff_eq.2 (by omega)
  clear H ht hfl hend
  rcases hR with rfl | rfl | rfl
  all_goals (
    go_wp2
    go_ret2
    exact ⟨_, by rw [HN.out]; rfl, HBf.out⟩)
set_option maxHeartbeats 32000000 in
set_option maxRecDepth 1000000 in
theorem rd_bad2 {s : ByteArray} {L : List (List UInt8)} {w2 wr : World} {b0 i : Nat} {aL aF : Option Addr} {cL cF : Nat} {form sm : Bool} {vo : Value} {op : List UInt8} {K : Act → World → Prop} {w : World} {n : Nat} {c0 c1 c4 c5 c18 c19 c20 c21 c22 c23 c24 c25 c26 c27 c28 c29 c30 c31 c32 c33 c188 c189 u2 u3 u13 u14 u15 u16 u17 u34 u35 u36 u37 u38 u39 u40 u41 u42 u43 u44 u45 u46 u47 u48 u49 u50 u51 u52 u53 u54 u55 u56 u57 u58 u59 u60 u61 u62 u63 u64 u65 u66 u67 u68 u69 u70 u71 u72 u73 u74 u75 u76 u77 u78 u79 u80 u81 u82 u83 u84 u85 u86 u87 u88 u89 u90 u91 u92 u93 u94 u95 u96 u97 u98 u99 u100 u101 u102 u103 u104 u105 u106 u107 u108 u109 u110 u111 u112 u113 u114 u115 u116 u117 u118 u119 u120 u121 u122 u123 u124 u125 u126 u127 u128 u129 u130 u131 u132 u133 u134 u135 u136 u137 u138 u139 u140 u141 u142 u143 u144 u145 u146 u147 u148 u149 u150 u151 u152 u153 u154 u155 u156 u157 u158 u159 u160 u161 u162 u163 u164 u165 u166 u167 u168 u169 u170 u171 u172 u173 u174 u175 u176 u177 u178 u179 u180 u181 u182 u183 u184 u185 u186 u187 : Value}
    (H : RdC s L w2 b0 aL aF cL cF) (HR : Hid (RdB b0 w2 op vo i wr)) {t : List UInt8} (ht : L[i]? = some t) (hfl : flagT t = true) (hR : t = [60] ∨ t = [62] ∨ t = [62, 62]) (HN : Hid (n = 4)) (HBf : Hid (Below w.heap.size w wr)) {u : List UInt8} (hu : L[i + 1]? = some u) (hfu : flagT u = true) :
    Code.wp Tryz.prog rdBody (Exit.then (RdPost L b0 w2 (L.length + 2 - i) c0 c1 c4 c5 (.slice aL L.length cL) (.slice aF L.length cF) (.pointer (some ⟨b0, 0, none⟩)) c18 c19 c20 c21 c22 c23 c24 c25 c26 c27 c28 c29 c30 c31 c32 c33 c188 c189) (Exit.inBlock 0 (Exit.then K (bodyPost Tryz.prog Tryz.f8 (RdQ n w))))) ⟨#[c0, c1, u2, u3, c4, c5, .slice aL L.length cL, .slice aF L.length cF, .bool form, vo, .pointer (some ⟨b0, 0, none⟩), .bool sm, .int .i64 i, u13, u14, u15, u16, u17, c18, c19, c20, c21, c22, c23, c24, c25, c26, c27, c28, c29, c30, c31, c32, c33, u34, u35, u36, u37, u38, u39, u40, u41, u42, u43, u44, u45, u46, u47, u48, u49, u50, u51, u52, u53, u54, u55, u56, u57, u58, u59, u60, u61, u62, u63, u64, u65, u66, u67, u68, u69, u70, u71, u72, u73, u74, u75, u76, u77, u78, u79, u80, u81, u82, u83, u84, u85, u86, u87, u88, u89, u90, u91, u92, u93, u94, u95, u96, u97, u98, u99, u100, u101, u102, u103, u104, u105, u106, u107, u108, u109, u110, u111, u112, u113, u114, u115, u116, u117, u118, u119, u120, u121, u122, u123, u124, u125, u126, u127, u128, u129, u130, u131, u132, u133, u134, u135, u136, u137, u138, u139, u140, u141, u142, u143, u144, u145, u146, u147, u148, u149, u150, u151, u152, u153, u154, u155, u156, u157, u158, u159, u160, u161, u162, u163, u164, u165, u166, u167, u168, u169, u170, u171, u172, u173, u174, u175, u176, u177, u178, u179, u180, u181, u182, u183, u184, u185, u186, u187, c188, c189], []⟩ wr := by
  conv => arg 2; whnf
  obtain ⟨i0, hi0, hz0, hz1, hz2⟩ := info_parts strInfo
  obtain ⟨k0, hk0, hc0, hc1, hc2⟩ := info_parts rcmdInfo
  have HLen := Lib.hid H.len
  have hLen := H.len
  have HB0 := Lib.hid H.base
  have HLL := Lib.hid H.toks
  have HBig : Hid (s.data.toList.length ≤ 65536) := Lib.hid (by have := H.big; simpa using this)
  obtain ⟨⟨aw, nw, cw, x2, x3, b4, b5, b6, xw, hbox, hnw, hwords⟩, ⟨no, xo, hno, hout⟩, hbel, hsz⟩ := HR.out
  have HBox := Lib.hid hbox
  have HWords := Lib.hid hwords
  have HOut := Lib.hid hout
  have HBel := Lib.hid hbel
  have HSz := Lib.hid hsz
  have y0 : wr.cell? ⟨b0, 0, none⟩ = some (.string ⟨op.toArray⟩) := Lib.cell_of_heap hbox 0
  have y1 : wr.cell? ⟨b0, 1, none⟩ = some (.slice aw nw cw) := Lib.cell_of_heap hbox 1
  have y2 : wr.cell? ⟨b0, 2, none⟩ = some (.string x2) := Lib.cell_of_heap hbox 2
  have y3 : wr.cell? ⟨b0, 3, none⟩ = some (.string x3) := Lib.cell_of_heap hbox 3
  have y4 : wr.cell? ⟨b0, 4, none⟩ = some (.bool b4) := Lib.cell_of_heap hbox 4
  have y5 : wr.cell? ⟨b0, 5, none⟩ = some (.bool b5) := Lib.cell_of_heap hbox 5
  have y6 : wr.cell? ⟨b0, 6, none⟩ = some (.bool b6) := Lib.cell_of_heap hbox 6
  have z0 := Lib.frozen_of_heap hbox 0
  have z1 := Lib.frozen_of_heap hbox 1
  have z2 := Lib.frozen_of_heap hbox 2
  have z3 := Lib.frozen_of_heap hbox 3
  have z4 := Lib.frozen_of_heap hbox 4
  have z5 := Lib.frozen_of_heap hbox 5
  have z6 := Lib.frozen_of_heap hbox 6
  clear hbox hwords hout hbel hsz
  have hlt : i < L.length := get_lt ht
  have HT := Lib.hid ht
  obtain ⟨gL, cL', gF, cF', he1, he2, hgL, hgF, hcL2, hcF2⟩ := H.rows i t ht
  simp only [Value.slice.injEq] at he1 he2
  obtain ⟨rfl, -, rfl⟩ := he1
  obtain ⟨rfl, -, rfl⟩ := he2
  have hcL : wr.cell? ⟨gL, i, none⟩ = some (.string ⟨t.toArray⟩) := (World.cell?_of_block (w := w2) (HBel.out.block gL (by rw [HB0.out]; exact hgL))).trans hcL2
  have hcF : wr.cell? ⟨gF, i, none⟩ = some (.bool (flagT t)) := (World.cell?_of_block (w := w2) (HBel.out.block gF (by rw [HB0.out]; exact hgF))).trans hcF2
  have hgL2 : gL < b0 := by rw [HB0.out]; exact hgL
  have hil : ((i : Int) == (L.length : Int)) = false := beq_eq_false_iff_ne.2 (by omega)
  have hle : (i : Int) ≤ (L.length : Int) := by omega
  have hnl : (i : Int) < (L.length : Int) := by omega
  have HU := Lib.hid hu
  obtain ⟨gL2, cL2', gF2, cF2', he1, he2, hgL2', hgF2', hcU2, hcG2⟩ := H.rows (i + 1) u hu
  simp only [Value.slice.injEq, Option.some.injEq, Addr.mk.injEq, and_true] at he1 he2
  obtain ⟨rfl, -⟩ := he1
  obtain ⟨rfl, -⟩ := he2
  have hcU : wr.cell? ⟨gL, i + 1, none⟩ = some (.string ⟨u.toArray⟩) := (World.cell?_of_block (w := w2) (HBel.out.block gL (by rw [HB0.out]; exact hgL))).trans hcU2
  have hcG : wr.cell? ⟨gF, i + 1, none⟩ = some (.bool (flagT u)) := (World.cell?_of_block (w := w2) (HBel.out.block gF (by rw [HB0.out]; exact hgF))).trans hcG2
  have hi1 : i + 1 < L.length := get_lt hu
  have hil2 : ((i : Int) + 1 == (L.length : Int)) = false := beq_eq_false_iff_ne.2 (by omega)
  have hnl2 : (i : Int) + 1 < (L.length : Int) := by omega
  have h01 : 0 ≤ (i : Int) + 1 := by omega
  have hto : ((i : Int) + 1).toNat = i + 1 := by omega
  rw [hfl] at hcF
  rw [hfu] at hcG
  clear H ht hfl hu hfu
  rcases hR with rfl | rfl | rfl
  all_goals (
    go_wp2
    go_ret2
    exact ⟨_, by rw [HN.out]; rfl, HBf.out⟩)
end Go.Proofs.YtmagggflamdahaaGreatDoor

namespace Go.Proofs.YtmagggflamdahaaGreatDoor
open Go.RowKit

set_option maxHeartbeats 32000000 in
set_option maxRecDepth 1000000 in
theorem rd_in {s : ByteArray} {L : List (List UInt8)} {w2 wr : World} {b0 i : Nat} {aL aF : Option Addr} {cL cF : Nat} {form sm : Bool} {vo : Value} {op : List UInt8} {Q0 : Exit → Act → World → Prop} {c0 c1 c4 c5 c18 c19 c20 c21 c22 c23 c24 c25 c26 c27 c28 c29 c30 c31 c32 c33 c188 c189 u2 u3 u13 u14 u15 u16 u17 u34 u35 u36 u37 u38 u39 u40 u41 u42 u43 u44 u45 u46 u47 u48 u49 u50 u51 u52 u53 u54 u55 u56 u57 u58 u59 u60 u61 u62 u63 u64 u65 u66 u67 u68 u69 u70 u71 u72 u73 u74 u75 u76 u77 u78 u79 u80 u81 u82 u83 u84 u85 u86 u87 u88 u89 u90 u91 u92 u93 u94 u95 u96 u97 u98 u99 u100 u101 u102 u103 u104 u105 u106 u107 u108 u109 u110 u111 u112 u113 u114 u115 u116 u117 u118 u119 u120 u121 u122 u123 u124 u125 u126 u127 u128 u129 u130 u131 u132 u133 u134 u135 u136 u137 u138 u139 u140 u141 u142 u143 u144 u145 u146 u147 u148 u149 u150 u151 u152 u153 u154 u155 u156 u157 u158 u159 u160 u161 u162 u163 u164 u165 u166 u167 u168 u169 u170 u171 u172 u173 u174 u175 u176 u177 u178 u179 u180 u181 u182 u183 u184 u185 u186 u187 : Value}
    (H : RdC s L w2 b0 aL aF cL cF) (HR : Hid (RdB b0 w2 op vo i wr)) (HE : Hid (RdE L i form sm op)) (ht : L[i]? = some [60]) (hfl : flagT [60] = true) {u : List UInt8} (hu : L[i + 1]? = some u) (hfu : flagT u = false) :
    Code.wp Tryz.prog rdBody (Exit.then (RdPost L b0 w2 (L.length + 2 - i) c0 c1 c4 c5 (.slice aL L.length cL) (.slice aF L.length cF) (.pointer (some ⟨b0, 0, none⟩)) c18 c19 c20 c21 c22 c23 c24 c25 c26 c27 c28 c29 c30 c31 c32 c33 c188 c189) (Q0)) ⟨#[c0, c1, u2, u3, c4, c5, .slice aL L.length cL, .slice aF L.length cF, .bool form, vo, .pointer (some ⟨b0, 0, none⟩), .bool sm, .int .i64 i, u13, u14, u15, u16, u17, c18, c19, c20, c21, c22, c23, c24, c25, c26, c27, c28, c29, c30, c31, c32, c33, u34, u35, u36, u37, u38, u39, u40, u41, u42, u43, u44, u45, u46, u47, u48, u49, u50, u51, u52, u53, u54, u55, u56, u57, u58, u59, u60, u61, u62, u63, u64, u65, u66, u67, u68, u69, u70, u71, u72, u73, u74, u75, u76, u77, u78, u79, u80, u81, u82, u83, u84, u85, u86, u87, u88, u89, u90, u91, u92, u93, u94, u95, u96, u97, u98, u99, u100, u101, u102, u103, u104, u105, u106, u107, u108, u109, u110, u111, u112, u113, u114, u115, u116, u117, u118, u119, u120, u121, u122, u123, u124, u125, u126, u127, u128, u129, u130, u131, u132, u133, u134, u135, u136, u137, u138, u139, u140, u141, u142, u143, u144, u145, u146, u147, u148, u149, u150, u151, u152, u153, u154, u155, u156, u157, u158, u159, u160, u161, u162, u163, u164, u165, u166, u167, u168, u169, u170, u171, u172, u173, u174, u175, u176, u177, u178, u179, u180, u181, u182, u183, u184, u185, u186, u187, c188, c189], []⟩ wr := by
  conv => arg 2; whnf
  have HR0 : ([60] : List UInt8) = [60] ∨ ([60] : List UInt8) = [62] ∨ ([60] : List UInt8) = [62, 62] := by decide
  obtain ⟨i0, hi0, hz0, hz1, hz2⟩ := info_parts strInfo
  obtain ⟨k0, hk0, hc0, hc1, hc2⟩ := info_parts rcmdInfo
  have HLen := Lib.hid H.len
  have hLen := H.len
  have HB0 := Lib.hid H.base
  have HLL := Lib.hid H.toks
  have HBig : Hid (s.data.toList.length ≤ 65536) := Lib.hid (by have := H.big; simpa using this)
  obtain ⟨⟨aw, nw, cw, x2, x3, b4, b5, b6, xw, hbox, hnw, hwords⟩, ⟨no, xo, hno, hout⟩, hbel, hsz⟩ := HR.out
  have HBox := Lib.hid hbox
  have HWords := Lib.hid hwords
  have HOut := Lib.hid hout
  have HBel := Lib.hid hbel
  have HSz := Lib.hid hsz
  have y0 : wr.cell? ⟨b0, 0, none⟩ = some (.string ⟨op.toArray⟩) := Lib.cell_of_heap hbox 0
  have y1 : wr.cell? ⟨b0, 1, none⟩ = some (.slice aw nw cw) := Lib.cell_of_heap hbox 1
  have y2 : wr.cell? ⟨b0, 2, none⟩ = some (.string x2) := Lib.cell_of_heap hbox 2
  have y3 : wr.cell? ⟨b0, 3, none⟩ = some (.string x3) := Lib.cell_of_heap hbox 3
  have y4 : wr.cell? ⟨b0, 4, none⟩ = some (.bool b4) := Lib.cell_of_heap hbox 4
  have y5 : wr.cell? ⟨b0, 5, none⟩ = some (.bool b5) := Lib.cell_of_heap hbox 5
  have y6 : wr.cell? ⟨b0, 6, none⟩ = some (.bool b6) := Lib.cell_of_heap hbox 6
  have z0 := Lib.frozen_of_heap hbox 0
  have z1 := Lib.frozen_of_heap hbox 1
  have z2 := Lib.frozen_of_heap hbox 2
  have z3 := Lib.frozen_of_heap hbox 3
  have z4 := Lib.frozen_of_heap hbox 4
  have z5 := Lib.frozen_of_heap hbox 5
  have z6 := Lib.frozen_of_heap hbox 6
  clear hbox hwords hout hbel hsz
  have hlt : i < L.length := get_lt ht
  have HT := Lib.hid ht
  obtain ⟨gL, cL', gF, cF', he1, he2, hgL, hgF, hcL2, hcF2⟩ := H.rows i ([60] : List UInt8) ht
  simp only [Value.slice.injEq] at he1 he2
  obtain ⟨rfl, -, rfl⟩ := he1
  obtain ⟨rfl, -, rfl⟩ := he2
  have hcL : wr.cell? ⟨gL, i, none⟩ = some (.string ⟨([60] : List UInt8).toArray⟩) := (World.cell?_of_block (w := w2) (HBel.out.block gL (by rw [HB0.out]; exact hgL))).trans hcL2
  have hcF : wr.cell? ⟨gF, i, none⟩ = some (.bool (flagT ([60] : List UInt8))) := (World.cell?_of_block (w := w2) (HBel.out.block gF (by rw [HB0.out]; exact hgF))).trans hcF2
  have hgL2 : gL < b0 := by rw [HB0.out]; exact hgL
  have hil : ((i : Int) == (L.length : Int)) = false := beq_eq_false_iff_ne.2 (by omega)
  have hle : (i : Int) ≤ (L.length : Int) := by omega
  have hnl : (i : Int) < (L.length : Int) := by omega
  have HU := Lib.hid hu
  obtain ⟨gL2, cL2', gF2, cF2', he1, he2, hgL2', hgF2', hcU2, hcG2⟩ := H.rows (i + 1) u hu
  simp only [Value.slice.injEq, Option.some.injEq, Addr.mk.injEq, and_true] at he1 he2
  obtain ⟨rfl, -⟩ := he1
  obtain ⟨rfl, -⟩ := he2
  have hcU : wr.cell? ⟨gL, i + 1, none⟩ = some (.string ⟨u.toArray⟩) := (World.cell?_of_block (w := w2) (HBel.out.block gL (by rw [HB0.out]; exact hgL))).trans hcU2
  have hcG : wr.cell? ⟨gF, i + 1, none⟩ = some (.bool (flagT u)) := (World.cell?_of_block (w := w2) (HBel.out.block gF (by rw [HB0.out]; exact hgF))).trans hcG2
  have hi1 : i + 1 < L.length := get_lt hu
  have hil2 : ((i : Int) + 1 == (L.length : Int)) = false := beq_eq_false_iff_ne.2 (by omega)
  have hnl2 : (i : Int) + 1 < (L.length : Int) := by omega
  have h01 : 0 ≤ (i : Int) + 1 := by omega
  have hto : ((i : Int) + 1).toNat = i + 1 := by omega
  rw [hfl] at hcF
  have HEn : Hid (RdE L (i + 2) form true op) := Lib.hid (HE.out.redir ht HR0 hu hfu (H.ops u (List.mem_of_getElem? hu)).1)
  rw [hfu] at hcG
  have HMn := Lib.hid (fun (x : ByteArray) (hx : x.size ≤ 1073741824) (w : World) => refMean_any x hx w)
  have HTl : Hid (u.length ≤ 65536) := Lib.hid (by have := HBig.out; have := (toks_all s.data.toList.length s.data.toList L (Nat.le_refl _) HLL.out u (List.mem_of_getElem? HU.out)).2; omega)
  have hgLr : gL < wr.heap.size := by have := HSz.out; omega
  clear H ht hfl hu hfu
  go_wp2_with fail
  go_at_call 26
  refine (HMn.out ⟨u.toArray⟩ (by show u.toArray.size ≤ _; simp; have := HTl.out; omega) wr).mono ?_
  rintro e w3 ⟨m, k, rfl, hb3⟩
  have hR3 := (HR.out.below' hb3).more (show i ≤ i + 2 by omega)
  have HR3 := Lib.hid hR3
  have hcL3 : w3.cell? ⟨gL, i, none⟩ = some (.string ⟨([60] : List UInt8).toArray⟩) := (World.cell?_of_block (w := wr) (hb3.block gL hgLr)).trans hcL
  obtain ⟨⟨aw3, nw3, cw3, v2, v3, d4, d5, d6, xw3, hbox3, _, _⟩, _, _, _⟩ := hR3
  have y2' : w3.cell? ⟨b0, 2, none⟩ = some (.string v2) := Lib.cell_of_heap hbox3 2
  have y3' : w3.cell? ⟨b0, 3, none⟩ = some (.string v3) := Lib.cell_of_heap hbox3 3
  have y4' : w3.cell? ⟨b0, 4, none⟩ = some (.bool d4) := Lib.cell_of_heap hbox3 4
  have y5' : w3.cell? ⟨b0, 5, none⟩ = some (.bool d5) := Lib.cell_of_heap hbox3 5
  have y6' : w3.cell? ⟨b0, 6, none⟩ = some (.bool d6) := Lib.cell_of_heap hbox3 6
  have z2' := Lib.frozen_of_heap hbox3 2
  have z3' := Lib.frozen_of_heap hbox3 3
  have z4' := Lib.frozen_of_heap hbox3 4
  have z5' := Lib.frozen_of_heap hbox3 5
  have z6' := Lib.frozen_of_heap hbox3 6
  clear y0 y1 y2 y3 y4 y5 y6 z0 z1 z2 z3 z4 z5 z6 hcL hcF hcU hcG hb3 hbox3
  have HR4 : Hid (RdB b0 w2 op vo (i + 2) ((w3.setCell ⟨b0, 2, none⟩ (.string m)).setCell ⟨b0, 4, none⟩ (.bool true))) := Lib.hid ((HR3.out.setAt 2 (.string m) (.inl ⟨rfl, _, rfl⟩)).setAt 4 (.bool true) (.inr (.inr (.inl ⟨rfl, _, rfl⟩))))
  go_wp2
  exact rdPost_of (i + 2) form true (by go_num) (by omega) (by omega) HR4 HEn
end Go.Proofs.YtmagggflamdahaaGreatDoor

namespace Go.Proofs.YtmagggflamdahaaGreatDoor
open Go.RowKit

set_option maxHeartbeats 32000000 in
set_option maxRecDepth 1000000 in
theorem rd_out1 {s : ByteArray} {L : List (List UInt8)} {w2 wr : World} {b0 i : Nat} {aL aF : Option Addr} {cL cF : Nat} {form sm : Bool} {vo : Value} {op : List UInt8} {Q0 : Exit → Act → World → Prop} {c0 c1 c4 c5 c18 c19 c20 c21 c22 c23 c24 c25 c26 c27 c28 c29 c30 c31 c32 c33 c188 c189 u2 u3 u13 u14 u15 u16 u17 u34 u35 u36 u37 u38 u39 u40 u41 u42 u43 u44 u45 u46 u47 u48 u49 u50 u51 u52 u53 u54 u55 u56 u57 u58 u59 u60 u61 u62 u63 u64 u65 u66 u67 u68 u69 u70 u71 u72 u73 u74 u75 u76 u77 u78 u79 u80 u81 u82 u83 u84 u85 u86 u87 u88 u89 u90 u91 u92 u93 u94 u95 u96 u97 u98 u99 u100 u101 u102 u103 u104 u105 u106 u107 u108 u109 u110 u111 u112 u113 u114 u115 u116 u117 u118 u119 u120 u121 u122 u123 u124 u125 u126 u127 u128 u129 u130 u131 u132 u133 u134 u135 u136 u137 u138 u139 u140 u141 u142 u143 u144 u145 u146 u147 u148 u149 u150 u151 u152 u153 u154 u155 u156 u157 u158 u159 u160 u161 u162 u163 u164 u165 u166 u167 u168 u169 u170 u171 u172 u173 u174 u175 u176 u177 u178 u179 u180 u181 u182 u183 u184 u185 u186 u187 : Value}
    (H : RdC s L w2 b0 aL aF cL cF) (HR : Hid (RdB b0 w2 op vo i wr)) (HE : Hid (RdE L i form sm op)) (ht : L[i]? = some [62]) (hfl : flagT [62] = true) {u : List UInt8} (hu : L[i + 1]? = some u) (hfu : flagT u = false) :
    Code.wp Tryz.prog rdBody (Exit.then (RdPost L b0 w2 (L.length + 2 - i) c0 c1 c4 c5 (.slice aL L.length cL) (.slice aF L.length cF) (.pointer (some ⟨b0, 0, none⟩)) c18 c19 c20 c21 c22 c23 c24 c25 c26 c27 c28 c29 c30 c31 c32 c33 c188 c189) (Q0)) ⟨#[c0, c1, u2, u3, c4, c5, .slice aL L.length cL, .slice aF L.length cF, .bool form, vo, .pointer (some ⟨b0, 0, none⟩), .bool sm, .int .i64 i, u13, u14, u15, u16, u17, c18, c19, c20, c21, c22, c23, c24, c25, c26, c27, c28, c29, c30, c31, c32, c33, u34, u35, u36, u37, u38, u39, u40, u41, u42, u43, u44, u45, u46, u47, u48, u49, u50, u51, u52, u53, u54, u55, u56, u57, u58, u59, u60, u61, u62, u63, u64, u65, u66, u67, u68, u69, u70, u71, u72, u73, u74, u75, u76, u77, u78, u79, u80, u81, u82, u83, u84, u85, u86, u87, u88, u89, u90, u91, u92, u93, u94, u95, u96, u97, u98, u99, u100, u101, u102, u103, u104, u105, u106, u107, u108, u109, u110, u111, u112, u113, u114, u115, u116, u117, u118, u119, u120, u121, u122, u123, u124, u125, u126, u127, u128, u129, u130, u131, u132, u133, u134, u135, u136, u137, u138, u139, u140, u141, u142, u143, u144, u145, u146, u147, u148, u149, u150, u151, u152, u153, u154, u155, u156, u157, u158, u159, u160, u161, u162, u163, u164, u165, u166, u167, u168, u169, u170, u171, u172, u173, u174, u175, u176, u177, u178, u179, u180, u181, u182, u183, u184, u185, u186, u187, c188, c189], []⟩ wr := by
  conv => arg 2; whnf
  have HR0 : ([62] : List UInt8) = [60] ∨ ([62] : List UInt8) = [62] ∨ ([62] : List UInt8) = [62, 62] := by decide
  obtain ⟨i0, hi0, hz0, hz1, hz2⟩ := info_parts strInfo
  obtain ⟨k0, hk0, hc0, hc1, hc2⟩ := info_parts rcmdInfo
  have HLen := Lib.hid H.len
  have hLen := H.len
  have HB0 := Lib.hid H.base
  have HLL := Lib.hid H.toks
  have HBig : Hid (s.data.toList.length ≤ 65536) := Lib.hid (by have := H.big; simpa using this)
  obtain ⟨⟨aw, nw, cw, x2, x3, b4, b5, b6, xw, hbox, hnw, hwords⟩, ⟨no, xo, hno, hout⟩, hbel, hsz⟩ := HR.out
  have HBox := Lib.hid hbox
  have HWords := Lib.hid hwords
  have HOut := Lib.hid hout
  have HBel := Lib.hid hbel
  have HSz := Lib.hid hsz
  have y0 : wr.cell? ⟨b0, 0, none⟩ = some (.string ⟨op.toArray⟩) := Lib.cell_of_heap hbox 0
  have y1 : wr.cell? ⟨b0, 1, none⟩ = some (.slice aw nw cw) := Lib.cell_of_heap hbox 1
  have y2 : wr.cell? ⟨b0, 2, none⟩ = some (.string x2) := Lib.cell_of_heap hbox 2
  have y3 : wr.cell? ⟨b0, 3, none⟩ = some (.string x3) := Lib.cell_of_heap hbox 3
  have y4 : wr.cell? ⟨b0, 4, none⟩ = some (.bool b4) := Lib.cell_of_heap hbox 4
  have y5 : wr.cell? ⟨b0, 5, none⟩ = some (.bool b5) := Lib.cell_of_heap hbox 5
  have y6 : wr.cell? ⟨b0, 6, none⟩ = some (.bool b6) := Lib.cell_of_heap hbox 6
  have z0 := Lib.frozen_of_heap hbox 0
  have z1 := Lib.frozen_of_heap hbox 1
  have z2 := Lib.frozen_of_heap hbox 2
  have z3 := Lib.frozen_of_heap hbox 3
  have z4 := Lib.frozen_of_heap hbox 4
  have z5 := Lib.frozen_of_heap hbox 5
  have z6 := Lib.frozen_of_heap hbox 6
  clear hbox hwords hout hbel hsz
  have hlt : i < L.length := get_lt ht
  have HT := Lib.hid ht
  obtain ⟨gL, cL', gF, cF', he1, he2, hgL, hgF, hcL2, hcF2⟩ := H.rows i ([62] : List UInt8) ht
  simp only [Value.slice.injEq] at he1 he2
  obtain ⟨rfl, -, rfl⟩ := he1
  obtain ⟨rfl, -, rfl⟩ := he2
  have hcL : wr.cell? ⟨gL, i, none⟩ = some (.string ⟨([62] : List UInt8).toArray⟩) := (World.cell?_of_block (w := w2) (HBel.out.block gL (by rw [HB0.out]; exact hgL))).trans hcL2
  have hcF : wr.cell? ⟨gF, i, none⟩ = some (.bool (flagT ([62] : List UInt8))) := (World.cell?_of_block (w := w2) (HBel.out.block gF (by rw [HB0.out]; exact hgF))).trans hcF2
  have hgL2 : gL < b0 := by rw [HB0.out]; exact hgL
  have hil : ((i : Int) == (L.length : Int)) = false := beq_eq_false_iff_ne.2 (by omega)
  have hle : (i : Int) ≤ (L.length : Int) := by omega
  have hnl : (i : Int) < (L.length : Int) := by omega
  have HU := Lib.hid hu
  obtain ⟨gL2, cL2', gF2, cF2', he1, he2, hgL2', hgF2', hcU2, hcG2⟩ := H.rows (i + 1) u hu
  simp only [Value.slice.injEq, Option.some.injEq, Addr.mk.injEq, and_true] at he1 he2
  obtain ⟨rfl, -⟩ := he1
  obtain ⟨rfl, -⟩ := he2
  have hcU : wr.cell? ⟨gL, i + 1, none⟩ = some (.string ⟨u.toArray⟩) := (World.cell?_of_block (w := w2) (HBel.out.block gL (by rw [HB0.out]; exact hgL))).trans hcU2
  have hcG : wr.cell? ⟨gF, i + 1, none⟩ = some (.bool (flagT u)) := (World.cell?_of_block (w := w2) (HBel.out.block gF (by rw [HB0.out]; exact hgF))).trans hcG2
  have hi1 : i + 1 < L.length := get_lt hu
  have hil2 : ((i : Int) + 1 == (L.length : Int)) = false := beq_eq_false_iff_ne.2 (by omega)
  have hnl2 : (i : Int) + 1 < (L.length : Int) := by omega
  have h01 : 0 ≤ (i : Int) + 1 := by omega
  have hto : ((i : Int) + 1).toNat = i + 1 := by omega
  rw [hfl] at hcF
  have HEn : Hid (RdE L (i + 2) form true op) := Lib.hid (HE.out.redir ht HR0 hu hfu (H.ops u (List.mem_of_getElem? hu)).1)
  rw [hfu] at hcG
  have HMn := Lib.hid (fun (x : ByteArray) (hx : x.size ≤ 1073741824) (w : World) => refMean_any x hx w)
  have HTl : Hid (u.length ≤ 65536) := Lib.hid (by have := HBig.out; have := (toks_all s.data.toList.length s.data.toList L (Nat.le_refl _) HLL.out u (List.mem_of_getElem? HU.out)).2; omega)
  have hgLr : gL < wr.heap.size := by have := HSz.out; omega
  clear H ht hfl hu hfu
  go_wp2_with fail
  go_at_call 26
  refine (HMn.out ⟨u.toArray⟩ (by show u.toArray.size ≤ _; simp; have := HTl.out; omega) wr).mono ?_
  rintro e w3 ⟨m, k, rfl, hb3⟩
  have hR3 := (HR.out.below' hb3).more (show i ≤ i + 2 by omega)
  have HR3 := Lib.hid hR3
  have hcL3 : w3.cell? ⟨gL, i, none⟩ = some (.string ⟨([62] : List UInt8).toArray⟩) := (World.cell?_of_block (w := wr) (hb3.block gL hgLr)).trans hcL
  obtain ⟨⟨aw3, nw3, cw3, v2, v3, d4, d5, d6, xw3, hbox3, _, _⟩, _, _, _⟩ := hR3
  have y2' : w3.cell? ⟨b0, 2, none⟩ = some (.string v2) := Lib.cell_of_heap hbox3 2
  have y3' : w3.cell? ⟨b0, 3, none⟩ = some (.string v3) := Lib.cell_of_heap hbox3 3
  have y4' : w3.cell? ⟨b0, 4, none⟩ = some (.bool d4) := Lib.cell_of_heap hbox3 4
  have y5' : w3.cell? ⟨b0, 5, none⟩ = some (.bool d5) := Lib.cell_of_heap hbox3 5
  have y6' : w3.cell? ⟨b0, 6, none⟩ = some (.bool d6) := Lib.cell_of_heap hbox3 6
  have z2' := Lib.frozen_of_heap hbox3 2
  have z3' := Lib.frozen_of_heap hbox3 3
  have z4' := Lib.frozen_of_heap hbox3 4
  have z5' := Lib.frozen_of_heap hbox3 5
  have z6' := Lib.frozen_of_heap hbox3 6
  clear y0 y1 y2 y3 y4 y5 y6 z0 z1 z2 z3 z4 z5 z6 hcL hcF hcU hcG hb3 hbox3
  have HR4 : Hid (RdB b0 w2 op vo (i + 2) (((w3.setCell ⟨b0, 3, none⟩ (.string m)).setCell ⟨b0, 5, none⟩ (.bool true)).setCell ⟨b0, 6, none⟩ (.bool false)).drew) := Lib.hid ((((HR3.out.setAt 3 (.string m) (.inr (.inl ⟨rfl, _, rfl⟩))).setAt 5 (.bool true) (.inr (.inr (.inr (.inl ⟨rfl, _, rfl⟩))))).setAt 6 (.bool false) (.inr (.inr (.inr (.inr ⟨rfl, _, rfl⟩))))).below' (Below.refl _ _).drew)
  go_wp2
  go_region
  all_goals (
    go_wp2
    exact rdPost_of (i + 2) form true (by go_num) (by omega) (by omega) HR4 HEn)
set_option maxHeartbeats 32000000 in
set_option maxRecDepth 1000000 in
theorem rd_out2 {s : ByteArray} {L : List (List UInt8)} {w2 wr : World} {b0 i : Nat} {aL aF : Option Addr} {cL cF : Nat} {form sm : Bool} {vo : Value} {op : List UInt8} {Q0 : Exit → Act → World → Prop} {c0 c1 c4 c5 c18 c19 c20 c21 c22 c23 c24 c25 c26 c27 c28 c29 c30 c31 c32 c33 c188 c189 u2 u3 u13 u14 u15 u16 u17 u34 u35 u36 u37 u38 u39 u40 u41 u42 u43 u44 u45 u46 u47 u48 u49 u50 u51 u52 u53 u54 u55 u56 u57 u58 u59 u60 u61 u62 u63 u64 u65 u66 u67 u68 u69 u70 u71 u72 u73 u74 u75 u76 u77 u78 u79 u80 u81 u82 u83 u84 u85 u86 u87 u88 u89 u90 u91 u92 u93 u94 u95 u96 u97 u98 u99 u100 u101 u102 u103 u104 u105 u106 u107 u108 u109 u110 u111 u112 u113 u114 u115 u116 u117 u118 u119 u120 u121 u122 u123 u124 u125 u126 u127 u128 u129 u130 u131 u132 u133 u134 u135 u136 u137 u138 u139 u140 u141 u142 u143 u144 u145 u146 u147 u148 u149 u150 u151 u152 u153 u154 u155 u156 u157 u158 u159 u160 u161 u162 u163 u164 u165 u166 u167 u168 u169 u170 u171 u172 u173 u174 u175 u176 u177 u178 u179 u180 u181 u182 u183 u184 u185 u186 u187 : Value}
    (H : RdC s L w2 b0 aL aF cL cF) (HR : Hid (RdB b0 w2 op vo i wr)) (HE : Hid (RdE L i form sm op)) (ht : L[i]? = some [62, 62]) (hfl : flagT [62, 62] = true) {u : List UInt8} (hu : L[i + 1]? = some u) (hfu : flagT u = false) :
    Code.wp Tryz.prog rdBody (Exit.then (RdPost L b0 w2 (L.length + 2 - i) c0 c1 c4 c5 (.slice aL L.length cL) (.slice aF L.length cF) (.pointer (some ⟨b0, 0, none⟩)) c18 c19 c20 c21 c22 c23 c24 c25 c26 c27 c28 c29 c30 c31 c32 c33 c188 c189) (Q0)) ⟨#[c0, c1, u2, u3, c4, c5, .slice aL L.length cL, .slice aF L.length cF, .bool form, vo, .pointer (some ⟨b0, 0, none⟩), .bool sm, .int .i64 i, u13, u14, u15, u16, u17, c18, c19, c20, c21, c22, c23, c24, c25, c26, c27, c28, c29, c30, c31, c32, c33, u34, u35, u36, u37, u38, u39, u40, u41, u42, u43, u44, u45, u46, u47, u48, u49, u50, u51, u52, u53, u54, u55, u56, u57, u58, u59, u60, u61, u62, u63, u64, u65, u66, u67, u68, u69, u70, u71, u72, u73, u74, u75, u76, u77, u78, u79, u80, u81, u82, u83, u84, u85, u86, u87, u88, u89, u90, u91, u92, u93, u94, u95, u96, u97, u98, u99, u100, u101, u102, u103, u104, u105, u106, u107, u108, u109, u110, u111, u112, u113, u114, u115, u116, u117, u118, u119, u120, u121, u122, u123, u124, u125, u126, u127, u128, u129, u130, u131, u132, u133, u134, u135, u136, u137, u138, u139, u140, u141, u142, u143, u144, u145, u146, u147, u148, u149, u150, u151, u152, u153, u154, u155, u156, u157, u158, u159, u160, u161, u162, u163, u164, u165, u166, u167, u168, u169, u170, u171, u172, u173, u174, u175, u176, u177, u178, u179, u180, u181, u182, u183, u184, u185, u186, u187, c188, c189], []⟩ wr := by
  conv => arg 2; whnf
  have HR0 : ([62, 62] : List UInt8) = [60] ∨ ([62, 62] : List UInt8) = [62] ∨ ([62, 62] : List UInt8) = [62, 62] := by decide
  obtain ⟨i0, hi0, hz0, hz1, hz2⟩ := info_parts strInfo
  obtain ⟨k0, hk0, hc0, hc1, hc2⟩ := info_parts rcmdInfo
  have HLen := Lib.hid H.len
  have hLen := H.len
  have HB0 := Lib.hid H.base
  have HLL := Lib.hid H.toks
  have HBig : Hid (s.data.toList.length ≤ 65536) := Lib.hid (by have := H.big; simpa using this)
  obtain ⟨⟨aw, nw, cw, x2, x3, b4, b5, b6, xw, hbox, hnw, hwords⟩, ⟨no, xo, hno, hout⟩, hbel, hsz⟩ := HR.out
  have HBox := Lib.hid hbox
  have HWords := Lib.hid hwords
  have HOut := Lib.hid hout
  have HBel := Lib.hid hbel
  have HSz := Lib.hid hsz
  have y0 : wr.cell? ⟨b0, 0, none⟩ = some (.string ⟨op.toArray⟩) := Lib.cell_of_heap hbox 0
  have y1 : wr.cell? ⟨b0, 1, none⟩ = some (.slice aw nw cw) := Lib.cell_of_heap hbox 1
  have y2 : wr.cell? ⟨b0, 2, none⟩ = some (.string x2) := Lib.cell_of_heap hbox 2
  have y3 : wr.cell? ⟨b0, 3, none⟩ = some (.string x3) := Lib.cell_of_heap hbox 3
  have y4 : wr.cell? ⟨b0, 4, none⟩ = some (.bool b4) := Lib.cell_of_heap hbox 4
  have y5 : wr.cell? ⟨b0, 5, none⟩ = some (.bool b5) := Lib.cell_of_heap hbox 5
  have y6 : wr.cell? ⟨b0, 6, none⟩ = some (.bool b6) := Lib.cell_of_heap hbox 6
  have z0 := Lib.frozen_of_heap hbox 0
  have z1 := Lib.frozen_of_heap hbox 1
  have z2 := Lib.frozen_of_heap hbox 2
  have z3 := Lib.frozen_of_heap hbox 3
  have z4 := Lib.frozen_of_heap hbox 4
  have z5 := Lib.frozen_of_heap hbox 5
  have z6 := Lib.frozen_of_heap hbox 6
  clear hbox hwords hout hbel hsz
  have hlt : i < L.length := get_lt ht
  have HT := Lib.hid ht
  obtain ⟨gL, cL', gF, cF', he1, he2, hgL, hgF, hcL2, hcF2⟩ := H.rows i ([62, 62] : List UInt8) ht
  simp only [Value.slice.injEq] at he1 he2
  obtain ⟨rfl, -, rfl⟩ := he1
  obtain ⟨rfl, -, rfl⟩ := he2
  have hcL : wr.cell? ⟨gL, i, none⟩ = some (.string ⟨([62, 62] : List UInt8).toArray⟩) := (World.cell?_of_block (w := w2) (HBel.out.block gL (by rw [HB0.out]; exact hgL))).trans hcL2
  have hcF : wr.cell? ⟨gF, i, none⟩ = some (.bool (flagT ([62, 62] : List UInt8))) := (World.cell?_of_block (w := w2) (HBel.out.block gF (by rw [HB0.out]; exact hgF))).trans hcF2
  have hgL2 : gL < b0 := by rw [HB0.out]; exact hgL
  have hil : ((i : Int) == (L.length : Int)) = false := beq_eq_false_iff_ne.2 (by omega)
  have hle : (i : Int) ≤ (L.length : Int) := by omega
  have hnl : (i : Int) < (L.length : Int) := by omega
  have HU := Lib.hid hu
  obtain ⟨gL2, cL2', gF2, cF2', he1, he2, hgL2', hgF2', hcU2, hcG2⟩ := H.rows (i + 1) u hu
  simp only [Value.slice.injEq, Option.some.injEq, Addr.mk.injEq, and_true] at he1 he2
  obtain ⟨rfl, -⟩ := he1
  obtain ⟨rfl, -⟩ := he2
  have hcU : wr.cell? ⟨gL, i + 1, none⟩ = some (.string ⟨u.toArray⟩) := (World.cell?_of_block (w := w2) (HBel.out.block gL (by rw [HB0.out]; exact hgL))).trans hcU2
  have hcG : wr.cell? ⟨gF, i + 1, none⟩ = some (.bool (flagT u)) := (World.cell?_of_block (w := w2) (HBel.out.block gF (by rw [HB0.out]; exact hgF))).trans hcG2
  have hi1 : i + 1 < L.length := get_lt hu
  have hil2 : ((i : Int) + 1 == (L.length : Int)) = false := beq_eq_false_iff_ne.2 (by omega)
  have hnl2 : (i : Int) + 1 < (L.length : Int) := by omega
  have h01 : 0 ≤ (i : Int) + 1 := by omega
  have hto : ((i : Int) + 1).toNat = i + 1 := by omega
  rw [hfl] at hcF
  have HEn : Hid (RdE L (i + 2) form true op) := Lib.hid (HE.out.redir ht HR0 hu hfu (H.ops u (List.mem_of_getElem? hu)).1)
  rw [hfu] at hcG
  have HMn := Lib.hid (fun (x : ByteArray) (hx : x.size ≤ 1073741824) (w : World) => refMean_any x hx w)
  have HTl : Hid (u.length ≤ 65536) := Lib.hid (by have := HBig.out; have := (toks_all s.data.toList.length s.data.toList L (Nat.le_refl _) HLL.out u (List.mem_of_getElem? HU.out)).2; omega)
  have hgLr : gL < wr.heap.size := by have := HSz.out; omega
  clear H ht hfl hu hfu
  go_wp2_with fail
  go_at_call 26
  refine (HMn.out ⟨u.toArray⟩ (by show u.toArray.size ≤ _; simp; have := HTl.out; omega) wr).mono ?_
  rintro e w3 ⟨m, k, rfl, hb3⟩
  have hR3 := (HR.out.below' hb3).more (show i ≤ i + 2 by omega)
  have HR3 := Lib.hid hR3
  have hcL3 : w3.cell? ⟨gL, i, none⟩ = some (.string ⟨([62, 62] : List UInt8).toArray⟩) := (World.cell?_of_block (w := wr) (hb3.block gL hgLr)).trans hcL
  obtain ⟨⟨aw3, nw3, cw3, v2, v3, d4, d5, d6, xw3, hbox3, _, _⟩, _, _, _⟩ := hR3
  have y2' : w3.cell? ⟨b0, 2, none⟩ = some (.string v2) := Lib.cell_of_heap hbox3 2
  have y3' : w3.cell? ⟨b0, 3, none⟩ = some (.string v3) := Lib.cell_of_heap hbox3 3
  have y4' : w3.cell? ⟨b0, 4, none⟩ = some (.bool d4) := Lib.cell_of_heap hbox3 4
  have y5' : w3.cell? ⟨b0, 5, none⟩ = some (.bool d5) := Lib.cell_of_heap hbox3 5
  have y6' : w3.cell? ⟨b0, 6, none⟩ = some (.bool d6) := Lib.cell_of_heap hbox3 6
  have z2' := Lib.frozen_of_heap hbox3 2
  have z3' := Lib.frozen_of_heap hbox3 3
  have z4' := Lib.frozen_of_heap hbox3 4
  have z5' := Lib.frozen_of_heap hbox3 5
  have z6' := Lib.frozen_of_heap hbox3 6
  clear y0 y1 y2 y3 y4 y5 y6 z0 z1 z2 z3 z4 z5 z6 hcL hcF hcU hcG hb3 hbox3
  have HR4 : Hid (RdB b0 w2 op vo (i + 2) (((w3.setCell ⟨b0, 3, none⟩ (.string m)).setCell ⟨b0, 5, none⟩ (.bool true)).setCell ⟨b0, 6, none⟩ (.bool true)).drew) := Lib.hid ((((HR3.out.setAt 3 (.string m) (.inr (.inl ⟨rfl, _, rfl⟩))).setAt 5 (.bool true) (.inr (.inr (.inr (.inl ⟨rfl, _, rfl⟩))))).setAt 6 (.bool true) (.inr (.inr (.inr (.inr ⟨rfl, _, rfl⟩))))).below' (Below.refl _ _).drew)
  go_wp2
  go_region
  all_goals (
    go_wp2
    exact rdPost_of (i + 2) form true (by go_num) (by omega) (by omega) HR4 HEn)
end Go.Proofs.YtmagggflamdahaaGreatDoor

namespace Go.Proofs.YtmagggflamdahaaGreatDoor
open Go.RowKit

set_option maxHeartbeats 32000000 in
set_option maxRecDepth 1000000 in
theorem refRead_any (s : ByteArray) (hs : s.size ≤ 65536) (w : World) : Calls Tryz.prog 8 #[.string s] w (RdQ (errS s.data.toList) w) := by
  obtain ⟨i0, hi0, hz0, hz1, hz2⟩ := info_parts strInfo
  obtain ⟨k0, hk0, hc0, hc1, hc2⟩ := info_parts rcmdInfo
  have hsl : s.data.toList.length = s.size := by simp
  have HErr := Lib.hid (errS_toks s.data.toList (by omega))
  have hKi := refKinds_any s (by omega) w
  have htk := toks_kinds s.data.toList.length s.data.toList (Nat.le_refl _)
  have hn65 : ¬ 65536 < (s.size : Int) := by omega
  cases hL : toksS s.data.toList with
  | none =>
    rw [hL] at htk HErr
    rw [not_whole htk] at hKi
    have HK := Lib.hid hKi
    clear hKi htk hL
    go_enter Tryz.func8, Tryz.ntmps8
    go_wp2_with fail
    go_at_call 24
    refine HK.out.mono ?_
    rintro e w1 ⟨rfl, hb1⟩
    have HB1 := Lib.hid hb1
    clear hb1
    go_wp2
    go_ret2
    exact ⟨_, by rw [HErr.out]; rfl, HB1.out⟩
  | some L =>
    rw [hL] at htk HErr
    simp only at htk HErr
    rw [htk] at hKi
    have HK := Lib.hid hKi
    have HTk := Lib.hid (fun w => refTokens_any s hs L hL w)
    have HTo := Lib.hid (toks_ops s.data.toList.length s.data.toList (Nat.le_refl _) L hL)
    have HLL := Lib.hid hL
    have HLen : Hid (L.length ≤ 65536) := Lib.hid (by have := toks_count s.data.toList.length s.data.toList (Nat.le_refl _) L hL; omega)
    clear hKi htk hL
    go_enter Tryz.func8, Tryz.ntmps8
    go_wp2_with fail
    go_at_call 24
    refine HK.out.mono ?_
    rintro e w1 ⟨rfl, hb1⟩
    have HB1 := Lib.hid hb1
    clear hb1
    go_wp2_with fail
    go_at_call 25
    refine (HTk.out _).mono ?_
    rintro e w2 ⟨vL, vF, rfl, hrL, hrF, hb2⟩
    have HB2 : Hid (Below w.heap.size w w2) := Lib.hid (HB1.out.trans (hb2.mono HB1.out.size))
    have HX : Hid (∀ i t, L[i]? = some t → ∃ gL cL gF cF, vL = .slice (some ⟨gL, 0, none⟩) L.length cL ∧ vF = .slice (some ⟨gF, 0, none⟩) L.length cF ∧ gL < w2.heap.size ∧ gF < w2.heap.size ∧ w2.cell? ⟨gL, i, none⟩ = some (.string ⟨t.toArray⟩) ∧ w2.cell? ⟨gF, i, none⟩ = some (.bool (flagT t))) := Lib.hid (fun i t ht => by
      have hi := get_lt ht
      obtain ⟨gL, cL, rfl, _, h1, _⟩ := ownsRow_ne0 hrL (by omega)
      obtain ⟨gF, cF, rfl, _, h2, _⟩ := ownsRow_ne0 hrF (by omega)
      refine ⟨gL, cL, gF, cF, rfl, rfl, h1, h2, ?_, ?_⟩
      · rw [hrL.cellAt i (by omega), List.getElem?_map, ht]; rfl
      · rw [hrF.cellAt i (by omega), List.getElem?_map, ht]; rfl)
    obtain ⟨aL, cL, rfl⟩ := ownsRow_slice hrL
    obtain ⟨aF, cF, rfl⟩ := ownsRow_slice hrF
    obtain ⟨b0, hb0⟩ : ∃ b0, b0 = w2.heap.size := ⟨_, rfl⟩
    have HBx0 : Hid (RdB b0 w2 [] (.slice none 0 0) 0 (w2.alloc (.cells #[.string ⟨#[]⟩, .slice none 0 0, .string ⟨#[]⟩, .string ⟨#[]⟩, .bool false, .bool false, .bool false] 66))) := Lib.hid ⟨⟨none, 0, 0, _, _, _, _, _, [], by rw [hb0]; exact heap_alloc_new w2 _, Nat.zero_le _, ⟨rfl, .inl ⟨rfl, rfl⟩⟩⟩, ⟨0, [], Nat.zero_le _, ⟨rfl, .inl ⟨rfl, rfl⟩⟩⟩, (Below.refl _ _).alloc (by omega) _, by simp; omega⟩
    have hLen := HLen.out
    clear hrL hrF hb2
    go_wp2
    rw [← hb0]
    have HB0 := Lib.hid hb0
    clear hb0
    have HC : Hid (RdC s L w2 b0 aL aF cL cF) := Lib.hid ⟨HLL.out, hs, HB0.out, hLen, HX.out, HTo.out⟩
    go_loopw [8, 9, 11, 12] (RdRel L b0 w2) (fun _ _ _ v12 _ => L.length + 2 - (intOf v12).toNat)
    case atStart => exact ⟨0, false, false, _, [], rfl, rfl, rfl, rfl, by omega, HBx0, Lib.hid (RdE.start L)⟩
    case round =>
      obtain ⟨i, form, sm, vo, op, rfl, rfl, rfl, rfl, hi, HR, HE⟩ := hrel
      have HBf : Hid (Below w.heap.size w wr) := Lib.hid (HB2.out.trans (HR.out.below.mono (by rw [HB0.out]; exact HB2.out.size)))
      by_cases hdone : i = L.length + 1
      · have hgt : ¬ (i : Int) ≤ (L.length : Int) := by omega
        have HDn : Hid (errL L = if form then 3 else 0) := Lib.hid (HE.out.done hdone)
        clear hdone
        cases form with
        | true =>
          go_wp2
          go_ret2
          exact ⟨_, by rw [HErr.out, HDn.out]; rfl, HBf.out⟩
        | false =>
          go_wp2
          go_ret2
          exact ⟨_, by rw [HErr.out, HDn.out]; rfl, HBf.out⟩
      · by_cases hend : i = L.length
        · obtain rfl := hend
          exact rd_end HC.out HR HE
        · have hlt : i < L.length := by omega
          obtain ⟨t, ht⟩ : ∃ t, L[i]? = some t := ⟨L[i], List.getElem?_eq_getElem hlt⟩
          cases hfl : flagT t with
          | false => exact rd_word HC.out HR HE ht hfl
          | true =>
            have hop8 := (HTo.out t (List.mem_of_getElem? ht)).2 hfl
            have hcases : (t = [59] ∨ t = [38, 38] ∨ t = [124, 124]) ∨ (t = [38] ∨ t = [124]) ∨ (t = [60] ∨ t = [62] ∨ t = [62, 62]) := by
              simp only [opList, List.mem_cons, List.not_mem_nil, or_false] at hop8
              rcases hop8 with h | h | h | h | h | h | h | h <;> simp [h]
            rcases hcases with hS | hA | hR
            · exact rd_sep HC.out HR HE ht hfl hS
            · exact rd_amp HC.out HR HE ht hfl hA
            · by_cases he1 : i + 1 = L.length
              · exact rd_bad1 HC.out HR ht hfl hR (Lib.hid (by rw [HErr.out]; exact HE.out.redirBad ht hR (.inl he1))) HBf he1
              · obtain ⟨u, hu⟩ : ∃ u, L[i + 1]? = some u := ⟨L[i + 1]'(by omega), List.getElem?_eq_getElem (by omega)⟩
                have hun := (HTo.out u (List.mem_of_getElem? hu)).1
                cases hfu : flagT u with
                | true => exact rd_bad2 HC.out HR ht hfl hR (Lib.hid (by rw [HErr.out]; exact HE.out.redirBad ht hR (.inr ⟨u, hu, hfu, hun⟩))) HBf hu hfu
                | false =>
                  rcases hR with rfl | rfl | rfl
                  · exact rd_in HC.out HR HE ht hfl hu hfu
                  · exact rd_out1 HC.out HR HE ht hfl hu hfu
                  · exact rd_out2 HC.out HR HE ht hfl hu hfu
end Go.Proofs.YtmagggflamdahaaGreatDoor
