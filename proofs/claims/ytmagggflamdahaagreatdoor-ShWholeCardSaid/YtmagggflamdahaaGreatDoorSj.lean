/- sh.each: goes through paths by a function, up to the first one that it refuses. sh.cat, and the function that it hands to each. sh.Proc.run: its commands, each in a lemma of its own. Printed by wip/genrun.py. -/
import Derived.Test.YtmagggflamdahaaGreatDoorSi
import Derived.Test.YtmagggflamdahaaGreatDoorSg
namespace Go.Proofs.YtmagggflamdahaaGreatDoor
open Go.RowKit

/-- where going through paths ends, and what it comes to -/
def eachGo {σ : Type} (f : σ → List UInt8 → σ × Int) : σ → List (List UInt8) → σ × Int
  | s, [] => (s, 0)
  | s, x :: l => if (f s x).2 = 0 then eachGo f (f s x).1 l else ((f s x).1, 1)
def eachS {σ : Type} (f : σ → List UInt8 → σ × Int) (s : σ) (l : List (List UInt8)) : σ × Int := if l = [] then (s, 2) else eachGo f s l

set_option maxHeartbeats 2000000 in
set_option maxRecDepth 100000 in
theorem each_any {σ : Type} (f : σ → List UInt8 → σ × Int) (R : Nat → σ → World → Prop) (gf : Nat) (first cap : Array Value) (eg : ∀ args w, (callFunc gf args).run Tryz.prog w = .ok (.enter gf args) w)
    {K : Nat → Prop} {v : Value} (l : List (List UInt8)) (hn : l.length ≤ 140737488355328) (s0 : σ) (w : World) (hl : StrsAt K w v l) (h0 : R 0 s0 w)
    (hR : ∀ i s W, R i s W → ∀ k, K k → k < w.heap.size → W.heap[k]? = w.heap[k]?)
    (hdo : ∀ i s W x, l[i]? = some x → R i s W → Calls Tryz.prog gf (first.push (.string ⟨x.toArray⟩) ++ cap) W fun e W' => e = .returned (.int .i64 (f s x).2) ∧ R (i + 1) (f s x).1 W') :
    Calls Tryz.prog 110 #[v, .func (.func gf) first cap] w fun e w' => e = .returned (.int .i64 (eachS f s0 l).2) ∧ ∃ i, R i (eachS f s0 l).1 w' := by
  by_cases hl0 : l.length = 0
  · have hl1 : l = [] := List.eq_nil_of_length_eq_zero hl0
    subst hl1
    obtain ⟨a, c, rfl⟩ := hl.isSlice
    have H0 := Lib.hid h0
    clear hl h0 hR hdo
    go_enter Tryz.func110, Tryz.ntmps110
    go_wp2
    go_ret
    exact ⟨rfl, 0, H0.out⟩
  · have hS : Hid (eachS f s0 l = eachGo f s0 l) := Lib.hid (by unfold eachS; rw [if_neg (by rintro rfl; exact hl0 rfl)])
    have HD := Lib.hid hdo
    have HR := Lib.hid hR
    have H0 := Lib.hid h0
    have hb0 : ((l.length : Int) == 0) = false := beq_eq_false_iff_ne.2 (by omega)
    obtain ⟨g, o, cp, rfl, hc, hK, hg, hx, _⟩ := SlAt.ne0 hl hl0
    have HX : Hid (∀ i s W x, l[i]? = some x → R i s W → W.cell? ⟨g, o + i, none⟩ = some (.string ⟨x.toArray⟩)) := Lib.hid (fun i s W x hi hr => by
      exact (World.cell?_of_block (w := w) (hR i s W hr g hK hg)).trans (hx i _ (by rw [List.getElem?_map, hi]; rfl)))
    clear hl h0 hR hdo hx hK
    go_enter Tryz.func110, Tryz.ntmps110
    go_wp2
    go_loopw [12] (fun v12 wr => ∃ (i : Nat) (s : σ), v12 = .int .i64 i ∧ i ≤ l.length ∧ Hid (eachGo f s0 l = eachGo f s (l.drop i)) ∧ Hid (R i s wr)) (fun v12 _ => l.length + 1 - (intOf v12).toNat)
    case atStart => exact ⟨0, s0, rfl, by omega, Lib.hid rfl, H0⟩
    case round =>
      obtain ⟨i, s, rfl, hi, HE, HI⟩ := hrel
      by_cases hlt : i < l.length
      · obtain ⟨x, hxi⟩ : ∃ x, l[i]? = some x := ⟨l[i], List.getElem?_eq_getElem hlt⟩
        have hcell := HX.out i s wr x hxi HI.out
        have hdr : l.drop i = x :: l.drop (i + 1) := by
          rw [List.drop_eq_getElem_cons hlt]
          congr 1
          rw [List.getElem?_eq_getElem hlt] at hxi
          exact Option.some.inj hxi
        have HC := Lib.hid (HD.out i s wr x hxi HI.out)
        have HE1 : Hid (eachGo f s0 l = if (f s x).2 = 0 then eachGo f (f s x).1 (l.drop (i + 1)) else ((f s x).1, 1)) := Lib.hid (by rw [HE.out, hdr]; rfl)
        clear hdr
        go_wp2_with fail
        refine HC.out.mono ?_
        rintro e w1 ⟨rfl, hr1⟩
        have HR1 := Lib.hid hr1
        clear hr1 hcell
        by_cases hz : (f s x).2 = 0
        · rw [if_pos hz] at HE1
          have hnz : ((f s x).2 != 0) = false := by rw [hz]; rfl
          clear hz
          go_wp2
          go_roundw
          case rel => exact ⟨i + 1, (f s x).1, by go_num, by omega, HE1, HR1⟩
          case measure => simp [intOf]; omega
        · have HZ : Hid (eachGo f s0 l = ((f s x).1, 1)) := Lib.hid (by rw [HE1.out, if_neg hz])
          have hnz : ((f s x).2 != 0) = true := by simpa using hz
          clear hz HE1
          go_wp2
          go_ret
          exact ⟨by rw [hS.out, HZ.out]; rfl, i + 1, by rw [hS.out, HZ.out]; exact HR1.out⟩
      · have HZ : Hid (eachGo f s0 l = (s, 0)) := Lib.hid (by rw [HE.out, List.drop_of_length_le (by omega)]; rfl)
        go_wp2
        go_ret
        exact ⟨by rw [hS.out, HZ.out]; rfl, i, by rw [hS.out, HZ.out]; exact HI.out⟩
end Go.Proofs.YtmagggflamdahaaGreatDoor

namespace Go.Proofs.YtmagggflamdahaaGreatDoor
open Go.RowKit

theorem readF_len {pb mb : Nat} {st : PStore} {w : World} (h : IsStore pb mb st w) (p : List UInt8) : (readF st p).1.length ≤ 1048576 := by
  have ht := textF_len h p
  unfold textF at ht
  unfold readF
  cases hfd : found st p with
  | not e => simp
  | nothing q => simp
  | file q f =>
    rw [hfd] at ht
    simp only at ht ⊢
    split
    · simp
    · exact ht

set_option maxHeartbeats 1000000 in
set_option maxRecDepth 100000 in
theorem catFn_any (B pb mb bb cb : Nat) (st : PStore) (acc x : List UInt8) (hx : x.length ≤ 262144) (ha : acc.length ≤ 70368744177664) (w : World) (h : IsStore pb mb st w) (hc : w.cell? ⟨cb, 0, none⟩ = some (.pointer (some ⟨pb, 0, none⟩))) (hb : BLoc B bb acc w) (hB : B ≤ w.heap.size) :
    Calls Tryz.prog 111 #[.string ⟨x.toArray⟩, .pointer (some ⟨cb, 0, none⟩), .pointer (some ⟨bb, 0, none⟩)] w fun e w' => e = .returned (.int .i64 (readF st x).2) ∧ BLoc B bb (acc ++ (readF st x).1) w' ∧ Below B w w' := by
  have HR : Hid (Calls Tryz.prog 13 #[.pointer (some ⟨pb, 0, none⟩), .string ⟨x.toArray⟩] w fun e w' => e = .returned (.tuple #[.string ⟨(readF st x).1.toArray⟩, .int .i64 (readF st x).2]) ∧ Below w.heap.size w w') := Lib.hid (read_store pb mb st ⟨x.toArray⟩ (by show x.toArray.size ≤ _; simpa using hx) w h)
  have hl := readF_len h x
  have HBL := Lib.hid hb
  generalize readF st x = q at HR hl ⊢
  obtain ⟨t, n⟩ := q
  simp only at HR hl ⊢
  clear hb h
  go_enter Tryz.func111, Tryz.ntmps111
  go_wp2_with fail
  go_at_call 13
  refine HR.out.mono ?_
  rintro e w1 ⟨rfl, hb1⟩
  have HW := writeString_own w1 (HBL.out.below hb1) (Nat.le_trans hB hb1.size) ⟨t.toArray⟩ (by show acc.length + t.toArray.size ≤ _; simp; omega)
  replace HW := Lib.hid HW
  have HB1 := Lib.hid (hb1.mono hB)
  clear hb1
  go_wp2_with fail
  go_at_call 59
  refine HW.out.mono ?_
  rintro e w2 ⟨rfl, hb2, hk2⟩
  have HB2 := Lib.hid hb2
  have HK2 := Lib.hid hk2
  clear hb2 hk2
  go_wp2
  go_ret
  exact ⟨rfl, HB2.out, HB1.out.trans HK2.out⟩

def catStep (st : PStore) (acc p : List UInt8) : List UInt8 × Int := (acc ++ (readF st p).1, (readF st p).2)
def catF (st : PStore) (l : List (List UInt8)) (inn : List UInt8) : Int × List UInt8 := if l = [] then (0, inn) else ((eachS (catStep st) [] l).2, (eachS (catStep st) [] l).1)

set_option maxHeartbeats 2000000 in
set_option maxRecDepth 100000 in
theorem cat_any (pb mb : Nat) (st : PStore) {K : Nat → Prop} {v : Value} (l : List (List UInt8)) (inn : List UInt8) (hn : l.length ≤ 1048576) (hx : ∀ x ∈ l, x.length ≤ 262144) (w : World) (hl : StrsAt K w v l) (h : IsStore pb mb st w) :
    Calls Tryz.prog 77 #[v, .string ⟨inn.toArray⟩, .pointer (some ⟨pb, 0, none⟩)] w fun e w' => e = .returned (.tuple #[.int .i64 (catF st l inn).1, .string ⟨(catF st l inn).2.toArray⟩]) ∧ Below w.heap.size w w' := by
  by_cases hl0 : l.length = 0
  · have hl1 : l = [] := List.eq_nil_of_length_eq_zero hl0
    subst hl1
    obtain ⟨a, c, rfl⟩ := hl.isSlice
    clear hl h hx
    go_enter Tryz.func77, Tryz.ntmps77
    go_wp2
    go_ret2
    exact ⟨rfl, (Below.refl _ _).alloc (Nat.le_refl _) _⟩
  · have hne : l ≠ [] := by rintro rfl; exact hl0 rfl
    have hF : Hid (catF st l inn = ((eachS (catStep st) [] l).2, (eachS (catStep st) [] l).1)) := Lib.hid (by unfold catF; rw [if_neg hne])
    obtain ⟨o1, ho1⟩ : ∃ o1, o1 = Obj.cells #[.pointer (some ⟨pb, 0, none⟩)] 31 := ⟨_, rfl⟩
    obtain ⟨o2, ho2⟩ : ∃ o2, o2 = Obj.cells #[.pointer none, .slice none 0 0] 45 := ⟨_, rfl⟩
    have hB0 : Below w.heap.size w ((w.alloc o1).alloc o2) := ((Below.refl _ _).alloc (Nat.le_refl _) _).alloc (by simp) _
    have hC0 : ((w.alloc o1).alloc o2).heap[w.heap.size]? = some o1 := by
      rw [Below.heap_alloc (w.alloc o1) o2 _ (by simp)]
      exact heap_alloc_new w o1
    have hL0 : BLoc (w.heap.size + 1) (w.heap.size + 1) [] ((w.alloc o1).alloc o2) := by
      have := BLoc.fresh (B := w.heap.size + 1) (w := w.alloc o1) (by simp)
      rw [ho2]
      simpa using this
    have hz0 : ((w.alloc o1).alloc o2).heap.size = w.heap.size + 2 := by simp
    have HE := Lib.hid (each_any (catStep st) (fun i acc W => acc.length ≤ i * 1048576 ∧ BLoc (w.heap.size + 1) (w.heap.size + 1) acc W ∧ Below (w.heap.size + 1) ((w.alloc o1).alloc o2) W)
      111 #[] #[.pointer (some ⟨w.heap.size, 0, none⟩), .pointer (some ⟨w.heap.size + 1, 0, none⟩)] (fun args W => by kernel_rfl) (K := fun k => K k ∧ k < w.heap.size) (v := v) l (by omega) [] ((w.alloc o1).alloc o2)
      (SlAt.keep (SlAt.mono hl (fun k hk hlt => ⟨hk, hlt⟩)) (fun k hk hlt => hB0.block k hlt))
      ⟨by simp, hL0, Below.refl _ _⟩
      (fun i acc W hr k hk hlt => hr.2.2.block k (by omega))
      (fun i acc W x hxi hr => by
        obtain ⟨h1, h2, h3⟩ := hr
        have hil : i < l.length := (List.getElem?_eq_some_iff.1 hxi).1
        have hst : IsStore pb mb st W := h.below ⟨h3.os.trans hB0.os, h3.tape.trans hB0.tape, h3.output.trans hB0.output, Nat.le_trans hB0.size h3.size, fun k hk => (h3.block k (by omega)).trans (hB0.block k hk)⟩
        have hrl := readF_len h x
        have hwz : w.heap.size + 1 ≤ W.heap.size := by have := h3.size; omega
        have hcc : W.cell? ⟨w.heap.size, 0, none⟩ = some (.pointer (some ⟨pb, 0, none⟩)) := by
          have h4 : W.heap[w.heap.size]? = some o1 := (h3.block _ (by omega)).trans hC0
          rw [ho1] at h4
          exact Lib.cell_of_heap h4 0
        refine (catFn_any (w.heap.size + 1) pb mb (w.heap.size + 1) w.heap.size st acc x (hx x (List.mem_of_getElem? hxi)) (by omega) W hst hcc h2 hwz).mono ?_
        rintro e W' ⟨rfl, h5, h6⟩
        exact ⟨rfl, by unfold catStep; simp only [List.length_append]; omega, h5, h3.trans h6⟩))
    obtain ⟨a, c, rfl⟩ := hl.isSlice
    have hb0 : ((l.length : Int) == 0) = false := beq_eq_false_iff_ne.2 (by omega)
    have HB0 := Lib.hid hB0
    clear hB0 hC0 hL0 hz0 h hl hx
    generalize eachS (catStep st) [] l = q at HE hF
    subst ho1 ho2
    go_enter Tryz.func77, Tryz.ntmps77
    go_wp2_with fail
    go_at_call 110
    refine HE.out.mono ?_
    rintro e w1 ⟨rfl, i, -, hq1, hq2⟩
    have HQ := Lib.hid (bldString_own w1 hq1 (by have := hq2.size; simp at this; omega))
    have HB1 := Lib.hid hq2
    have hsz : Hid (w.heap.size + 2 ≤ w1.heap.size) := Lib.hid (by have := hq2.size; simp at this; omega)
    clear hq1 hq2
    go_wp2_with fail
    go_at_call 38
    refine HQ.out.mono ?_
    rintro e w2 ⟨rfl, -, hk2⟩
    have HK := Lib.hid hk2
    clear hk2
    go_wp2
    go_ret2
    exact ⟨by rw [hF.out]; rfl, ((HB0.out.trans (HB1.out.mono (by omega))).trans (HK.out.mono (by omega)))⟩
end Go.Proofs.YtmagggflamdahaaGreatDoor

namespace Go.Proofs.YtmagggflamdahaaGreatDoor
open Go.RowKit

/-- what echo says -/
def echoF (l : List (List UInt8)) : List UInt8 := if l.head? == some [45, 110] then Lib.join (l.drop 1) [32] else Lib.join l [32] ++ [10]
theorem echoF_n (l : List (List UInt8)) : echoF ([45, 110] :: l) = Lib.join l [32] := rfl
theorem echoF_some (x : List UInt8) (l : List (List UInt8)) (h : (x == [45, 110]) = false) : echoF (x :: l) = Lib.join (x :: l) [32] ++ [10] := by
  unfold echoF
  rw [if_neg]
  simpa using h

set_option maxHeartbeats 4000000 in
set_option maxRecDepth 100000 in
theorem run_true (pv : Value) {K : Nat → Prop} {v sv : Value} (nm : List UInt8) (l : List (List UInt8)) (inn : List UInt8) (w : World) (hl : StrsAt K w v (nm :: l)) (h0 : (nm == [116, 114, 117, 101]) = true) :
    Calls Tryz.prog 58 #[pv, v, .string ⟨inn.toArray⟩, sv] w fun e w' => e = .returned (.tuple #[.int .i64 0, .string ⟨#[]⟩]) ∧ Below w.heap.size w w' := by
  obtain ⟨g, o, cp, rfl, hcap, hK, hg, e0, hx1, htl⟩ := StrsAt.cons hl
  obtain ⟨a', ha', hsl⟩ := slice_tail g o l.length cp hcap
  have HT : Hid (StrsAt K w (.slice a' l.length (cp - 1)) l) := Lib.hid (htl a' (cp - 1) (fun h => ha' (fun h0 => h (List.eq_nil_of_length_eq_zero h0))) (by omega))
  have hb0 : ((l.length : Int) + 1 == 0) = false := beq_eq_false_iff_ne.2 (by omega)
  clear HT
  clear hl htl hK ha'
  clear hx1
  go_enter Tryz.func58, Tryz.ntmps58
  go_wp2
  go_quiet (fail)
  go_wp2
  go_ret2
  exact ⟨rfl, belowN _ _⟩

set_option maxHeartbeats 4000000 in
set_option maxRecDepth 100000 in
theorem run_colon (pv : Value) {K : Nat → Prop} {v sv : Value} (nm : List UInt8) (l : List (List UInt8)) (inn : List UInt8) (w : World) (hl : StrsAt K w v (nm :: l)) (h0 : (nm == [116, 114, 117, 101]) = false) (h1 : (nm == [58]) = true) :
    Calls Tryz.prog 58 #[pv, v, .string ⟨inn.toArray⟩, sv] w fun e w' => e = .returned (.tuple #[.int .i64 0, .string ⟨#[]⟩]) ∧ Below w.heap.size w w' := by
  obtain ⟨g, o, cp, rfl, hcap, hK, hg, e0, hx1, htl⟩ := StrsAt.cons hl
  obtain ⟨a', ha', hsl⟩ := slice_tail g o l.length cp hcap
  have HT : Hid (StrsAt K w (.slice a' l.length (cp - 1)) l) := Lib.hid (htl a' (cp - 1) (fun h => ha' (fun h0 => h (List.eq_nil_of_length_eq_zero h0))) (by omega))
  have hb0 : ((l.length : Int) + 1 == 0) = false := beq_eq_false_iff_ne.2 (by omega)
  clear HT
  clear hl htl hK ha'
  clear hx1
  go_enter Tryz.func58, Tryz.ntmps58
  go_wp2
  go_quiet (fail)
  go_wp2
  go_ret2
  exact ⟨rfl, belowN _ _⟩

set_option maxHeartbeats 4000000 in
set_option maxRecDepth 100000 in
theorem run_false (pv : Value) {K : Nat → Prop} {v sv : Value} (nm : List UInt8) (l : List (List UInt8)) (inn : List UInt8) (w : World) (hl : StrsAt K w v (nm :: l)) (h0 : (nm == [116, 114, 117, 101]) = false) (h1 : (nm == [58]) = false) (h2 : (nm == [102, 97, 108, 115, 101]) = true) :
    Calls Tryz.prog 58 #[pv, v, .string ⟨inn.toArray⟩, sv] w fun e w' => e = .returned (.tuple #[.int .i64 1, .string ⟨#[]⟩]) ∧ Below w.heap.size w w' := by
  obtain ⟨g, o, cp, rfl, hcap, hK, hg, e0, hx1, htl⟩ := StrsAt.cons hl
  obtain ⟨a', ha', hsl⟩ := slice_tail g o l.length cp hcap
  have HT : Hid (StrsAt K w (.slice a' l.length (cp - 1)) l) := Lib.hid (htl a' (cp - 1) (fun h => ha' (fun h0 => h (List.eq_nil_of_length_eq_zero h0))) (by omega))
  have hb0 : ((l.length : Int) + 1 == 0) = false := beq_eq_false_iff_ne.2 (by omega)
  clear HT
  clear hl htl hK ha'
  clear hx1
  go_enter Tryz.func58, Tryz.ntmps58
  go_wp2
  go_quiet (fail)
  go_wp2
  go_ret2
  exact ⟨rfl, belowN _ _⟩

set_option maxHeartbeats 4000000 in
set_option maxRecDepth 100000 in
theorem run_unknown (pv : Value) {K : Nat → Prop} {v sv : Value} (nm : List UInt8) (l : List (List UInt8)) (inn : List UInt8) (w : World) (hl : StrsAt K w v (nm :: l)) (h0 : (nm == [116, 114, 117, 101]) = false) (h1 : (nm == [58]) = false) (h2 : (nm == [102, 97, 108, 115, 101]) = false) (h3 : (nm == [101, 99, 104, 111]) = false) (h4 : (nm == [99, 97, 116]) = false) (h5 : (nm == [99, 112]) = false) (h6 : (nm == [109, 118]) = false) (h7 : (nm == [114, 109]) = false) (h8 : (nm == [116, 111, 117, 99, 104]) = false) (h9 : (nm == [109, 107, 100, 105, 114]) = false) (h10 : (nm == [116, 101, 115, 116]) = false) (h11 : (nm == [101, 120, 105, 116]) = false) :
    Calls Tryz.prog 58 #[pv, v, .string ⟨inn.toArray⟩, sv] w fun e w' => e = .returned (.tuple #[.int .i64 127, .string ⟨#[]⟩]) ∧ Below w.heap.size w w' := by
  obtain ⟨g, o, cp, rfl, hcap, hK, hg, e0, hx1, htl⟩ := StrsAt.cons hl
  obtain ⟨a', ha', hsl⟩ := slice_tail g o l.length cp hcap
  have HT : Hid (StrsAt K w (.slice a' l.length (cp - 1)) l) := Lib.hid (htl a' (cp - 1) (fun h => ha' (fun h0 => h (List.eq_nil_of_length_eq_zero h0))) (by omega))
  have hb0 : ((l.length : Int) + 1 == 0) = false := beq_eq_false_iff_ne.2 (by omega)
  clear HT
  clear hl htl hK ha'
  clear hx1
  go_enter Tryz.func58, Tryz.ntmps58
  go_wp2
  go_quiet (fail)
  go_wp2
  go_ret2
  exact ⟨rfl, belowN _ _⟩

set_option maxHeartbeats 4000000 in
set_option maxRecDepth 100000 in
theorem run_echo_none (pv : Value) {K : Nat → Prop} {v sv : Value} (nm : List UInt8) (l : List (List UInt8)) (inn : List UInt8) (w : World) (hl : StrsAt K w v (nm :: l)) (h0 : (nm == [116, 114, 117, 101]) = false) (h1 : (nm == [58]) = false) (h2 : (nm == [102, 97, 108, 115, 101]) = false) (h3 : (nm == [101, 99, 104, 111]) = true) (hln : l = []) (hn : l.length ≤ 140737488355328) :
    Calls Tryz.prog 58 #[pv, v, .string ⟨inn.toArray⟩, sv] w fun e w' => e = .returned (.tuple #[.int .i64 0, .string ⟨(echoF l).toArray⟩]) ∧ Below w.heap.size w w' := by
  subst hln
  obtain ⟨g, o, cp, rfl, hcap, hK, hg, e0, hx1, htl⟩ := StrsAt.cons hl
  obtain ⟨a', ha', hsl⟩ := slice_tail g o ([] : List (List UInt8)).length cp hcap
  have HT : Hid (StrsAt K w (.slice a' ([] : List (List UInt8)).length (cp - 1)) ([] : List (List UInt8))) := Lib.hid (htl a' (cp - 1) (fun h => ha' (fun h0 => h (List.eq_nil_of_length_eq_zero h0))) (by omega))
  have hb0 : ((([] : List (List UInt8)).length : Int) + 1 == 0) = false := beq_eq_false_iff_ne.2 (by omega)
  clear hl htl hK ha' hx1
  simp only [List.length_nil] at hsl HT hcap hb0
  have HJ : Hid (∀ W, StrsAt K W (.slice a' 0 (cp - 1)) [] → Calls Tryz.prog 76 #[.slice a' 0 (cp - 1), .string ⟨#[32]⟩] W fun e w' => e = .returned (.string ⟨(Lib.join [] [32]).toArray⟩) ∧ Below W.heap.size W w') := Lib.hid (fun W h => join_any ⟨#[32]⟩ W h (by simp) (by simp [Lib.join]))
  clear hn
  go_enter Tryz.func58, Tryz.ntmps58
  go_wp2
  go_quiet (fail)
  go_wp2_with fail
  go_at_call 76
  refine (HJ.out _ (HT.out.keep (fun k _ hk => (belowN _ _).block k hk))).mono ?_
  rintro e w1 ⟨rfl, hb1⟩
  have HB := Lib.hid ((belowN _ _).trans (hb1.mono (belowN _ _).size))
  clear hb1
  go_wp2
  go_ret2
  exact ⟨rfl, HB.out⟩

set_option maxHeartbeats 4000000 in
set_option maxRecDepth 100000 in
theorem run_echo_n (pv : Value) {K : Nat → Prop} {v sv : Value} (nm : List UInt8) (l : List (List UInt8)) (inn : List UInt8) (w : World) (hl : StrsAt K w v (nm :: l)) (h0 : (nm == [116, 114, 117, 101]) = false) (h1 : (nm == [58]) = false) (h2 : (nm == [102, 97, 108, 115, 101]) = false) (h3 : (nm == [101, 99, 104, 111]) = true) (r : List (List UInt8)) (hln : l = [45, 110] :: r) (hj : (Lib.join r [32]).length ≤ 140737488355328) (hn : l.length ≤ 140737488355328) :
    Calls Tryz.prog 58 #[pv, v, .string ⟨inn.toArray⟩, sv] w fun e w' => e = .returned (.tuple #[.int .i64 0, .string ⟨(echoF l).toArray⟩]) ∧ Below w.heap.size w w' := by
  subst hln
  obtain ⟨g, o, cp, rfl, hcap, hK, hg, e0, hx1, htl⟩ := StrsAt.cons hl
  obtain ⟨a', ha', hsl⟩ := slice_tail g o ([45, 110] :: r).length cp hcap
  have e1 : w.cell? ⟨g, o + 1, none⟩ = some (.string ⟨#[45, 110]⟩) := hx1 _ _ rfl
  have hae : a' = some ⟨g, o + 1, none⟩ := ha' (by simp)
  subst hae
  obtain ⟨a2, ha2, hsl2⟩ := slice_tail g (o + 1) r.length (cp - 1) (by simp only [List.length_cons] at hcap; omega)
  have HT2 : Hid (StrsAt K w (.slice a2 r.length (cp - 1 - 1)) r) := Lib.hid (by
    obtain ⟨g', o', cp', hv', _, _, _, _, _, ht2⟩ := StrsAt.cons (htl (some ⟨g, o + 1, none⟩) (cp - 1) (fun _ => rfl) (by omega))
    simp only [List.length_cons, Value.slice.injEq, Option.some.injEq, Addr.mk.injEq] at hv'
    obtain ⟨⟨rfl, rfl, -⟩, -, rfl⟩ := hv'
    exact ht2 a2 _ (fun h => ha2 (fun h0 => h (List.eq_nil_of_length_eq_zero h0))) (by simp only [List.length_cons] at hcap; omega))
  have hb0 : ((r.length : Int) + 1 + 1 == 0) = false := beq_eq_false_iff_ne.2 (by omega)
  have hb1 : 0 < (r.length : Int) + 1 := by omega
  have HJ : Hid (∀ W, StrsAt K W (.slice a2 r.length (cp - 1 - 1)) r → Calls Tryz.prog 76 #[.slice a2 r.length (cp - 1 - 1), .string ⟨#[32]⟩] W fun e w' => e = .returned (.string ⟨(Lib.join r [32]).toArray⟩) ∧ Below W.heap.size W w') := Lib.hid (fun W h => join_any ⟨#[32]⟩ W h (by simp only [List.length_cons] at hn; omega) hj)
  have HE : Hid (echoF ([45, 110] :: r) = Lib.join r [32]) := Lib.hid rfl
  clear hl htl hK ha' hx1 hn hj ha2
  simp only [List.length_cons] at hsl hcap
  generalize Lib.join r [32] = jr at HJ HE
  go_enter Tryz.func58, Tryz.ntmps58
  go_wp2
  go_quiet (fail)
  go_wp2_with fail
  go_at_call 76
  refine (HJ.out _ (HT2.out.keep (fun k _ hk => (belowN _ _).block k hk))).mono ?_
  rintro e w1 ⟨rfl, hb1⟩
  have HB := Lib.hid ((belowN _ _).trans (hb1.mono (belowN _ _).size))
  clear hb1
  go_wp2
  go_ret2
  exact ⟨by rw [HE.out]; rfl, HB.out⟩

set_option maxHeartbeats 4000000 in
set_option maxRecDepth 100000 in
theorem run_echo_some (pv : Value) {K : Nat → Prop} {v sv : Value} (nm : List UInt8) (l : List (List UInt8)) (inn : List UInt8) (w : World) (hl : StrsAt K w v (nm :: l)) (h0 : (nm == [116, 114, 117, 101]) = false) (h1 : (nm == [58]) = false) (h2 : (nm == [102, 97, 108, 115, 101]) = false) (h3 : (nm == [101, 99, 104, 111]) = true) (x : List UInt8) (r : List (List UInt8)) (hln : l = x :: r) (hxn : (x == [45, 110]) = false) (hj : (Lib.join (x :: r) [32]).length ≤ 140737488355000) (hn : l.length ≤ 140737488355328) :
    Calls Tryz.prog 58 #[pv, v, .string ⟨inn.toArray⟩, sv] w fun e w' => e = .returned (.tuple #[.int .i64 0, .string ⟨(echoF l).toArray⟩]) ∧ Below w.heap.size w w' := by
  subst hln
  obtain ⟨g, o, cp, rfl, hcap, hK, hg, e0, hx1, htl⟩ := StrsAt.cons hl
  obtain ⟨a', ha', hsl⟩ := slice_tail g o (x :: r).length cp hcap
  have HT : Hid (StrsAt K w (.slice a' (x :: r).length (cp - 1)) (x :: r)) := Lib.hid (htl a' (cp - 1) (fun h => ha' (fun h0 => h (List.eq_nil_of_length_eq_zero h0))) (by omega))
  have e1 : w.cell? ⟨g, o + 1, none⟩ = some (.string ⟨x.toArray⟩) := hx1 _ _ rfl
  have hae : a' = some ⟨g, o + 1, none⟩ := ha' (by simp)
  subst hae
  have hb0 : ((r.length : Int) + 1 + 1 == 0) = false := beq_eq_false_iff_ne.2 (by omega)
  have hb1 : 0 < (r.length : Int) + 1 := by omega
  have HJ : Hid (∀ W, StrsAt K W (.slice (some ⟨g, o + 1, none⟩) (r.length + 1) (cp - 1)) (x :: r) → Calls Tryz.prog 76 #[.slice (some ⟨g, o + 1, none⟩) (r.length + 1) (cp - 1), .string ⟨#[32]⟩] W fun e w' => e = .returned (.string ⟨(Lib.join (x :: r) [32]).toArray⟩) ∧ Below W.heap.size W w') := Lib.hid (fun W h => join_any ⟨#[32]⟩ W h hn (by show (Lib.join (x :: r) [32]).length ≤ _; omega))
  have HE : Hid (echoF (x :: r) = Lib.join (x :: r) [32] ++ [10]) := Lib.hid (echoF_some x r hxn)
  clear hl htl hK ha' hx1 hn
  simp only [List.length_cons] at hsl hcap HT
  generalize Lib.join (x :: r) [32] = jr at HJ HE hj
  go_enter Tryz.func58, Tryz.ntmps58
  go_wp2
  go_quiet (fail)
  go_wp2_with fail
  go_at_call 76
  refine (HJ.out _ (HT.out.keep (fun k _ hk => (belowN _ _).block k hk))).mono ?_
  rintro e w1 ⟨rfl, hb1⟩
  have HB := Lib.hid ((belowN _ _).trans (hb1.mono (belowN _ _).size))
  have hcat : Hid ((⟨jr.toArray⟩ : ByteArray) ++ ⟨#[10]⟩ = ⟨(jr ++ [10]).toArray⟩) := Lib.hid (by apply bs_ext; simp)
  clear hb1
  go_wp2
  go_ret2
  exact ⟨by rw [HE.out, ← hcat.out]; rfl, HB.out⟩

set_option maxHeartbeats 4000000 in
set_option maxRecDepth 100000 in
theorem run_cat (pv : Value) {K : Nat → Prop} {v sv : Value} (nm : List UInt8) (l : List (List UInt8)) (inn : List UInt8) (w : World) (hl : StrsAt K w v (nm :: l)) (h0 : (nm == [116, 114, 117, 101]) = false) (h1 : (nm == [58]) = false) (h2 : (nm == [102, 97, 108, 115, 101]) = false) (h3 : (nm == [101, 99, 104, 111]) = false) (h4 : (nm == [99, 97, 116]) = true) (n : Int) (t : List UInt8) (Q : World → Prop) (hcall : ∀ W v', StrsAt K W v' l → Below w.heap.size w W → Calls Tryz.prog 77 #[v', .string ⟨inn.toArray⟩, sv] W fun e W' => e = .returned (.tuple #[.int .i64 n, .string ⟨t.toArray⟩]) ∧ Q W') :
    Calls Tryz.prog 58 #[pv, v, .string ⟨inn.toArray⟩, sv] w fun e w' => e = .returned (.tuple #[.int .i64 n, .string ⟨t.toArray⟩]) ∧ Q w' := by
  obtain ⟨g, o, cp, rfl, hcap, hK, hg, e0, hx1, htl⟩ := StrsAt.cons hl
  obtain ⟨a', ha', hsl⟩ := slice_tail g o l.length cp hcap
  have HT : Hid (StrsAt K w (.slice a' l.length (cp - 1)) l) := Lib.hid (htl a' (cp - 1) (fun h => ha' (fun h0 => h (List.eq_nil_of_length_eq_zero h0))) (by omega))
  have hb0 : ((l.length : Int) + 1 == 0) = false := beq_eq_false_iff_ne.2 (by omega)
  have HC := Lib.hid hcall
  clear hcall
  clear hl htl hK ha'
  clear hx1
  go_enter Tryz.func58, Tryz.ntmps58
  go_wp2
  go_quiet (fail)
  go_wp2_with fail
  go_at_call 77
  refine (HC.out _ _ (HT.out.keep (fun k _ hk => (belowN _ _).block k hk)) (belowN _ _)).mono ?_
  rintro e w1 ⟨rfl, hq⟩
  have HQ := Lib.hid hq
  clear hq
  go_wp2
  go_ret2
  exact ⟨rfl, HQ.out⟩

set_option maxHeartbeats 4000000 in
set_option maxRecDepth 100000 in
theorem run_test (pv : Value) {K : Nat → Prop} {v sv : Value} (nm : List UInt8) (l : List (List UInt8)) (inn : List UInt8) (w : World) (hl : StrsAt K w v (nm :: l)) (h0 : (nm == [116, 114, 117, 101]) = false) (h1 : (nm == [58]) = false) (h2 : (nm == [102, 97, 108, 115, 101]) = false) (h3 : (nm == [101, 99, 104, 111]) = false) (h4 : (nm == [99, 97, 116]) = false) (h5 : (nm == [99, 112]) = false) (h6 : (nm == [109, 118]) = false) (h7 : (nm == [114, 109]) = false) (h8 : (nm == [116, 111, 117, 99, 104]) = false) (h9 : (nm == [109, 107, 100, 105, 114]) = false) (h10 : (nm == [116, 101, 115, 116]) = true) (n : Int) (Q : World → Prop) (hcall : ∀ W v', StrsAt K W v' l → Below w.heap.size w W → Calls Tryz.prog 80 #[v', sv] W fun e W' => e = .returned (.int .i64 n) ∧ Q W') :
    Calls Tryz.prog 58 #[pv, v, .string ⟨inn.toArray⟩, sv] w fun e w' => e = .returned (.tuple #[.int .i64 n, .string ⟨#[]⟩]) ∧ Q w' := by
  obtain ⟨g, o, cp, rfl, hcap, hK, hg, e0, hx1, htl⟩ := StrsAt.cons hl
  obtain ⟨a', ha', hsl⟩ := slice_tail g o l.length cp hcap
  have HT : Hid (StrsAt K w (.slice a' l.length (cp - 1)) l) := Lib.hid (htl a' (cp - 1) (fun h => ha' (fun h0 => h (List.eq_nil_of_length_eq_zero h0))) (by omega))
  have hb0 : ((l.length : Int) + 1 == 0) = false := beq_eq_false_iff_ne.2 (by omega)
  have HC := Lib.hid hcall
  clear hcall
  clear hl htl hK ha'
  clear hx1
  go_enter Tryz.func58, Tryz.ntmps58
  go_wp2
  go_quiet (fail)
  go_wp2_with fail
  go_at_call 80
  refine (HC.out _ _ (HT.out.keep (fun k _ hk => (belowN _ _).block k hk)) (belowN _ _)).mono ?_
  rintro e w1 ⟨rfl, hq⟩
  have HQ := Lib.hid hq
  clear hq
  go_wp2
  go_ret2
  exact ⟨rfl, HQ.out⟩

set_option maxHeartbeats 4000000 in
set_option maxRecDepth 100000 in
theorem run_cp (pv : Value) {K : Nat → Prop} {v sv : Value} (nm : List UInt8) (l : List (List UInt8)) (inn : List UInt8) (w : World) (hl : StrsAt K w v (nm :: l)) (h0 : (nm == [116, 114, 117, 101]) = false) (h1 : (nm == [58]) = false) (h2 : (nm == [102, 97, 108, 115, 101]) = false) (h3 : (nm == [101, 99, 104, 111]) = false) (h4 : (nm == [99, 97, 116]) = false) (h5 : (nm == [99, 112]) = true) (n : Int) (Q : World → Prop) (hcall : ∀ W v', StrsAt K W v' l → Below w.heap.size w W → Calls Tryz.prog 78 #[.string ⟨nm.toArray⟩, v', sv] W fun e W' => e = .returned (.int .i64 n) ∧ Q W') :
    Calls Tryz.prog 58 #[pv, v, .string ⟨inn.toArray⟩, sv] w fun e w' => e = .returned (.tuple #[.int .i64 n, .string ⟨#[]⟩]) ∧ Q w' := by
  obtain ⟨g, o, cp, rfl, hcap, hK, hg, e0, hx1, htl⟩ := StrsAt.cons hl
  obtain ⟨a', ha', hsl⟩ := slice_tail g o l.length cp hcap
  have HT : Hid (StrsAt K w (.slice a' l.length (cp - 1)) l) := Lib.hid (htl a' (cp - 1) (fun h => ha' (fun h0 => h (List.eq_nil_of_length_eq_zero h0))) (by omega))
  have hb0 : ((l.length : Int) + 1 == 0) = false := beq_eq_false_iff_ne.2 (by omega)
  have HC := Lib.hid hcall
  clear hcall
  clear hl htl hK ha'
  clear hx1
  go_enter Tryz.func58, Tryz.ntmps58
  go_wp2
  go_quiet (fail)
  go_wp2_with fail
  go_at_call 78
  refine (HC.out _ _ (HT.out.keep (fun k _ hk => (belowN _ _).block k hk)) (belowN _ _)).mono ?_
  rintro e w1 ⟨rfl, hq⟩
  have HQ := Lib.hid hq
  clear hq
  go_wp2
  go_ret2
  exact ⟨rfl, HQ.out⟩

set_option maxHeartbeats 4000000 in
set_option maxRecDepth 100000 in
theorem run_mv (pv : Value) {K : Nat → Prop} {v sv : Value} (nm : List UInt8) (l : List (List UInt8)) (inn : List UInt8) (w : World) (hl : StrsAt K w v (nm :: l)) (h0 : (nm == [116, 114, 117, 101]) = false) (h1 : (nm == [58]) = false) (h2 : (nm == [102, 97, 108, 115, 101]) = false) (h3 : (nm == [101, 99, 104, 111]) = false) (h4 : (nm == [99, 97, 116]) = false) (h5 : (nm == [99, 112]) = false) (h6 : (nm == [109, 118]) = true) (n : Int) (Q : World → Prop) (hcall : ∀ W v', StrsAt K W v' l → Below w.heap.size w W → Calls Tryz.prog 78 #[.string ⟨nm.toArray⟩, v', sv] W fun e W' => e = .returned (.int .i64 n) ∧ Q W') :
    Calls Tryz.prog 58 #[pv, v, .string ⟨inn.toArray⟩, sv] w fun e w' => e = .returned (.tuple #[.int .i64 n, .string ⟨#[]⟩]) ∧ Q w' := by
  obtain ⟨g, o, cp, rfl, hcap, hK, hg, e0, hx1, htl⟩ := StrsAt.cons hl
  obtain ⟨a', ha', hsl⟩ := slice_tail g o l.length cp hcap
  have HT : Hid (StrsAt K w (.slice a' l.length (cp - 1)) l) := Lib.hid (htl a' (cp - 1) (fun h => ha' (fun h0 => h (List.eq_nil_of_length_eq_zero h0))) (by omega))
  have hb0 : ((l.length : Int) + 1 == 0) = false := beq_eq_false_iff_ne.2 (by omega)
  have HC := Lib.hid hcall
  clear hcall
  clear hl htl hK ha'
  clear hx1
  go_enter Tryz.func58, Tryz.ntmps58
  go_wp2
  go_quiet (fail)
  go_wp2_with fail
  go_at_call 78
  refine (HC.out _ _ (HT.out.keep (fun k _ hk => (belowN _ _).block k hk)) (belowN _ _)).mono ?_
  rintro e w1 ⟨rfl, hq⟩
  have HQ := Lib.hid hq
  clear hq
  go_wp2
  go_ret2
  exact ⟨rfl, HQ.out⟩

set_option maxHeartbeats 4000000 in
set_option maxRecDepth 100000 in
theorem run_rm (pv : Value) {K : Nat → Prop} {v sv : Value} (nm : List UInt8) (l : List (List UInt8)) (inn : List UInt8) (w : World) (hl : StrsAt K w v (nm :: l)) (h0 : (nm == [116, 114, 117, 101]) = false) (h1 : (nm == [58]) = false) (h2 : (nm == [102, 97, 108, 115, 101]) = false) (h3 : (nm == [101, 99, 104, 111]) = false) (h4 : (nm == [99, 97, 116]) = false) (h5 : (nm == [99, 112]) = false) (h6 : (nm == [109, 118]) = false) (h7 : (nm == [114, 109]) = true) (n : Int) (Q : World → Prop) (hcall : ∀ W v', StrsAt K W v' l → Below w.heap.size w W → Calls Tryz.prog 79 #[.string ⟨nm.toArray⟩, v', sv] W fun e W' => e = .returned (.int .i64 n) ∧ Q W') :
    Calls Tryz.prog 58 #[pv, v, .string ⟨inn.toArray⟩, sv] w fun e w' => e = .returned (.tuple #[.int .i64 n, .string ⟨#[]⟩]) ∧ Q w' := by
  obtain ⟨g, o, cp, rfl, hcap, hK, hg, e0, hx1, htl⟩ := StrsAt.cons hl
  obtain ⟨a', ha', hsl⟩ := slice_tail g o l.length cp hcap
  have HT : Hid (StrsAt K w (.slice a' l.length (cp - 1)) l) := Lib.hid (htl a' (cp - 1) (fun h => ha' (fun h0 => h (List.eq_nil_of_length_eq_zero h0))) (by omega))
  have hb0 : ((l.length : Int) + 1 == 0) = false := beq_eq_false_iff_ne.2 (by omega)
  have HC := Lib.hid hcall
  clear hcall
  clear hl htl hK ha'
  clear hx1
  go_enter Tryz.func58, Tryz.ntmps58
  go_wp2
  go_quiet (fail)
  go_wp2_with fail
  go_at_call 79
  refine (HC.out _ _ (HT.out.keep (fun k _ hk => (belowN _ _).block k hk)) (belowN _ _)).mono ?_
  rintro e w1 ⟨rfl, hq⟩
  have HQ := Lib.hid hq
  clear hq
  go_wp2
  go_ret2
  exact ⟨rfl, HQ.out⟩

set_option maxHeartbeats 4000000 in
set_option maxRecDepth 100000 in
theorem run_touch (pv : Value) {K : Nat → Prop} {v sv : Value} (nm : List UInt8) (l : List (List UInt8)) (inn : List UInt8) (w : World) (hl : StrsAt K w v (nm :: l)) (h0 : (nm == [116, 114, 117, 101]) = false) (h1 : (nm == [58]) = false) (h2 : (nm == [102, 97, 108, 115, 101]) = false) (h3 : (nm == [101, 99, 104, 111]) = false) (h4 : (nm == [99, 97, 116]) = false) (h5 : (nm == [99, 112]) = false) (h6 : (nm == [109, 118]) = false) (h7 : (nm == [114, 109]) = false) (h8 : (nm == [116, 111, 117, 99, 104]) = true) (n : Int) (Q : World → Prop) (hcall : ∀ W v', StrsAt K W v' l → Below w.heap.size w W → Calls Tryz.prog 79 #[.string ⟨nm.toArray⟩, v', sv] W fun e W' => e = .returned (.int .i64 n) ∧ Q W') :
    Calls Tryz.prog 58 #[pv, v, .string ⟨inn.toArray⟩, sv] w fun e w' => e = .returned (.tuple #[.int .i64 n, .string ⟨#[]⟩]) ∧ Q w' := by
  obtain ⟨g, o, cp, rfl, hcap, hK, hg, e0, hx1, htl⟩ := StrsAt.cons hl
  obtain ⟨a', ha', hsl⟩ := slice_tail g o l.length cp hcap
  have HT : Hid (StrsAt K w (.slice a' l.length (cp - 1)) l) := Lib.hid (htl a' (cp - 1) (fun h => ha' (fun h0 => h (List.eq_nil_of_length_eq_zero h0))) (by omega))
  have hb0 : ((l.length : Int) + 1 == 0) = false := beq_eq_false_iff_ne.2 (by omega)
  have HC := Lib.hid hcall
  clear hcall
  clear hl htl hK ha'
  clear hx1
  go_enter Tryz.func58, Tryz.ntmps58
  go_wp2
  go_quiet (fail)
  go_wp2_with fail
  go_at_call 79
  refine (HC.out _ _ (HT.out.keep (fun k _ hk => (belowN _ _).block k hk)) (belowN _ _)).mono ?_
  rintro e w1 ⟨rfl, hq⟩
  have HQ := Lib.hid hq
  clear hq
  go_wp2
  go_ret2
  exact ⟨rfl, HQ.out⟩

set_option maxHeartbeats 4000000 in
set_option maxRecDepth 100000 in
theorem run_mkdir (pv : Value) {K : Nat → Prop} {v sv : Value} (nm : List UInt8) (l : List (List UInt8)) (inn : List UInt8) (w : World) (hl : StrsAt K w v (nm :: l)) (h0 : (nm == [116, 114, 117, 101]) = false) (h1 : (nm == [58]) = false) (h2 : (nm == [102, 97, 108, 115, 101]) = false) (h3 : (nm == [101, 99, 104, 111]) = false) (h4 : (nm == [99, 97, 116]) = false) (h5 : (nm == [99, 112]) = false) (h6 : (nm == [109, 118]) = false) (h7 : (nm == [114, 109]) = false) (h8 : (nm == [116, 111, 117, 99, 104]) = false) (h9 : (nm == [109, 107, 100, 105, 114]) = true) (n : Int) (Q : World → Prop) (hcall : ∀ W v', StrsAt K W v' l → Below w.heap.size w W → Calls Tryz.prog 79 #[.string ⟨nm.toArray⟩, v', sv] W fun e W' => e = .returned (.int .i64 n) ∧ Q W') :
    Calls Tryz.prog 58 #[pv, v, .string ⟨inn.toArray⟩, sv] w fun e w' => e = .returned (.tuple #[.int .i64 n, .string ⟨#[]⟩]) ∧ Q w' := by
  obtain ⟨g, o, cp, rfl, hcap, hK, hg, e0, hx1, htl⟩ := StrsAt.cons hl
  obtain ⟨a', ha', hsl⟩ := slice_tail g o l.length cp hcap
  have HT : Hid (StrsAt K w (.slice a' l.length (cp - 1)) l) := Lib.hid (htl a' (cp - 1) (fun h => ha' (fun h0 => h (List.eq_nil_of_length_eq_zero h0))) (by omega))
  have hb0 : ((l.length : Int) + 1 == 0) = false := beq_eq_false_iff_ne.2 (by omega)
  have HC := Lib.hid hcall
  clear hcall
  clear hl htl hK ha'
  clear hx1
  go_enter Tryz.func58, Tryz.ntmps58
  go_wp2
  go_quiet (fail)
  go_wp2_with fail
  go_at_call 79
  refine (HC.out _ _ (HT.out.keep (fun k _ hk => (belowN _ _).block k hk)) (belowN _ _)).mono ?_
  rintro e w1 ⟨rfl, hq⟩
  have HQ := Lib.hid hq
  clear hq
  go_wp2
  go_ret2
  exact ⟨rfl, HQ.out⟩

end Go.Proofs.YtmagggflamdahaaGreatDoor
