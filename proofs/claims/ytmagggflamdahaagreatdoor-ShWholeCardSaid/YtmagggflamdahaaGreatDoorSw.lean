/- sh.files: its closures for a flag, and for mkdir -p. sh.files: rm, mkdir. Printed by wip/genshrm.py. sh.two: mv. sh's exit; run of an exit. -/
import Derived.Test.YtmagggflamdahaaGreatDoorSv
import Derived.Test.YtmagggflamdahaaGreatDoorSi
import Derived.Test.YtmagggflamdahaaGreatDoorSl
import Derived.Test.YtmagggflamdahaaGreatDoorSu
namespace Go.Proofs.YtmagggflamdahaaGreatDoor
open Go.RowKit

/-- is the first word the flag -/
def flagS (flag : List UInt8) (l : List (List UInt8)) : Bool := match l with | [] => false | x :: _ => x == flag

def FlagQ (lb : Nat) (K : Nat → Prop) (flag : List UInt8) (l : List (List UInt8)) (w : World) (e : Ending) (w' : World) : Prop :=
  e = .returned (.bool (flagS flag l)) ∧ (∃ v', w'.heap[lb]? = some (.cells #[v'] 29 (0, 0)) ∧ StrsAt K w' v' (if flagS flag l then l.drop 1 else l)) ∧ Keeps w.heap.size (fun k => k = lb) w w'

set_option maxHeartbeats 2000000 in
set_option maxRecDepth 100000 in
/-- the flag is taken off, if it is there: the words lie in the cell of block lb -/
theorem flag_any (lb : Nat) {K : Nat → Prop} {v : Value} (flag : List UInt8) (l : List (List UInt8)) (w : World) (hc : w.heap[lb]? = some (.cells #[v] 29 (0, 0))) (hl : StrsAt K w v l) (hK : ∀ k, K k → k ≠ lb) :
    Calls Tryz.prog 114 #[.string ⟨flag.toArray⟩, .pointer (some ⟨lb, 0, none⟩)] w (FlagQ lb K flag l w) := by
  have c0 : w.cell? ⟨lb, 0, none⟩ = some v := Lib.cell_of_heap hc 0
  have f0 : w.frozen? ⟨lb, 0, none⟩ = false := Lib.frozen_of_heap hc 0
  cases l with
  | nil =>
    obtain ⟨a, c, rfl⟩ := hl.isSlice
    have HF : Hid (∃ v', w.heap[lb]? = some (.cells #[v'] 29 (0, 0)) ∧ StrsAt K w v' []) := Lib.hid ⟨_, hc, hl⟩
    clear hc hl hK f0
    simp only [List.length_nil] at c0
    go_enter Tryz.func114, Tryz.ntmps114
    go_wp2
    go_ret
    exact ⟨rfl, HF.out, Keeps.refl _ _ _⟩
  | cons x r =>
    have HL := Lib.hid hl
    obtain ⟨g, o, cap, rfl, hcap, hKg, hg, e0, _, htl⟩ := StrsAt.cons hl
    have hb0 : ((r.length : Int) + 1 == 0) = false := beq_eq_false_iff_ne.2 (by omega)
    cases hx : (x == flag) with
    | false =>
      have hxn : (!x == flag) = true := by rw [hx]; rfl
      have HF : Hid (∃ v', w.heap[lb]? = some (.cells #[v'] 29 (0, 0)) ∧ StrsAt K w v' (x :: r)) := Lib.hid ⟨_, hc, HL.out⟩
      have HS : Hid (flagS flag (x :: r) = false) := Lib.hid hx
      have HCp := Lib.hid hcap
      clear hc hl hK f0 htl hKg hx hcap
      go_enter Tryz.func114, Tryz.ntmps114
      go_wp2
      go_ret
      exact ⟨by rw [HS.out]; rfl, by rw [HS.out]; exact HF.out, Keeps.refl _ _ _⟩
    | true =>
      have hxn : (!x == flag) = false := by rw [hx]; rfl
      have HS : Hid (flagS flag (x :: r) = true) := Lib.hid hx
      obtain ⟨a', ha', hsl⟩ := slice_tail g o r.length cap hcap
      have hT : StrsAt K w (.slice a' r.length (cap - 1)) r := htl a' (cap - 1) (fun h => ha' (fun h0 => h (List.eq_nil_of_length_eq_zero h0))) (by omega)
      have HF : Hid (∃ v', (w.setCell ⟨lb, 0, none⟩ (.slice a' r.length (cap - 1))).heap[lb]? = some (.cells #[v'] 29 (0, 0)) ∧ StrsAt K (w.setCell ⟨lb, 0, none⟩ (.slice a' r.length (cap - 1))) v' r) :=
        Lib.hid ⟨_, heap_set hc 0 _, SlAt.keep hT (fun k hk _ => Below.heap_setCell w ⟨lb, 0, none⟩ _ k (hK k hk))⟩
      have HKp : Hid (Keeps w.heap.size (fun k => k = lb) w (w.setCell ⟨lb, 0, none⟩ (.slice a' r.length (cap - 1)))) := Lib.hid (Keeps.setCell (B := w.heap.size) (M := fun k => k = lb) (Keeps.refl _ _ _) (p := ⟨lb, 0, none⟩) (.inr rfl) _)
      have HCp := Lib.hid hcap
      clear hc hl hK htl hKg hx ha' hT hcap
      go_enter Tryz.func114, Tryz.ntmps114
      go_wp2
      go_ret
      exact ⟨by rw [HS.out]; rfl, by rw [HS.out]; exact HF.out, HKp.out⟩

/-- a directory is made, if it is not there -/
def mkpF (st : PStore) (p : List UInt8) : PStore × Int := if (statF st p).2.2 = 0 ∧ (statF st p).2.1 = true then (st, 0) else mkdirF st p

def MkpQ (pb mb : Nat) (st : PStore) (x : List UInt8) (w : World) (e : Ending) (w' : World) : Prop := e = .returned (.int .i64 (mkpF st x).2) ∧ IsStore pb mb (mkpF st x).1 w' ∧ Keeps w.heap.size (fun k => k = pb ∨ k = mb) w w'

set_option maxHeartbeats 2000000 in
set_option maxRecDepth 100000 in
theorem mkp_any (pb mb cb : Nat) (st : PStore) (x : List UInt8) (hx : x.length ≤ 262144) (w : World) (h : IsStore pb mb st w) (hc : w.cell? ⟨cb, 0, none⟩ = some (.pointer (some ⟨pb, 0, none⟩))) :
    Calls Tryz.prog 118 #[.string ⟨x.toArray⟩, .pointer (some ⟨cb, 0, none⟩)] w (MkpQ pb mb st x w) := by
  have HS : Hid (Calls Tryz.prog 119 #[.pointer (some ⟨pb, 0, none⟩), .string ⟨x.toArray⟩] w fun e w' => e = .returned (.tuple #[.int .i64 (statF st x).1, .bool (statF st x).2.1, .int .i64 (statF st x).2.2]) ∧ Below w.heap.size w w') := Lib.hid (stat_store pb mb st ⟨x.toArray⟩ (by show x.toArray.size ≤ _; simpa using hx) w h)
  have hF : Hid (mkpF st x = if (statF st x).2.2 = 0 ∧ (statF st x).2.1 = true then (st, 0) else mkdirF st x) := Lib.hid rfl
  have HM : Hid (∀ w, IsStore pb mb st w → Calls Tryz.prog 30 #[.pointer (some ⟨pb, 0, none⟩), .string ⟨x.toArray⟩] w fun e w' => e = .returned (.int .i64 (mkdirF st x).2) ∧ IsStore pb mb (mkdirF st x).1 w' ∧ Keeps w.heap.size (fun k => k = pb ∨ k = mb) w w') := Lib.hid (fun w h => mkdir_store pb mb st ⟨x.toArray⟩ (by show x.toArray.size ≤ _; simpa using hx) w h)
  have H := Lib.hid h
  have hcl := World.block_lt_of_cell? w ⟨cb, 0, none⟩ hc
  generalize statF st x = q at HS hF
  generalize mkdirF st x = md at HM hF
  obtain ⟨qm, qd, qe⟩ := q
  obtain ⟨st2, n2⟩ := md
  simp only at HS hF HM
  clear h
  go_enter Tryz.func118, Tryz.ntmps118
  go_wp2_with fail
  go_at_call 119
  refine HS.out.mono ?_
  rintro e w1 ⟨rfl, hb1⟩
  have c1 : w1.cell? ⟨cb, 0, none⟩ = some (.pointer (some ⟨pb, 0, none⟩)) := (hb1.cell (p := ⟨cb, 0, none⟩) hcl).trans hc
  have HB1 := Lib.hid hb1
  have HI1 := Lib.hid (H.out.below hb1)
  clear hb1 hc
  cases he : (qe == 0) with
  | true =>
    cases qd with
    | true =>
      have HF : Hid (mkpF st x = (st, 0)) := Lib.hid (by rw [hF.out, if_pos ⟨by simpa using he, rfl⟩])
      go_wp2
      go_ret
      exact ⟨by rw [HF.out]; rfl, by rw [HF.out]; exact HI1.out, Keeps.of HB1.out _⟩
    | false =>
      have HF : Hid (mkpF st x = (st2, n2)) := Lib.hid (by rw [hF.out, if_neg (by simp)])
      go_wp2_with fail
      go_at_call 30
      refine (HM.out _ HI1.out).mono ?_
      rintro e w2 ⟨rfl, hs2, hk2⟩
      have HS2 := Lib.hid hs2
      have HK2 : Hid (Keeps w.heap.size (fun k => k = pb ∨ k = mb) w w2) := Lib.hid ((Keeps.of HB1.out _).trans (hk2.mono HB1.out.size (fun _ _ h => h)))
      clear hs2 hk2
      go_wp2
      go_ret
      exact ⟨by rw [HF.out]; rfl, by rw [HF.out]; exact HS2.out, HK2.out⟩
  | false =>
    have HF : Hid (mkpF st x = (st2, n2)) := Lib.hid (by rw [hF.out, if_neg (by intro h; rw [h.1] at he; simp at he)])
    go_wp2_with fail
    go_at_call 30
    refine (HM.out _ HI1.out).mono ?_
    rintro e w2 ⟨rfl, hs2, hk2⟩
    have HS2 := Lib.hid hs2
    have HK2 : Hid (Keeps w.heap.size (fun k => k = pb ∨ k = mb) w w2) := Lib.hid ((Keeps.of HB1.out _).trans (hk2.mono HB1.out.size (fun _ _ h => h)))
    clear hs2 hk2
    go_wp2
    go_ret
    exact ⟨by rw [HF.out]; rfl, by rw [HF.out]; exact HS2.out, HK2.out⟩
end Go.Proofs.YtmagggflamdahaaGreatDoor

namespace Go.Proofs.YtmagggflamdahaaGreatDoor
open Go.RowKit

def rmfF (st : PStore) (p : List UInt8) : PStore × Int := ((removeF st p).1, if (removeF st p).2 = 6 then 0 else (removeF st p).2)

set_option maxHeartbeats 2000000 in
set_option maxRecDepth 100000 in
theorem rmf_any (pb mb cb : Nat) (st : PStore) (x : List UInt8) (hx : x.length ≤ 131070) (w : World) (h : IsStore pb mb st w) (hc : w.cell? ⟨cb, 0, none⟩ = some (.pointer (some ⟨pb, 0, none⟩))) :
    Calls Tryz.prog 117 #[.string ⟨x.toArray⟩, .pointer (some ⟨cb, 0, none⟩)] w (StoreQ pb mb (rmfF st x) w) := by
  have HM := remove_store pb mb st ⟨x.toArray⟩ (by show x.toArray.size ≤ _; simpa using hx) w h
  have hF : Hid (rmfF st x = ((removeF st x).1, if (removeF st x).2 = 6 then 0 else (removeF st x).2)) := Lib.hid rfl
  change Calls _ _ _ _ (StoreQ pb mb (removeF st x) w) at HM
  generalize rmfF st x = r at hF ⊢
  generalize removeF st x = md at HM hF
  obtain ⟨st2, n2⟩ := md
  unfold StoreQ at HM
  simp only at HM hF
  replace HM := Lib.hid HM
  clear h
  go_enter Tryz.func117, Tryz.ntmps117
  go_wp2_with fail
  go_at_call 116
  refine HM.out.mono ?_
  rintro e w1 ⟨rfl, hs1, hk1⟩
  have HS1 := Lib.hid hs1
  have HK1 := Lib.hid hk1
  clear hs1 hk1 hc
  by_cases h6 : n2 = 6
  · have hb : (n2 != 6) = false := by rw [h6]; rfl
    have HR : Hid (r = (st2, 0)) := Lib.hid (by rw [hF.out, if_pos h6])
    clear h6
    go_wp2
    go_ret
    exact ⟨by rw [HR.out]; rfl, by rw [HR.out]; exact HS1.out, HK1.out⟩
  · have hb : (n2 != 6) = true := by simpa using h6
    have HR : Hid (r = (st2, n2)) := Lib.hid (by rw [hF.out, if_neg h6])
    clear h6
    go_wp2
    go_ret
    exact ⟨by rw [HR.out]; rfl, by rw [HR.out]; exact HS1.out, HK1.out⟩

def rmF (st : PStore) (l : List (List UInt8)) : PStore × Int := if flagS [45, 102] l then eachS rmfF st (l.drop 1) else eachS removeF st l
def mkF (st : PStore) (l : List (List UInt8)) : PStore × Int := if flagS [45, 112] l then eachS mkpF st (l.drop 1) else eachS mkdirF st l
theorem StrsAt.isSl {K : Nat → Prop} {w : World} {v : Value} {l : List (List UInt8)} (h : StrsAt K w v l) : ∃ a c, v = .slice a l.length c := SlAt.isSlice h

set_option maxHeartbeats 1000000 in
set_option maxRecDepth 100000 in
theorem files_rm (pb mb : Nat) (st : PStore) {K0 : Nat → Prop} {v : Value} (nm : List UInt8) (h1 : (nm == [116, 111, 117, 99, 104]) = false) (h2 : (nm == [114, 109]) = true) (l : List (List UInt8)) (hn : l.length ≤ 1048576) (hx : ∀ x ∈ l, x.length ≤ 131070) (w : World) (hl : StrsAt K0 w v l) (h : IsStore pb mb st w) (hK0 : ∀ k, K0 k → k ≠ pb ∧ k ≠ mb) :
    Calls Tryz.prog 79 #[.string ⟨nm.toArray⟩, v, .pointer (some ⟨pb, 0, none⟩)] w (StoreQ pb mb (rmF st l) w) := by
  obtain ⟨a, c, rfl⟩ := hl.isSlice
  obtain ⟨W1, hW1⟩ : ∃ W1, W1 = (w.alloc (.cells #[.slice a l.length c] 29)).alloc (.cells #[.pointer (some ⟨pb, 0, none⟩)] 31) := ⟨_, rfl⟩
  have hB0 : Below w.heap.size w W1 := by rw [hW1]; exact ((Below.refl _ _).alloc (Nat.le_refl _) _).alloc (by simp) _
  have hx1 : W1.heap[w.heap.size]? = some (.cells #[.slice a l.length c] 29 (0, 0)) := by rw [hW1]; exact (Below.heap_alloc _ _ _ (by simp)).trans (heap_alloc_new w _)
  have hx2 : W1.heap[w.heap.size + 1]? = some (.cells #[.pointer (some ⟨pb, 0, none⟩)] 31 (0, 0)) := by
    have := heap_alloc_new (w.alloc (.cells #[.slice a l.length c] 29)) (.cells #[.pointer (some ⟨pb, 0, none⟩)] 31)
    have hz : (w.alloc (.cells #[.slice a l.length c] 29)).heap.size = w.heap.size + 1 := by simp
    rw [hz, ← hW1] at this
    exact this
  have HZ : Hid (W1.heap.size = w.heap.size + 2) := Lib.hid (by rw [hW1]; simp)
  have HPL : Hid (pb < w.heap.size ∧ mb < w.heap.size) := Lib.hid ⟨h.ltp, h.ltm⟩
  have HS0 := Lib.hid (h.below hB0)
  have hl0 : StrsAt (fun k => K0 k ∧ k < w.heap.size) W1 (.slice a l.length c) l := SlAt.keep (SlAt.mono hl (fun k hk hlt => ⟨hk, hlt⟩)) (fun k _ hlt => hB0.block k hlt)
  have HFl : Hid (Calls Tryz.prog 114 #[.string ⟨#[45, 102]⟩, .pointer (some ⟨w.heap.size, 0, none⟩)] W1 (FlagQ w.heap.size (fun k => K0 k ∧ k < w.heap.size) [45, 102] l W1)) := Lib.hid (flag_any w.heap.size [45, 102] l W1 hx1 hl0 (fun k hk => by have := hk.2; omega))
  have HX2 := Lib.hid hx2
  have hF : Hid (rmF st l = if flagS [45, 102] l then eachS rmfF st (l.drop 1) else eachS removeF st l) := Lib.hid rfl
  have HB0 := Lib.hid hB0
  have HK0 := Lib.hid hK0
  have HLx := Lib.hid (And.intro hn hx)
  unfold FlagQ at HFl
  generalize rmF st l = r at hF ⊢
  generalize flagS [45, 102] l = fl at HFl hF
  have HWW := Lib.hid hW1.symm
  clear hB0 hx1 hx2 h hl hx hK0 hl0 hn hW1
  go_enter Tryz.func79, Tryz.ntmps79
  go_wp2_with fail
  rw [HWW.out]
  refine HFl.out.mono ?_
  rintro e w2 ⟨rfl, ⟨v2, hc2, hl2⟩, hk2⟩
  have hx2 : w2.heap[w.heap.size + 1]? = some (.cells #[.pointer (some ⟨pb, 0, none⟩)] 31 (0, 0)) := (hk2.block _ (by rw [HZ.out]; omega) (by omega)).trans HX2.out
  have c4 : w2.cell? ⟨w.heap.size, 0, none⟩ = some v2 := Lib.cell_of_heap hc2 0
  have c5 : w2.cell? ⟨w.heap.size + 1, 0, none⟩ = some (.pointer (some ⟨pb, 0, none⟩)) := Lib.cell_of_heap hx2 0
  have HS2 : Hid (IsStore pb mb st w2) := Lib.hid (HS0.out.keep (fun k hk => hk2.block k (by have := HZ.out; have := HPL.out; omega) (by have := HPL.out; omega)))
  have HB2 : Hid (Below w.heap.size w w2) := Lib.hid (HB0.out.trans ((hk2.mono (B' := w.heap.size) (M' := fun _ => False) (by have := HZ.out; omega) (fun k hk e => by omega)).below (fun _ _ h => h)))
  have HX3 := Lib.hid hx2
  have HE : ∀ {l2 : List (List UInt8)} (hl3 : StrsAt (fun k => K0 k ∧ k < w.heap.size) w2 v2 l2) (hm : ∀ x ∈ l2, x ∈ l) (hn2 : l2.length ≤ l.length) (g : PStore → List UInt8 → PStore × Int) (gf : Nat) (first cap : Array Value) (eg : ∀ args W, (callFunc gf args).run Tryz.prog W = .ok (.enter gf args) W)
      (hdo : ∀ s W x, x.length ≤ 131070 → IsStore pb mb s W → W.cell? ⟨w.heap.size + 1, 0, none⟩ = some (.pointer (some ⟨pb, 0, none⟩)) → Calls Tryz.prog gf (first.push (.string ⟨x.toArray⟩) ++ cap) W (StoreQ pb mb (g s x) W)),
      Calls Tryz.prog 110 #[v2, .func (.func gf) first cap] w2 fun e w' => e = .returned (.int .i64 (eachS g st l2).2) ∧ IsStore pb mb (eachS g st l2).1 w' ∧ Keeps w.heap.size (fun k => k = pb ∨ k = mb) w w' := by
    intro l2 hl3 hm hn2 g gf first cap eg hdo
    refine (each_any g (fun _ s W => IsStore pb mb s W ∧ Keeps w2.heap.size (fun k => k = pb ∨ k = mb) w2 W) gf first cap eg (K := fun k => K0 k ∧ k < w.heap.size) (v := v2) l2 (by have := HLx.out.1; omega) st w2 hl3 ⟨HS2.out, Keeps.refl _ _ _⟩
      (fun i s W hr k hk hlt => hr.2.block k hlt (by rintro (e | e); exact (HK0.out k hk.1).1 e; exact (HK0.out k hk.1).2 e))
      (fun i s W x hxi hr => by
        have hcw : W.cell? ⟨w.heap.size + 1, 0, none⟩ = some (.pointer (some ⟨pb, 0, none⟩)) := (hr.2.cell (p := ⟨w.heap.size + 1, 0, none⟩) (Array.getElem?_eq_some_iff.1 HX3.out).1 (by have := HPL.out; intro h; simp only at h; omega)).trans (Lib.cell_of_heap HX3.out 0)
        refine (hdo s W x (HLx.out.2 x (hm x (List.mem_of_getElem? hxi))) hr.1 hcw).mono ?_
        rintro e W' ⟨rfl, h5, h6⟩
        exact ⟨rfl, h5, hr.2.trans (h6.mono hr.2.size (fun _ _ h => h))⟩)).mono ?_
    rintro e w' ⟨rfl, i, hs, hk⟩
    exact ⟨rfl, hs, (Keeps.of HB2.out _).trans (hk.mono HB2.out.size (fun _ _ h => h))⟩
  cases fl with
  | false =>
    simp only [Bool.false_eq_true, if_false] at hl2
    have HR : Hid (r = eachS removeF st l) := Lib.hid (by rw [hF.out]; rfl)
    have HC := Lib.hid (HE (l2 := l) hl2 (fun _ h => h) (Nat.le_refl _) removeF 116 #[.pointer (some ⟨pb, 0, none⟩)] #[] (fun args W => by kernel_rfl) (fun s W x hx hs _ => remove_store pb mb s ⟨x.toArray⟩ (by show x.toArray.size ≤ _; simpa using hx) W hs))
    obtain ⟨a2, cp2, rfl⟩ := StrsAt.isSl hl2
    generalize eachS removeF st l = q at HC HR
    clear hc2 hl2 hk2 hx2 HE
    go_wp2_with fail
    go_at_call 110
    refine HC.out.mono ?_
    rintro e w3 ⟨rfl, hs, hk⟩
    have HS := Lib.hid hs
    have HK := Lib.hid hk
    clear hs hk
    go_wp2
    go_ret
    exact ⟨by rw [HR.out]; rfl, by rw [HR.out]; exact HS.out, HK.out⟩
  | true =>
    simp only [if_true] at hl2
    have HR : Hid (r = eachS rmfF st (l.drop 1)) := Lib.hid (by rw [hF.out]; rfl)
    have hmm : ∀ x ∈ l.drop 1, x ∈ l := fun _ h => List.mem_of_mem_drop h
    have hnn : (l.drop 1).length ≤ l.length := by rw [List.length_drop]; omega
    generalize l.drop 1 = l3 at hl2 HR hmm hnn
    have HC := Lib.hid (HE (l2 := l3) hl2 hmm hnn rmfF 117 #[] #[.pointer (some ⟨w.heap.size + 1, 0, none⟩)] (fun args W => by kernel_rfl) (fun s W x hx hs hc => rmf_any pb mb _ s x hx W hs hc))
    obtain ⟨a2, cp2, rfl⟩ := StrsAt.isSl hl2
    generalize eachS rmfF st l3 = q at HC HR
    clear hmm hnn
    clear hc2 hl2 hk2 hx2 HE
    go_wp2_with fail
    go_at_call 110
    refine HC.out.mono ?_
    rintro e w3 ⟨rfl, hs, hk⟩
    have HS := Lib.hid hs
    have HK := Lib.hid hk
    clear hs hk
    go_wp2
    go_ret
    exact ⟨by rw [HR.out]; rfl, by rw [HR.out]; exact HS.out, HK.out⟩

set_option maxHeartbeats 1000000 in
set_option maxRecDepth 100000 in
theorem files_mk (pb mb : Nat) (st : PStore) {K0 : Nat → Prop} {v : Value} (nm : List UInt8) (h1 : (nm == [116, 111, 117, 99, 104]) = false) (h2 : (nm == [114, 109]) = false) (h3 : (nm == [109, 107, 100, 105, 114]) = true) (l : List (List UInt8)) (hn : l.length ≤ 1048576) (hx : ∀ x ∈ l, x.length ≤ 131070) (w : World) (hl : StrsAt K0 w v l) (h : IsStore pb mb st w) (hK0 : ∀ k, K0 k → k ≠ pb ∧ k ≠ mb) :
    Calls Tryz.prog 79 #[.string ⟨nm.toArray⟩, v, .pointer (some ⟨pb, 0, none⟩)] w (StoreQ pb mb (mkF st l) w) := by
  obtain ⟨a, c, rfl⟩ := hl.isSlice
  obtain ⟨W1, hW1⟩ : ∃ W1, W1 = (w.alloc (.cells #[.slice a l.length c] 29)).alloc (.cells #[.pointer (some ⟨pb, 0, none⟩)] 31) := ⟨_, rfl⟩
  have hB0 : Below w.heap.size w W1 := by rw [hW1]; exact ((Below.refl _ _).alloc (Nat.le_refl _) _).alloc (by simp) _
  have hx1 : W1.heap[w.heap.size]? = some (.cells #[.slice a l.length c] 29 (0, 0)) := by rw [hW1]; exact (Below.heap_alloc _ _ _ (by simp)).trans (heap_alloc_new w _)
  have hx2 : W1.heap[w.heap.size + 1]? = some (.cells #[.pointer (some ⟨pb, 0, none⟩)] 31 (0, 0)) := by
    have := heap_alloc_new (w.alloc (.cells #[.slice a l.length c] 29)) (.cells #[.pointer (some ⟨pb, 0, none⟩)] 31)
    have hz : (w.alloc (.cells #[.slice a l.length c] 29)).heap.size = w.heap.size + 1 := by simp
    rw [hz, ← hW1] at this
    exact this
  have HZ : Hid (W1.heap.size = w.heap.size + 2) := Lib.hid (by rw [hW1]; simp)
  have HPL : Hid (pb < w.heap.size ∧ mb < w.heap.size) := Lib.hid ⟨h.ltp, h.ltm⟩
  have HS0 := Lib.hid (h.below hB0)
  have hl0 : StrsAt (fun k => K0 k ∧ k < w.heap.size) W1 (.slice a l.length c) l := SlAt.keep (SlAt.mono hl (fun k hk hlt => ⟨hk, hlt⟩)) (fun k _ hlt => hB0.block k hlt)
  have HFl : Hid (Calls Tryz.prog 114 #[.string ⟨#[45, 112]⟩, .pointer (some ⟨w.heap.size, 0, none⟩)] W1 (FlagQ w.heap.size (fun k => K0 k ∧ k < w.heap.size) [45, 112] l W1)) := Lib.hid (flag_any w.heap.size [45, 112] l W1 hx1 hl0 (fun k hk => by have := hk.2; omega))
  have HX2 := Lib.hid hx2
  have hF : Hid (mkF st l = if flagS [45, 112] l then eachS mkpF st (l.drop 1) else eachS mkdirF st l) := Lib.hid rfl
  have HB0 := Lib.hid hB0
  have HK0 := Lib.hid hK0
  have HLx := Lib.hid (And.intro hn hx)
  unfold FlagQ at HFl
  generalize mkF st l = r at hF ⊢
  generalize flagS [45, 112] l = fl at HFl hF
  have HWW := Lib.hid hW1.symm
  clear hB0 hx1 hx2 h hl hx hK0 hl0 hn hW1
  go_enter Tryz.func79, Tryz.ntmps79
  go_wp2_with fail
  rw [HWW.out]
  refine HFl.out.mono ?_
  rintro e w2 ⟨rfl, ⟨v2, hc2, hl2⟩, hk2⟩
  have hx2 : w2.heap[w.heap.size + 1]? = some (.cells #[.pointer (some ⟨pb, 0, none⟩)] 31 (0, 0)) := (hk2.block _ (by rw [HZ.out]; omega) (by omega)).trans HX2.out
  have c4 : w2.cell? ⟨w.heap.size, 0, none⟩ = some v2 := Lib.cell_of_heap hc2 0
  have c5 : w2.cell? ⟨w.heap.size + 1, 0, none⟩ = some (.pointer (some ⟨pb, 0, none⟩)) := Lib.cell_of_heap hx2 0
  have HS2 : Hid (IsStore pb mb st w2) := Lib.hid (HS0.out.keep (fun k hk => hk2.block k (by have := HZ.out; have := HPL.out; omega) (by have := HPL.out; omega)))
  have HB2 : Hid (Below w.heap.size w w2) := Lib.hid (HB0.out.trans ((hk2.mono (B' := w.heap.size) (M' := fun _ => False) (by have := HZ.out; omega) (fun k hk e => by omega)).below (fun _ _ h => h)))
  have HX3 := Lib.hid hx2
  have HE : ∀ {l2 : List (List UInt8)} (hl3 : StrsAt (fun k => K0 k ∧ k < w.heap.size) w2 v2 l2) (hm : ∀ x ∈ l2, x ∈ l) (hn2 : l2.length ≤ l.length) (g : PStore → List UInt8 → PStore × Int) (gf : Nat) (first cap : Array Value) (eg : ∀ args W, (callFunc gf args).run Tryz.prog W = .ok (.enter gf args) W)
      (hdo : ∀ s W x, x.length ≤ 131070 → IsStore pb mb s W → W.cell? ⟨w.heap.size + 1, 0, none⟩ = some (.pointer (some ⟨pb, 0, none⟩)) → Calls Tryz.prog gf (first.push (.string ⟨x.toArray⟩) ++ cap) W (StoreQ pb mb (g s x) W)),
      Calls Tryz.prog 110 #[v2, .func (.func gf) first cap] w2 fun e w' => e = .returned (.int .i64 (eachS g st l2).2) ∧ IsStore pb mb (eachS g st l2).1 w' ∧ Keeps w.heap.size (fun k => k = pb ∨ k = mb) w w' := by
    intro l2 hl3 hm hn2 g gf first cap eg hdo
    refine (each_any g (fun _ s W => IsStore pb mb s W ∧ Keeps w2.heap.size (fun k => k = pb ∨ k = mb) w2 W) gf first cap eg (K := fun k => K0 k ∧ k < w.heap.size) (v := v2) l2 (by have := HLx.out.1; omega) st w2 hl3 ⟨HS2.out, Keeps.refl _ _ _⟩
      (fun i s W hr k hk hlt => hr.2.block k hlt (by rintro (e | e); exact (HK0.out k hk.1).1 e; exact (HK0.out k hk.1).2 e))
      (fun i s W x hxi hr => by
        have hcw : W.cell? ⟨w.heap.size + 1, 0, none⟩ = some (.pointer (some ⟨pb, 0, none⟩)) := (hr.2.cell (p := ⟨w.heap.size + 1, 0, none⟩) (Array.getElem?_eq_some_iff.1 HX3.out).1 (by have := HPL.out; intro h; simp only at h; omega)).trans (Lib.cell_of_heap HX3.out 0)
        refine (hdo s W x (HLx.out.2 x (hm x (List.mem_of_getElem? hxi))) hr.1 hcw).mono ?_
        rintro e W' ⟨rfl, h5, h6⟩
        exact ⟨rfl, h5, hr.2.trans (h6.mono hr.2.size (fun _ _ h => h))⟩)).mono ?_
    rintro e w' ⟨rfl, i, hs, hk⟩
    exact ⟨rfl, hs, (Keeps.of HB2.out _).trans (hk.mono HB2.out.size (fun _ _ h => h))⟩
  cases fl with
  | false =>
    simp only [Bool.false_eq_true, if_false] at hl2
    have HR : Hid (r = eachS mkdirF st l) := Lib.hid (by rw [hF.out]; rfl)
    have HC := Lib.hid (HE (l2 := l) hl2 (fun _ h => h) (Nat.le_refl _) mkdirF 30 #[.pointer (some ⟨pb, 0, none⟩)] #[] (fun args W => by kernel_rfl) (fun s W x hx hs _ => mkdir_store pb mb s ⟨x.toArray⟩ (by show x.toArray.size ≤ _; simp; omega) W hs))
    obtain ⟨a2, cp2, rfl⟩ := StrsAt.isSl hl2
    generalize eachS mkdirF st l = q at HC HR
    clear hc2 hl2 hk2 hx2 HE
    go_wp2_with fail
    go_at_call 110
    refine HC.out.mono ?_
    rintro e w3 ⟨rfl, hs, hk⟩
    have HS := Lib.hid hs
    have HK := Lib.hid hk
    clear hs hk
    go_wp2
    go_ret
    exact ⟨by rw [HR.out]; rfl, by rw [HR.out]; exact HS.out, HK.out⟩
  | true =>
    simp only [if_true] at hl2
    have HR : Hid (r = eachS mkpF st (l.drop 1)) := Lib.hid (by rw [hF.out]; rfl)
    have hmm : ∀ x ∈ l.drop 1, x ∈ l := fun _ h => List.mem_of_mem_drop h
    have hnn : (l.drop 1).length ≤ l.length := by rw [List.length_drop]; omega
    generalize l.drop 1 = l3 at hl2 HR hmm hnn
    have HC := Lib.hid (HE (l2 := l3) hl2 hmm hnn mkpF 118 #[] #[.pointer (some ⟨w.heap.size + 1, 0, none⟩)] (fun args W => by kernel_rfl) (fun s W x hx hs hc => mkp_any pb mb _ s x (by omega) W hs hc))
    obtain ⟨a2, cp2, rfl⟩ := StrsAt.isSl hl2
    generalize eachS mkpF st l3 = q at HC HR
    clear hmm hnn
    clear hc2 hl2 hk2 hx2 HE
    go_wp2_with fail
    go_at_call 110
    refine HC.out.mono ?_
    rintro e w3 ⟨rfl, hs, hk⟩
    have HS := Lib.hid hs
    have HK := Lib.hid hk
    clear hs hk
    go_wp2
    go_ret
    exact ⟨by rw [HR.out]; rfl, by rw [HR.out]; exact HS.out, HK.out⟩
end Go.Proofs.YtmagggflamdahaaGreatDoor

namespace Go.Proofs.YtmagggflamdahaaGreatDoor
open Go.RowKit

def mvF (st : PStore) (a b : List UInt8) : PStore × Int := ((moveF st a b).1, truthS ((moveF st a b).2 == 0))

set_option maxHeartbeats 1000000 in
set_option maxRecDepth 100000 in
theorem two_mv (pb mb : Nat) (st : PStore) {K : Nat → Prop} {v : Value} (nm a b : List UInt8) (hnm : (nm == [109, 118]) = true) (ha : a.length ≤ 262144) (hb : b.length ≤ 262144) (w : World) (hl : StrsAt K w v [a, b]) (h : IsStore pb mb st w) :
    Calls Tryz.prog 78 #[.string ⟨nm.toArray⟩, v, .pointer (some ⟨pb, 0, none⟩)] w (StoreQ pb mb (mvF st a b) w) := by
  obtain ⟨g, off, cap, rfl, hc, hKg, hg, hx, _⟩ := SlAt.ne0 hl (by simp)
  have e0 : w.drew.cell? ⟨g, off, none⟩ = some (.string ⟨a.toArray⟩) := hx 0 _ rfl
  have e1 : w.drew.cell? ⟨g, off + 1, none⟩ = some (.string ⟨b.toArray⟩) := hx 1 _ rfl
  have HM : Hid (Calls Tryz.prog 113 #[.pointer (some ⟨pb, 0, none⟩), .string ⟨a.toArray⟩, .string ⟨b.toArray⟩] w.drew (StoreQ pb mb (moveF st a b) w.drew)) := Lib.hid (move_store pb mb st ⟨a.toArray⟩ ⟨b.toArray⟩ (by show a.toArray.size ≤ _; simpa using ha) (by show b.toArray.size ≤ _; simpa using hb) w.drew (h.keep (fun _ _ => rfl)))
  have hF : Hid (mvF st a b = ((moveF st a b).1, truthS ((moveF st a b).2 == 0))) := Lib.hid rfl
  have HTr := Lib.hid truth_any
  generalize mvF st a b = r at hF ⊢
  unfold StoreQ at HM
  generalize moveF st a b = q at HM hF
  obtain ⟨st2, n2⟩ := q
  simp only at HM hF
  clear hl hx h
  simp only [List.length_cons, List.length_nil] at hc ⊢
  go_enter Tryz.func78, Tryz.ntmps78
  go_wp2_with fail
  go_region_with (first
    | (go_at_call 113; refine HM.out.mono ?_; rintro e w1 ⟨rfl, hs1, hk1⟩; replace hs1 := Lib.hid hs1; replace hk1 := Lib.hid hk1)
    | (go_at_call 112; refine (HTr.out _ _).mono ?_; rintro e w3 ⟨rfl, rfl⟩))
  all_goals
    go_wp2
    go_ret
    exact ⟨by rw [hF.out]; rfl, by rw [hF.out]; exact hs1.out, (Keeps.refl _ _ w).drew.trans hk1.out⟩
end Go.Proofs.YtmagggflamdahaaGreatDoor

namespace Go.Proofs.YtmagggflamdahaaGreatDoor
open Go.RowKit

/-- what an exit comes to, and whether it ends the process -/
def exitF (n : Int) (l : List (List UInt8)) : Int × Bool := match l with
  | [] => (n, true)
  | x :: r => if r ≠ [] ∨ (parseS x).2 ≠ 0 ∨ (parseS x).1 < 0 ∨ 255 < (parseS x).1 then (2, false) else ((parseS x).1, true)

set_option maxHeartbeats 4000000 in
set_option maxRecDepth 100000 in
theorem exit_any {K K2 : Nat → Prop} {pb : Nat} {v lv : Value} {pr : PProc} (l : List (List UInt8)) (hx : ∀ x ∈ l, x.length ≤ 262144) (w : World) (h : IsProc K pb v pr w) (hl : StrsAt K2 w lv l) (hG : Gl w) :
    Calls Tryz.prog 81 #[.pointer (some ⟨pb, 0, none⟩), lv] w fun e w' => e = .returned (.tuple #[.int .i64 (exitF pr.status l).1, .bool (exitF pr.status l).2]) ∧ Below w.heap.size w w' := by
  cases l with
  | nil =>
    obtain ⟨a, c, rfl⟩ := hl.isSlice
    refine (exit_none a c w h).mono ?_
    rintro e w' ⟨rfl, rfl⟩
    exact ⟨rfl, Below.refl _ _⟩
  | cons x r =>
    obtain ⟨g, o, cap, rfl, hcap, hKg, hg, e0, _, _⟩ := StrsAt.cons hl
    have HP := Lib.hid (parse_any ⟨x.toArray⟩ (by show x.toArray.size ≤ _; have := hx x List.mem_cons_self; simp; omega) w hG)
    have hF : Hid (exitF pr.status (x :: r) = if r ≠ [] ∨ (parseS x).2 ≠ 0 ∨ (parseS x).1 < 0 ∨ 255 < (parseS x).1 then (2, false) else ((parseS x).1, true)) := Lib.hid rfl
    change Hid (Calls _ _ _ _ fun e w' => e = .returned (.tuple #[.int .i64 (parseS x).1, .int .i64 (parseS x).2]) ∧ Below w.heap.size w w') at HP
    generalize exitF pr.status (x :: r) = q at hF ⊢
    generalize parseS x = pn at HP hF
    obtain ⟨m, n⟩ := pn
    simp only at HP hF
    have HCp := Lib.hid hcap
    have hb0 : ((r.length : Int) + 1 == 0) = false := beq_eq_false_iff_ne.2 (by omega)
    have HLn : Hid (r.length = 0 ↔ r = []) := Lib.hid List.length_eq_zero_iff
    clear h hl hG hx hKg hcap
    by_cases h1 : 1 < (r.length : Int) + 1
    · have h1d : decide (1 < (r.length : Int) + 1) = true := decide_eq_true h1
      have HR : Hid (q = (2, false)) := Lib.hid (by rw [hF.out, if_pos (.inl (fun e => by have := HLn.out.2 e; omega))])
      go_enter Tryz.func81, Tryz.ntmps81
      go_wp2_with fail
      go_at_call 120
      refine HP.out.mono ?_
      rintro e w1 ⟨rfl, hb⟩
      have HB := Lib.hid hb
      clear hb
      go_wp2
      go_ret2
      exact ⟨by rw [HR.out]; rfl, HB.out⟩
    · have h1d : decide (1 < (r.length : Int) + 1) = false := decide_eq_false h1
      have hF2 : Hid (q = if n ≠ 0 ∨ m < 0 ∨ 255 < m then (2, false) else (m, true)) := Lib.hid (by
        rw [hF.out]
        have hr : r = [] := HLn.out.1 (by omega)
        simp [hr])
      cases hn : (n != 0) with
      | true =>
        have HR : Hid (q = (2, false)) := Lib.hid (by rw [hF2.out, if_pos (.inl (by simpa using hn))])
        go_enter Tryz.func81, Tryz.ntmps81
        go_wp2_with fail
        go_at_call 120
        refine HP.out.mono ?_
        rintro e w1 ⟨rfl, hb⟩
        have HB := Lib.hid hb
        clear hb
        go_wp2
        go_ret2
        exact ⟨by rw [HR.out]; rfl, HB.out⟩
      | false =>
        by_cases h0 : m < 0
        · have h0d : decide (m < 0) = true := decide_eq_true h0
          have HR : Hid (q = (2, false)) := Lib.hid (by rw [hF2.out, if_pos (.inr (.inl h0))])
          go_enter Tryz.func81, Tryz.ntmps81
          go_wp2_with fail
          go_at_call 120
          refine HP.out.mono ?_
          rintro e w1 ⟨rfl, hb⟩
          have HB := Lib.hid hb
          clear hb
          go_wp2
          go_ret2
          exact ⟨by rw [HR.out]; rfl, HB.out⟩
        · have h0d : decide (m < 0) = false := decide_eq_false h0
          by_cases h2 : 255 < m
          · have h2d : decide (255 < m) = true := decide_eq_true h2
            have HR : Hid (q = (2, false)) := Lib.hid (by rw [hF2.out, if_pos (.inr (.inr h2))])
            go_enter Tryz.func81, Tryz.ntmps81
            go_wp2_with fail
            go_at_call 120
            refine HP.out.mono ?_
            rintro e w1 ⟨rfl, hb⟩
            have HB := Lib.hid hb
            clear hb
            go_wp2
            go_ret2
            exact ⟨by rw [HR.out]; rfl, HB.out⟩
          · have h2d : decide (255 < m) = false := decide_eq_false h2
            have HR : Hid (q = (m, true)) := Lib.hid (by rw [hF2.out, if_neg (by rintro (h | h | h); rw [bne_iff_ne.2 h] at hn; cases hn; exact h0 h; exact h2 h)])
            go_enter Tryz.func81, Tryz.ntmps81
            go_wp2_with fail
            go_at_call 120
            refine HP.out.mono ?_
            rintro e w1 ⟨rfl, hb⟩
            have HB := Lib.hid hb
            clear hb
            go_wp2
            go_ret2
            exact ⟨by rw [HR.out]; rfl, HB.out⟩

set_option maxHeartbeats 4000000 in
set_option maxRecDepth 100000 in
theorem run_exit {K : Nat → Prop} {ppb : Nat} {v wv sv : Value} {pr : PProc} (nm : List UInt8) (l : List (List UInt8)) (inn : List UInt8) (hx : ∀ x ∈ l, x.length ≤ 262144) (w : World) (hp : IsProc K ppb v pr w) (hl : StrsAt K w wv (nm :: l)) (hG : Gl w)
    (h0 : (nm == [116, 114, 117, 101]) = false) (h1 : (nm == [58]) = false) (h2 : (nm == [102, 97, 108, 115, 101]) = false) (h3 : (nm == [101, 99, 104, 111]) = false) (h4 : (nm == [99, 97, 116]) = false) (h5 : (nm == [99, 112]) = false) (h6 : (nm == [109, 118]) = false) (h7 : (nm == [114, 109]) = false) (h8 : (nm == [116, 111, 117, 99, 104]) = false) (h9 : (nm == [109, 107, 100, 105, 114]) = false) (h10 : (nm == [116, 101, 115, 116]) = false) (h11 : (nm == [101, 120, 105, 116]) = true) :
    Calls Tryz.prog 58 #[.pointer (some ⟨ppb, 0, none⟩), wv, .string ⟨inn.toArray⟩, sv] w fun e w' => e = .returned (.tuple #[.int .i64 (exitF pr.status l).1, .string ⟨#[]⟩]) ∧ IsProc K ppb v ⟨if (exitF pr.status l).2 then [] else pr.left, pr.status, pr.said⟩ w' ∧ Keeps w.heap.size (fun k => k = ppb) w w' := by
  obtain ⟨g, o, cp, rfl, hcap, hK, hg, e0, hx1, htl⟩ := StrsAt.cons hl
  obtain ⟨a', ha', hsl⟩ := slice_tail g o l.length cp hcap
  have HT : Hid (StrsAt K w (.slice a' l.length (cp - 1)) l) := Lib.hid (htl a' (cp - 1) (fun h => ha' (fun h0 => h (List.eq_nil_of_length_eq_zero h0))) (by omega))
  have hb0 : ((l.length : Int) + 1 == 0) = false := beq_eq_false_iff_ne.2 (by omega)
  have HP := Lib.hid hp
  have HE : Hid (∀ n, Calls Tryz.prog 81 #[.pointer (some ⟨ppb, 0, none⟩), .slice a' l.length (cp - 1)] (w.drewN n) fun e w' => e = .returned (.tuple #[.int .i64 (exitF pr.status l).1, .bool (exitF pr.status l).2]) ∧ Below w.heap.size (w.drewN n) w') := Lib.hid (fun n => exit_any l hx (w.drewN n) (hp.below (belowN w n)) (HT.out.keep (fun k _ hk => (belowN w n).block k hk)) (hG.below (belowN w n)))
  generalize exitF pr.status l = q at HE ⊢
  obtain ⟨qn, qe⟩ := q
  simp only at HE ⊢
  clear hl htl hK ha' hx1 hp hG
  go_enter Tryz.func58, Tryz.ntmps58
  go_wp2
  go_quiet (fail)
  go_wp2_with fail
  go_at_call 81
  refine (HE.out _).mono ?_
  rintro e w1 ⟨rfl, hb1⟩
  have hb2 : Below w.heap.size w w1 := (belowN w _).trans hb1
  have hp1 := HP.out.below hb2
  have HP1 := Lib.hid hp1
  have HB2 := Lib.hid hb2
  clear hb1 hb2
  cases qe with
  | false =>
    clear hp1
    go_wp2
    go_ret2
    exact ⟨rfl, HP1.out, Keeps.of HB2.out _⟩
  | true =>
    obtain ⟨lv, p, q1, q2⟩ := hp1.cells
    have f1 : w1.frozen? ⟨ppb, 1, none⟩ = false := Lib.frozen_of_heap q1.heap 1
    obtain ⟨cxs, q3, q4⟩ := q2
    obtain ⟨la, lc, rfl⟩ := q3.isSlice
    have c1 : w1.cell? ⟨ppb, 1, none⟩ = some (.slice la pr.left.length lc) := Lib.cell_of_heap q1.heap 1
    have hp2 := hp1.setLeft (lv' := .slice none 0 0) (l' := []) (w := w1) ⟨[], SlAt.zero _ _ _ _ none 0, by simp [CmdsIn]⟩
    have HP2 := Lib.hid hp2
    have HK2 : Hid (Keeps w.heap.size (fun k => k = ppb) w (w1.setCell ⟨ppb, 1, none⟩ (.slice none 0 0))) := Lib.hid ((Keeps.of HB2.out (fun k => k = ppb)).setCell (p := ⟨ppb, 1, none⟩) (.inr rfl) _)
    clear hp1 hp2 q1 q3 q4
    go_wp2
    go_ret2
    exact ⟨rfl, HP2.out, HK2.out⟩
end Go.Proofs.YtmagggflamdahaaGreatDoor
