/- sh.two: cp; and of other lengths. sh.files: touch. A store's map, gone through: which files come, whatever the order. vfs.Store: All, List. vfs.Store: List. Printed by wip/genlist.py. vfs.Store: Remove. vfs.Store: Move. -/
import Derived.Test.YtmagggflamdahaaGreatDoorSj
import Derived.Test.YtmagggflamdahaaGreatDoorSg
import Derived.Test.YtmagggflamdahaaGreatDoorSi
import Derived.Maps.RangeRun
import Derived.Sort.OwnSorted
import Derived.Sort.KeysCollected
import Derived.Test.YtmagggflamdahaaGreatDoorShelf2
import Derived.Test.YtmagggflamdahaaGreatDoorSn
import Derived.Shelf.Slices.In.SortNone
namespace Go.Proofs.YtmagggflamdahaaGreatDoor
open Go.RowKit

def cpF (st : PStore) (a b : List UInt8) : PStore × Int := if (readF st a).2 = 0 then ((writeF st b (readF st a).1).1, truthS ((writeF st b (readF st a).1).2 == 0)) else (st, 1)

set_option maxHeartbeats 1000000 in
set_option maxRecDepth 100000 in
theorem two_other {K : Nat → Prop} {v sv : Value} (nm : List UInt8) (l : List (List UInt8)) (hn : l.length ≠ 2) (w : World) (hl : StrsAt K w v l) :
    Calls Tryz.prog 78 #[.string ⟨nm.toArray⟩, v, sv] w fun e w' => e = .returned (.int .i64 2) ∧ w = w' := by
  obtain ⟨a, c, rfl⟩ := hl.isSlice
  have hb : ((l.length : Int) != 2) = true := by simpa using (show (l.length : Int) ≠ 2 by omega)
  clear hl hn
  go_enter Tryz.func78, Tryz.ntmps78
  go_wp2
  go_ret
  exact ⟨rfl, rfl⟩

set_option maxHeartbeats 2000000 in
set_option maxRecDepth 100000 in
theorem two_cp (pb mb : Nat) (st : PStore) {K : Nat → Prop} {v : Value} (nm a b : List UInt8) (hnm : (nm == [109, 118]) = false) (ha : a.length ≤ 262144) (hb : b.length ≤ 262144) (w : World) (hl : StrsAt K w v [a, b]) (h : IsStore pb mb st w) :
    Calls Tryz.prog 78 #[.string ⟨nm.toArray⟩, v, .pointer (some ⟨pb, 0, none⟩)] w fun e w' => e = .returned (.int .i64 (cpF st a b).2) ∧ IsStore pb mb (cpF st a b).1 w' ∧ Keeps w.heap.size (fun k => k = pb ∨ k = mb) w w' := by
  obtain ⟨g, off, cap, rfl, hc, hKg, hg, hx, _⟩ := SlAt.ne0 hl (by simp)
  have e0 : w.cell? ⟨g, off, none⟩ = some (.string ⟨a.toArray⟩) := hx 0 _ rfl
  have e1 : w.cell? ⟨g, off + 1, none⟩ = some (.string ⟨b.toArray⟩) := hx 1 _ rfl
  have HR : Hid (Calls Tryz.prog 13 #[.pointer (some ⟨pb, 0, none⟩), .string ⟨a.toArray⟩] w fun e w' => e = .returned (.tuple #[.string ⟨(readF st a).1.toArray⟩, .int .i64 (readF st a).2]) ∧ Below w.heap.size w w') := Lib.hid (read_store pb mb st ⟨a.toArray⟩ (by show a.toArray.size ≤ _; simpa using ha) w h)
  have hrl := readF_len h a
  have HS := Lib.hid h
  have hF : Hid (cpF st a b = if (readF st a).2 = 0 then ((writeF st b (readF st a).1).1, truthS ((writeF st b (readF st a).1).2 == 0)) else (st, 1)) := Lib.hid rfl
  have HTr := Lib.hid truth_any
  generalize readF st a = q at HR hrl hF
  obtain ⟨t, n⟩ := q
  simp only at HR hrl hF
  clear hl hx h
  simp only [List.length_cons, List.length_nil] at hc ⊢
  go_enter Tryz.func78, Tryz.ntmps78
  go_wp2_with fail
  go_at_call 13
  refine HR.out.mono ?_
  rintro e w1 ⟨rfl, hb1⟩
  have hs1 := HS.out.below hb1
  have a1 : w1.cell? ⟨g, off + 1, none⟩ = some (.string ⟨b.toArray⟩) := (hb1.cell (p := ⟨g, off + 1, none⟩) hg).trans e1
  have HB1 := Lib.hid hb1
  have HS1 := Lib.hid hs1
  clear hb1 hs1 e0 e1
  by_cases hz : n = 0
  · have hzb : (n == 0) = true := by rw [hz]; rfl
    rw [if_pos hz] at hF
    have HW : Hid (Calls Tryz.prog 32 #[.pointer (some ⟨pb, 0, none⟩), .string ⟨b.toArray⟩, .string ⟨t.toArray⟩] w1 fun e w' => e = .returned (.int .i64 (writeF st b t).2) ∧ IsStore pb mb (writeF st b t).1 w' ∧ Keeps w1.heap.size (fun k => k = pb ∨ k = mb) w1 w') := Lib.hid (write_store pb mb st ⟨b.toArray⟩ ⟨t.toArray⟩ (by show b.toArray.size ≤ _; simpa using hb) (by show t.toArray.size ≤ _; simp; omega) w1 HS1.out)
    generalize writeF st b t = r at HW hF
    obtain ⟨st2, m⟩ := r
    simp only at HW hF
    clear hz
    go_wp2_with fail
    go_at_call 32
    refine HW.out.mono ?_
    rintro e w2 ⟨rfl, hs2, hk2⟩
    have HS2 := Lib.hid hs2
    have HK2 : Hid (Keeps w.heap.size (fun k => k = pb ∨ k = mb) w w2) := Lib.hid ((Keeps.of HB1.out _).trans (hk2.mono HB1.out.size (fun _ _ h => h)))
    clear hs2 hk2
    go_wp2_with fail
    go_at_call 112
    refine (HTr.out _ _).mono ?_
    rintro e w3 ⟨rfl, rfl⟩
    go_wp2
    go_ret
    exact ⟨by rw [hF.out]; rfl, by rw [hF.out]; exact HS2.out, HK2.out⟩
  · have hzb : (n == 0) = false := by simpa using hz
    rw [if_neg hz] at hF
    clear hz
    go_wp2_with fail
    go_at_call 112
    refine (HTr.out _ _).mono ?_
    rintro e w3 ⟨rfl, rfl⟩
    go_wp2
    go_ret
    exact ⟨by rw [hF.out]; rfl, by rw [hF.out]; exact HS1.out, Keeps.of HB1.out _⟩
end Go.Proofs.YtmagggflamdahaaGreatDoor

namespace Go.Proofs.YtmagggflamdahaaGreatDoor
open Go.RowKit

set_option maxHeartbeats 2000000 in
set_option maxRecDepth 100000 in
theorem files_touch (pb mb : Nat) (st : PStore) {K : Nat → Prop} {v : Value} (nm : List UInt8) (hnm : (nm == [116, 111, 117, 99, 104]) = true) (l : List (List UInt8)) (hn : l.length ≤ 1048576) (hx : ∀ x ∈ l, x.length ≤ 262144) (w : World) (hl : StrsAt K w v l) (h : IsStore pb mb st w) (hK : ∀ k, K k → k ≠ pb ∧ k ≠ mb) :
    Calls Tryz.prog 79 #[.string ⟨nm.toArray⟩, v, .pointer (some ⟨pb, 0, none⟩)] w fun e w' => e = .returned (.int .i64 (eachS touchF st l).2) ∧ IsStore pb mb (eachS touchF st l).1 w' ∧ Keeps w.heap.size (fun k => k = pb ∨ k = mb) w w' := by
  obtain ⟨a, c, rfl⟩ := hl.isSlice
  obtain ⟨o1, ho1⟩ : ∃ o1, o1 = Obj.cells #[.slice a l.length c] 29 := ⟨_, rfl⟩
  obtain ⟨o2, ho2⟩ : ∃ o2, o2 = Obj.cells #[.pointer (some ⟨pb, 0, none⟩)] 31 := ⟨_, rfl⟩
  have hB0 : Below w.heap.size w ((w.alloc o1).alloc o2) := ((Below.refl _ _).alloc (Nat.le_refl _) _).alloc (by simp) _
  have hx1 : ((w.alloc o1).alloc o2).heap[w.heap.size]? = some o1 := (Below.heap_alloc _ _ _ (by simp)).trans (heap_alloc_new w o1)
  have hx2 : ((w.alloc o1).alloc o2).heap[w.heap.size + 1]? = some o2 := by
    have := heap_alloc_new (w.alloc o1) o2
    simpa using this
  have hpl := h.ltp
  have hml := h.ltm
  have HE := Lib.hid (each_any touchF (fun _ s W => IsStore pb mb s W ∧ Keeps w.heap.size (fun k => k = pb ∨ k = mb) w W)
    115 #[.pointer (some ⟨pb, 0, none⟩)] #[] (fun args W => by kernel_rfl) (K := fun k => K k ∧ k < w.heap.size) (v := .slice a l.length c) l (by omega) st ((w.alloc o1).alloc o2)
    (SlAt.keep (SlAt.mono hl (fun k hk hlt => ⟨hk, hlt⟩)) (fun k _ hlt => hB0.block k hlt))
    ⟨h.below hB0, Keeps.of hB0 _⟩
    (fun i s W hr k hk hlt => (hr.2.block k hk.2 (by rintro (e | e); exact (hK k hk.1).1 e; exact (hK k hk.1).2 e)).trans (hB0.block k hk.2).symm)
    (fun i s W x hxi hr => by
      refine (touch_store pb mb s ⟨x.toArray⟩ (by show x.toArray.size ≤ _; simpa using hx x (List.mem_of_getElem? hxi)) W hr.1).mono ?_
      rintro e W' ⟨rfl, h5, h6⟩
      exact ⟨rfl, h5, hr.2.trans (h6.mono hr.2.size (fun _ _ h => h))⟩))
  have c1 : ((w.alloc o1).alloc o2).cell? ⟨w.heap.size, 0, none⟩ = some (.slice a l.length c) := by rw [ho1] at hx1 ⊢; exact Lib.cell_of_heap hx1 0
  have c2 : ((w.alloc o1).alloc o2).cell? ⟨w.heap.size + 1, 0, none⟩ = some (.pointer (some ⟨pb, 0, none⟩)) := by rw [ho2] at hx2 ⊢; exact Lib.cell_of_heap hx2 0
  clear hB0 hx1 hx2 h hl hx hK
  generalize eachS touchF st l = q at HE ⊢
  subst ho1 ho2
  go_enter Tryz.func79, Tryz.ntmps79
  go_wp2_with fail
  go_at_call 110
  refine HE.out.mono ?_
  rintro e w1 ⟨rfl, i, hs, hk⟩
  have HS := Lib.hid hs
  have HK := Lib.hid hk
  clear hs hk
  go_wp2
  go_ret
  exact ⟨rfl, HS.out, HK.out⟩
end Go.Proofs.YtmagggflamdahaaGreatDoor

namespace Go.Proofs.YtmagggflamdahaaGreatDoor
open Go.RowKit

/-- an entry's path, and its file -/
def eKey (e : MapEntry) : List UInt8 := match e.key with | .string s => s.data.toList | _ => []
def eFile (e : MapEntry) : PFile := match e.val with
  | .agg a => match a.toList with
    | [.string t, .int _ m, .bool d] => ⟨t.data.toList, m, d⟩
    | _ => noFile
  | _ => noFile
theorem entries_files {L : List MapEntry} {fs : List (List UInt8 × PFile)} (h : L.map (fun e => (e.key, e.val)) = fs.map (fun x => (strV x.1, fileV x.2))) :
    L.map (fun e => (eKey e, eFile e)) = fs ∧ ∀ e ∈ L, e.key = strV (eKey e) ∧ e.val = fileV (eFile e) := by
  induction L generalizing fs with
  | nil =>
    cases fs with
    | nil => exact ⟨rfl, fun e he => by cases he⟩
    | cons f fs => cases h
  | cons e L ih =>
    cases fs with
    | nil => cases h
    | cons f fs =>
      obtain ⟨p, ⟨ft, fm, fd⟩⟩ := f
      simp only [List.map_cons, List.cons.injEq, Prod.mk.injEq] at h
      obtain ⟨⟨h1, h2⟩, h3⟩ := h
      obtain ⟨i1, i2⟩ := ih h3
      have k1 : eKey e = p := by unfold eKey; rw [h1]; simp [strV]
      have k2 : eFile e = ⟨ft, fm, fd⟩ := by unfold eFile; rw [h2]; simp [fileV, strV]
      refine ⟨by simp only [List.map_cons, k1, k2, i1], ?_⟩
      intro e' he'
      rcases List.mem_cons.1 he' with rfl | he'
      · rw [k1, k2]; exact ⟨h1, h2⟩
      · exact i2 e' he'

/-- what has come so far -/
def comeE (L : List MapEntry) (seen : Array Nat) : List MapEntry := L.filter (fun x => seen.contains x.born)
theorem comeE_none (L : List MapEntry) : comeE L #[] = [] := by
  unfold comeE
  rw [List.filter_eq_nil_iff]
  intro x _
  simp
theorem comeE_all {L : List MapEntry} {seen : Array Nat} (h : ∀ x ∈ L, seen.contains x.born = true) : comeE L seen = L := by
  unfold comeE
  exact List.filter_eq_self.2 h
theorem comeE_same (seen : Array Nat) (b : Nat) : ∀ (L : List MapEntry), b ∉ L.map (·.born) → comeE L (seen.push b) = comeE L seen
  | [], _ => rfl
  | x :: L, h => by
    simp only [List.map_cons, List.mem_cons, not_or] at h
    have ih := comeE_same seen b L h.2
    have hx : (seen.push b).contains x.born = seen.contains x.born := by
      rw [contains_push]
      have : (x.born == b) = false := beq_eq_false_iff_ne.2 (fun e => h.1 e.symm)
      rw [this, Bool.or_false]
    unfold comeE at ih ⊢
    simp only [List.filter_cons, hx, ih]
theorem comeE_push (seen : Array Nat) (e : MapEntry) (hs : seen.contains e.born = false) : ∀ (L : List MapEntry), (L.map (·.born)).Nodup → e ∈ L → (comeE L (seen.push e.born)).Perm (comeE L seen ++ [e])
  | [], _, h => by cases h
  | x :: L, hn, h => by
    simp only [List.map_cons, List.nodup_cons] at hn
    by_cases hxe : x = e
    · subst hxe
      have h1 := comeE_same seen x.born L hn.1
      have h2 : (seen.push x.born).contains x.born = true := by rw [contains_push]; simp
      unfold comeE at h1 ⊢
      simp only [List.filter_cons, h2, hs, h1, if_true, Bool.false_eq_true, if_false]
      exact (List.perm_append_singleton _ _).symm
    · have he : e ∈ L := by
        rcases List.mem_cons.1 h with rfl | h
        · exact absurd rfl hxe
        · exact h
      have ih := comeE_push seen e hs L hn.2 he
      have hb : (x.born == e.born) = false := beq_eq_false_iff_ne.2 (fun hb => hn.1 (by rw [hb]; exact List.mem_map_of_mem he))
      have hx : (seen.push e.born).contains x.born = seen.contains x.born := by rw [contains_push, hb, Bool.or_false]
      unfold comeE at ih ⊢
      simp only [List.filter_cons, hx]
      split
      · exact ih.cons x
      · exact ih
theorem comeE_len (L : List MapEntry) (seen : Array Nat) : (comeE L seen).length ≤ L.length := List.length_filter_le _ _

/-- texts, rising -/
def sortT (l : List (List UInt8)) : List (List UInt8) := l.mergeSort fun x y => decide (x ≤ y)
theorem sortT_perm {l l' : List (List UInt8)} (h : l.Perm l') : sortT l = sortT l' := mergeSort_of_perm h
theorem sortT_len (l : List (List UInt8)) : (sortT l).length = l.length := (List.mergeSort_perm l _).length_eq
def allE (e : MapEntry) : Option (List UInt8) := if (eFile e).dir then none else some (eKey e)
/-- the paths of all files, rising -/
def allF (st : PStore) : List (List UInt8) := sortT (st.files.filterMap (fun x => if x.2.dir then none else some x.1))
theorem allF_of {L : List MapEntry} {st : PStore} (h : L.map (fun e => (eKey e, eFile e)) = st.files) : L.filterMap allE = st.files.filterMap (fun x => if x.2.dir then none else some x.1) := by
  rw [← h, List.filterMap_map]
  rfl
def kidE (p : List UInt8) (e : MapEntry) : Option (List UInt8) := if (eKey e == [47]) = false ∧ (dirS (eKey e) == p) = true then some (nameS (eKey e)) else none
/-- how many lie in a directory -/
def kidsN (st : PStore) (p : List UInt8) : Nat := (st.files.filterMap (fun x => if (x.1 == [47]) = false ∧ (dirS x.1 == p) = true then some (nameS x.1) else none)).length
theorem kidsN_of {L : List MapEntry} {st : PStore} (p : List UInt8) (h : L.map (fun e => (eKey e, eFile e)) = st.files) : (L.filterMap (kidE p)).length = kidsN st p := by
  unfold kidsN
  rw [← h, List.filterMap_map]
  rfl

/-- a block that holds a map's iterator is written: all else stands -/
theorem below_iter {B : Nat} {a w w1 : World} (h : Below B a w) (h1 : w1 = w ∨ w1 = w.drew) {r : Nat} (hr : B ≤ r) (o : Obj) : Below B a (Go.ChangeMaps.setBlock w1 r o) := by
  have hw1 : Below B a w1 := by
    rcases h1 with rfl | rfl
    · exact h
    · exact ⟨h.os, h.tape, h.output, h.size, h.block⟩
  refine ⟨hw1.os, hw1.tape, hw1.output, by unfold Go.ChangeMaps.setBlock; simpa using hw1.size, fun k hk => ?_⟩
  refine Eq.trans ?_ (hw1.block k hk)
  unfold Go.ChangeMaps.setBlock
  exact Array.getElem?_setIfInBounds_ne (by omega)
theorem heap_iter {w w1 : World} (h1 : w1 = w ∨ w1 = w.drew) {r : Nat} (o : Obj) {k : Nat} (hk : k ≠ r) : (Go.ChangeMaps.setBlock w1 r o).heap[k]? = w.heap[k]? := by
  rcases h1 with rfl | rfl
  · unfold Go.ChangeMaps.setBlock
    exact Array.getElem?_setIfInBounds_ne (Ne.symm hk)
  · unfold Go.ChangeMaps.setBlock
    exact Array.getElem?_setIfInBounds_ne (Ne.symm hk)
theorem heap_iter_self {w w1 : World} (h1 : w1 = w ∨ w1 = w.drew) {r : Nat} (o o0 : Obj) (hr : w.heap[r]? = some o0) : (Go.ChangeMaps.setBlock w1 r o).heap[r]? = some o := by
  have hlt : r < w.heap.size := (Array.getElem?_eq_some_iff.1 hr).1
  rcases h1 with rfl | rfl
  · unfold Go.ChangeMaps.setBlock
    exact Array.getElem?_setIfInBounds_self_of_lt hlt
  · unfold Go.ChangeMaps.setBlock
    exact Array.getElem?_setIfInBounds_self_of_lt hlt
theorem size_iter {w w1 : World} (h1 : w1 = w ∨ w1 = w.drew) (r : Nat) (o : Obj) : (Go.ChangeMaps.setBlock w1 r o).heap.size = w.heap.size := by
  rcases h1 with rfl | rfl <;> simp [Go.ChangeMaps.setBlock]
end Go.Proofs.YtmagggflamdahaaGreatDoor

namespace Go.Proofs.YtmagggflamdahaaGreatDoor
open Go.RowKit

theorem strV_enc (l : List (List UInt8)) : l.map strV = l.map encStr := rfl
/-- a row of texts of one's own is sorted -/
theorem sort_own {B : Nat} {v : Value} {L : List (List UInt8)} (w : World) (h : w.ownsRow B 9 1 v L.length (L.map strV)) (hB : B ≤ w.heap.size) (hl : L.length ≤ 1048576) :
    Calls Tryz.prog 40 #[v] w fun e w' => e = .returned (.tuple #[]) ∧ w'.ownsRow B 9 1 v L.length ((sortT L).map strV) ∧ Below B w w' := by
  rcases h.2 with ⟨rfl, h0⟩ | ⟨g, cap, cur, rfl, hbase, hb, h1, h2, h3, h4⟩
  · have hL : L = [] := List.eq_nil_of_length_eq_zero h0
    subst hL
    refine (Any.slices_Sort_string_none Tryz.lays190 none 0 w).mono ?_
    rintro e w' ⟨rfl, rfl⟩
    exact ⟨rfl, by simpa [sortT] using h, Below.refl _ _⟩
  · have hH : Go.Sort.Holds encStr w g 0 L.toArray := holds_of_block hb (by rw [← strV_enc]; simpa using h4)
    refine (Tryz.slices_Sort_string g 0 cap L w hH (Array.getElem?_eq_some_iff.1 hb).1 (by omega)).mono ?_
    rintro e w' ⟨rfl, n, os, rfl⟩
    exact ⟨rfl, ownsRow_sorted (ts := sortT L) (sortT_len L) hbase hb h1 h2 h3, (Below.refl B w).grown (grownBy_sorted (sortT L).toArray) hB (fun j hj => by cases hj; exact hbase)⟩

/-- an iterator's step: nothing is left, or an entry comes -/
theorem iter_step (w : World) (r mb mc : Nat) (es : Array MapEntry) (seen : Array Nat) (hst : Stamps es mc) (hr : w.heap[r]? = some (.mapIter (some mb) mc seen mc)) (hb : w.heap[mb]? = some (.map es mc)) (hrm : mb ≠ r) :
    ((∀ ty, (Instr.next (.pointer (some ⟨r, 0, none⟩)) false ty).run Tryz.prog w = .ok (.tuple #[.bool false]) w) ∧ comeE es.toList seen = es.toList) ∨
    ∃ (e : MapEntry) (w2 : World), e ∈ es.toList ∧ seen.contains e.born = false ∧ (∀ ty, (Instr.next (.pointer (some ⟨r, 0, none⟩)) false ty).run Tryz.prog w = .ok (.tuple #[.bool true, e.key, e.val]) w2) ∧
      (Instr.entry (.pointer (some ⟨r, 0, none⟩))).run Tryz.prog w2 = .ok (.tuple #[e.key, e.val]) w2 ∧ w2.heap[r]? = some (.mapIter (some mb) mc (seen.push e.born) mc) ∧ (∀ k, k ≠ r → w2.heap[k]? = w.heap[k]?) ∧ w2.heap.size = w.heap.size ∧ (∀ B a, B ≤ r → Below B a w → Below B a w2) ∧
      (leftOf es (seen.push e.born)).size < (leftOf es seen).size := by
  have hold : ∀ x ∈ es.toList, x.born < mc := fun x hx => hst.1 _ (List.mem_map_of_mem hx)
  by_cases h0 : (leftOf es seen).size = 0
  · left
    refine ⟨fun ty => ?_, comeE_all (all_seen es seen h0)⟩
    rcases run_next_at (P := Tryz.prog) w ty r mb mc mc seen es mc hr hb hold (Nat.le_refl _) with ⟨_, h⟩ | ⟨e, he, _⟩
    · exact h
    · have : (leftOf es seen).toList = [] := List.eq_nil_of_length_eq_zero (by simpa using h0)
      rw [this] at he
      cases he
  · right
    rcases run_next_at (P := Tryz.prog) w 3 r mb mc mc seen es mc hr hb hold (Nat.le_refl _) with ⟨h, _⟩ | ⟨e, he, w1, h1, hrun⟩
    · exact absurd h h0
    · refine ⟨e, Go.ChangeMaps.setBlock w1 r (.mapIter (some mb) mc (seen.push e.born) mc), (mem_left he).1, (mem_left he).2, fun ty => hrun, ?_, heap_iter_self h1 _ _ hr, fun k hk => heap_iter h1 _ hk, size_iter h1 _ _, fun B a hB h => below_iter h h1 hB _, left_shrinks es seen e he⟩
      exact run_entry_at _ r mb mc seen es mc e (heap_iter_self h1 _ _ hr) ((heap_iter h1 _ hrm).trans hb) (mem_left he).1 hst.2

def AllQ (st : PStore) (w : World) (e : Ending) (w' : World) : Prop := ∃ v, e = .returned v ∧ w'.ownsRow w.heap.size 9 1 v (allF st).length ((allF st).map strV) ∧ Below w.heap.size w w'

set_option maxHeartbeats 4000000 in
set_option maxRecDepth 100000 in
theorem all_store (pb mb : Nat) (st : PStore) (w : World) (h : IsStore pb mb st w) :
    Calls Tryz.prog 21 #[.pointer (some ⟨pb, 0, none⟩)] w (AllQ st w) := by
  obtain ⟨i0, hi, hz0, hz1, hz2⟩ := info_parts strInfo
  have HO := Lib.hid (ok_any pb mb st w h)
  have hmlt := h.ltm
  obtain ⟨es, mc, hm, hes, hst⟩ := h.map
  obtain ⟨hef, hee⟩ := entries_files hes
  have c3 : w.cell? ⟨pb, 3, none⟩ = some (.map (some mb)) := Lib.cell_of_heap h.cells 3
  have HCN : Hid (es.toList.length ≤ 512) := Lib.hid (by have h1 := congrArg List.length hef; simp only [List.length_map] at h1; have h2 := h.wf.cnt; omega)
  have hrg := run_range_map (P := Tryz.prog) w 97 9 84 mb es mc Tryz.underlying97 hm
  have HEE := Lib.hid hee
  have HST := Lib.hid hst
  have HM := Lib.hid hm
  have HFin : Hid (∀ L : List (List UInt8), L.Perm (es.toList.filterMap allE) → sortT L = allF st) := Lib.hid (fun L hL => by
    unfold allF
    rw [← allF_of hef]
    exact sortT_perm hL)
  have HR0 : Hid ((w.alloc (.mapIter (some mb) mc #[] mc)).heap[w.heap.size]? = some (.mapIter (some mb) mc #[] mc)) := Lib.hid (heap_alloc_new w _)
  have HB0 : Hid (Below w.heap.size w (w.alloc (.mapIter (some mb) mc #[] mc))) := Lib.hid ((Below.refl _ _).alloc (Nat.le_refl _) _)
  clear h hm hes hst hef hee
  go_enter Tryz.func21, Tryz.ntmps21
  go_wp2_with fail
  go_at_call 39
  refine HO.out.mono ?_
  rintro e w1 ⟨rfl, rfl⟩
  go_wp2
  go_loopw [3] (fun v3 wr => ∃ (L : List (List UInt8)) (seen : Array Nat), Hid (wr.ownsRow w.heap.size 9 1 v3 L.length (L.map strV)) ∧ Hid (L.Perm ((comeE es.toList seen).filterMap allE)) ∧ Hid (wr.heap[w.heap.size]? = some (.mapIter (some mb) mc seen mc)) ∧ Hid (Below w.heap.size w wr)) (fun _ wr => (leftOf es (wr.iterSeen w.heap.size)).size)
  case atStart => exact ⟨[], #[], Lib.hid ⟨rfl, .inl ⟨rfl, rfl⟩⟩, Lib.hid (by rw [comeE_none]; exact List.Perm.nil), HR0, HB0⟩
  case round =>
    obtain ⟨L, seen, HW, HP, HI, HB⟩ := hrel
    have HLn : Hid (L.length ≤ 512) := Lib.hid (by
      have h1 := HP.out.length_eq
      have h2 := List.length_filterMap_le allE (comeE es.toList seen)
      have h3 := comeE_len es.toList seen
      have h4 := HCN.out
      omega)
    have hmr : mb ≠ w.heap.size := by omega
    rcases iter_step wr w.heap.size mb mc es seen HST.out HI.out ((HB.out.block mb hmlt).trans HM.out) hmr with ⟨hnx, hall⟩ | ⟨e, w2, hel, hsn, hnx, hen, hi2, ho2, hz2', hbl, hsh⟩
    · obtain ⟨a3, c3', rfl⟩ := ownsRow_slice HW.out
      have HSo := Lib.hid (sort_own wr HW.out HB.out.size (by have := HLn.out; omega))
      have hfin := HFin.out L (by have := HP.out; rw [hall] at this; exact this)
      have hlen : (allF st).length = L.length := by rw [← hfin]; exact sortT_len L
      have HL2 := Lib.hid hlen
      have HE2 := Lib.hid hfin
      clear hall hfin hlen
      go_wp2_with fail
      go_at_call 40
      refine HSo.out.mono ?_
      rintro e w2 ⟨rfl, ho, hb⟩
      have HO2 := Lib.hid ho
      have HB2 := Lib.hid (HB.out.trans hb)
      clear ho hb
      go_wp2
      go_ret
      refine ⟨_, rfl, ?_, HB2.out⟩
      rw [← HE2.out, sortT_len]
      exact HO2.out
    · obtain ⟨hk, hv⟩ := HEE.out e hel
      have HSH := Lib.hid hsh
      have HSN := Lib.hid hsn
      have HEL := Lib.hid hel
      have HI2 := Lib.hid hi2
      have HB2 := Lib.hid (hbl w.heap.size w (Nat.le_refl _) HB.out)
      have HW2 : Hid (w2.ownsRow w.heap.size 9 1 u3 L.length (L.map strV)) := Lib.hid (ownsRow_heap HW.out (fun k hk => ho2 k (by
        rintro rfl
        rcases HW.out.2 with ⟨rfl, _⟩ | ⟨g, cap, cur, rfl, _, hg, _⟩
        · simp [Value.ownBlock] at hk
        · simp [Value.ownBlock] at hk
          subst hk
          rw [HI.out] at hg
          cases hg)))
      have HMe : Hid (wr.iterSeen w.heap.size = seen) := Lib.hid (by unfold World.iterSeen; rw [HI.out])
      have HPe := Lib.hid ((comeE_push seen e hsn es.toList HST.out.2 hel).filterMap allE)
      have hal : Hid (allE e = if (eFile e).dir then none else some (eKey e)) := Lib.hid rfl
      rw [hk, hv] at hnx hen
      generalize eKey e = q at hnx hen hal
      rcases hfe : eFile e with ⟨ft, fm, fd⟩
      rw [hfe] at hnx hen hal
      unfold fileV strV at hnx hen
      simp only at hnx hen hal
      clear hk hv hsh hsn hel hi2 ho2 hbl hfe hz2'
      obtain ⟨o, ho⟩ : ∃ o, o = Obj.cells #[.string ⟨ft.toArray⟩, .int .i64 fm, .bool fd] 84 := ⟨_, rfl⟩
      have hbox := heap_alloc_new w2 (.cells #[.string ⟨ft.toArray⟩, .int .i64 fm, .bool fd] 84)
      obtain ⟨x0, x1, x2, _, _, _⟩ := cells3 hbox
      have HI3 : Hid ((w2.alloc (.cells #[.string ⟨ft.toArray⟩, .int .i64 fm, .bool fd] 84)).heap[w.heap.size]? = some (.mapIter (some mb) mc (seen.push e.born) mc)) := Lib.hid ((Below.heap_alloc w2 _ _ (Array.getElem?_eq_some_iff.1 HI2.out).1).trans HI2.out)
      have HB3 := Lib.hid (HB2.out.alloc HB2.out.size (.cells #[.string ⟨ft.toArray⟩, .int .i64 fm, .bool fd] 84))
      have HW3 := Lib.hid (HW2.out.alloc (.cells #[.string ⟨ft.toArray⟩, .int .i64 fm, .bool fd] 84))
      clear hbox ho
      cases fd with
      | true =>
        have HPn : Hid (L.Perm ((comeE es.toList (seen.push e.born)).filterMap allE)) := Lib.hid (by
          refine HP.out.trans (List.Perm.symm ?_)
          refine HPe.out.trans ?_
          rw [List.filterMap_append]
          have : [e].filterMap allE = [] := by simp [hal.out]
          rw [this, List.append_nil])
        have hms : (w2.alloc (.cells #[.string ⟨ft.toArray⟩, .int .i64 fm, .bool true] 84)).iterSeen w.heap.size = seen.push e.born := by unfold World.iterSeen; rw [HI3.out]
        have HMs := Lib.hid hms
        clear hms
        go_wp2
        go_roundw
        case rel => exact ⟨L, _, HW3, HPn, HI3, HB3⟩
        case measure => rw [HMs.out, HMe.out]; exact HSH.out
      | false =>
        have HPn : Hid ((L ++ [q]).Perm ((comeE es.toList (seen.push e.born)).filterMap allE)) := Lib.hid (by
          refine List.Perm.trans ?_ (List.Perm.symm HPe.out)
          rw [List.filterMap_append]
          have : [e].filterMap allE = [q] := by simp [hal.out]
          rw [this]
          exact HP.out.append_right _)
        go_wp2_with (at_builtin; refine wpList_append_own _ rfl _ _ 29 rfl w.heap.size 9 i0 (.string .empty) 1 16 Tryz.underlying29 hi hz0 hz1 hz2 rfl (by decide) _ _ _ rfl (HW3.out.alloc _) ⟨w2.heap.size + 1, 0, none⟩ 1 1 [.string ⟨q.toArray⟩] rfl rfl ?c1 ?c2 ?c3 ?c4 ?c5 ?_)
        case c1 =>
          intro j y hj
          match j, hj with
          | 0, hj => simp at hj; subst hj; simp [Addr.add]
        case c2 => intro y hy; simp at hy; subst hy; rfl
        case c3 => have := HLn.out; unfold maxLen; omega
        case c4 => have := HLn.out; omega
        case c5 => have := HB3.out.size; simp at this ⊢; omega
        intro v' w4 hown' hgrow _
        have HI4 : Hid (w4.heap[w.heap.size]? = some (.mapIter (some mb) mc (seen.push e.born) mc)) := Lib.hid (by
          have hlt2 : w.heap.size < (w2.alloc (.cells #[.string ⟨ft.toArray⟩, .int .i64 fm, .bool false] 84)).heap.size := (Array.getElem?_eq_some_iff.1 HI3.out).1
          rw [hgrow.block w.heap.size (by simp at hlt2 ⊢; omega) (fun e => by
            rcases HW3.out.2 with ⟨rfl, _⟩ | ⟨g, cap, cur, rfl, _, hg, _⟩
            · simp [Value.ownBlock] at e
            · simp [Value.ownBlock] at e
              subst e
              rw [HI3.out] at hg
              cases hg)]
          exact (Below.heap_alloc _ _ _ hlt2).trans HI3.out)
        have HB4 : Hid (Below w.heap.size w w4) := Lib.hid ((HB3.out.alloc HB3.out.size _).grown hgrow (by have := HB3.out.size; simp at this ⊢; omega) (fun k hk => (HW3.out.lt k hk).1))
        have HW4 : Hid (w4.ownsRow w.heap.size 9 1 v' (L ++ [q]).length ((L ++ [q]).map strV)) := Lib.hid (by
          rw [List.length_append, List.map_append, List.map_singleton]
          exact hown')
        have hms : w4.iterSeen w.heap.size = seen.push e.born := by unfold World.iterSeen; rw [HI4.out]
        have HMs := Lib.hid hms
        clear hms hown' hgrow
        go_wp2
        go_roundw
        case rel => exact ⟨L ++ [q], _, HW4, HPn, HI4, HB4⟩
        case measure => rw [HMs.out, HMe.out]; exact HSH.out
end Go.Proofs.YtmagggflamdahaaGreatDoor

namespace Go.Proofs.YtmagggflamdahaaGreatDoor
open Go.RowKit

/-- how many a directory has; 0: it is none -/
def listN (st : PStore) (p : List UInt8) : Nat := match found st p with | .file q f => if f.dir then kidsN st q else 0 | _ => 0
def ListQ (st : PStore) (p : List UInt8) (w : World) (e : Ending) (w' : World) : Prop := (∃ a c n, e = .returned (.tuple #[.slice a (listN st p) c, .int .i64 n])) ∧ Below w.heap.size w w'

set_option maxHeartbeats 2000000 in
set_option maxRecDepth 100000 in
theorem list_not (pb : Nat) (st : PStore) (s : ByteArray) (w : World) (q : List UInt8) (ft : List UInt8) (fm n : Int) (hn : (n != 0) = true) (h0 : listN st s.data.toList = 0)
    (hF : Calls Tryz.prog 34 #[.pointer (some ⟨pb, 0, none⟩), .string s] w fun e w' => e = .returned (.tuple #[.string ⟨q.toArray⟩, .agg #[.string ⟨ft.toArray⟩, .int .i64 fm, .bool false], .int .i64 n]) ∧ Below w.heap.size w w') :
    Calls Tryz.prog 137 #[.pointer (some ⟨pb, 0, none⟩), .string s] w (ListQ st s.data.toList w) := by
  have HF := Lib.hid hF
  have H0 := Lib.hid h0
  clear hF h0
  go_enter Tryz.func137, Tryz.ntmps137
  go_wp2_with fail
  go_at_call 34
  refine HF.out.mono ?_
  rintro e w1 ⟨rfl, hb1⟩
  have HB1 := Lib.hid (hb1.alloc hb1.size (.cells #[.string ⟨ft.toArray⟩, .int .i64 fm, .bool false] 84))
  clear hb1
  go_wp2
  go_ret2
  exact ⟨⟨_, _, _, by rw [H0.out]; rfl⟩, HB1.out⟩

set_option maxHeartbeats 2000000 in
set_option maxRecDepth 100000 in
theorem list_file (pb : Nat) (st : PStore) (s : ByteArray) (w : World) (q : List UInt8) (ft : List UInt8) (fm : Int) (h0 : listN st s.data.toList = 0)
    (hF : Calls Tryz.prog 34 #[.pointer (some ⟨pb, 0, none⟩), .string s] w fun e w' => e = .returned (.tuple #[.string ⟨q.toArray⟩, .agg #[.string ⟨ft.toArray⟩, .int .i64 fm, .bool false], .int .i64 0]) ∧ Below w.heap.size w w') :
    Calls Tryz.prog 137 #[.pointer (some ⟨pb, 0, none⟩), .string s] w (ListQ st s.data.toList w) := by
  have HF := Lib.hid hF
  have H0 := Lib.hid h0
  clear hF h0
  go_enter Tryz.func137, Tryz.ntmps137
  go_wp2_with fail
  go_at_call 34
  refine HF.out.mono ?_
  rintro e w1 ⟨rfl, hb1⟩
  have hbox := heap_alloc_new w1 (.cells #[.string ⟨ft.toArray⟩, .int .i64 fm, .bool false] 84)
  obtain ⟨x0, x1, x2, _, _, _⟩ := cells3 hbox
  have HB1 := Lib.hid (hb1.alloc hb1.size (.cells #[.string ⟨ft.toArray⟩, .int .i64 fm, .bool false] 84))
  clear hb1 hbox
  go_wp2
  go_ret2
  exact ⟨⟨_, _, _, by rw [H0.out]; rfl⟩, HB1.out⟩

set_option maxHeartbeats 4000000 in
set_option maxRecDepth 100000 in
theorem list_dir (pb mb : Nat) (st : PStore) (s : ByteArray) (W0 : World) (h0 : IsStore pb mb st W0) (p : List UInt8) (gt : List UInt8) (gm : Int) (hN : listN st s.data.toList = kidsN st p)
    (hF : Calls Tryz.prog 34 #[.pointer (some ⟨pb, 0, none⟩), .string s] W0 fun e w' => e = .returned (.tuple #[.string ⟨p.toArray⟩, .agg #[.string ⟨gt.toArray⟩, .int .i64 gm, .bool true], .int .i64 0]) ∧ Below W0.heap.size W0 w') :
    Calls Tryz.prog 137 #[.pointer (some ⟨pb, 0, none⟩), .string s] W0 (ListQ st s.data.toList W0) := by
  obtain ⟨i0, hi, hz0, hz1, hz2⟩ := info_parts strInfo
  have HF := Lib.hid hF
  have HN := Lib.hid hN
  have HS0 := Lib.hid h0
  clear hF hN h0
  go_enter Tryz.func137, Tryz.ntmps137
  go_wp2_with fail
  go_at_call 34
  refine HF.out.mono ?_
  rintro e w1 ⟨rfl, hb1⟩
  have hbox := heap_alloc_new w1 (.cells #[.string ⟨gt.toArray⟩, .int .i64 gm, .bool true] 84)
  obtain ⟨x0, x1, x2, _, _, _⟩ := cells3 hbox
  have hb2 := hb1.alloc hb1.size (.cells #[.string ⟨gt.toArray⟩, .int .i64 gm, .bool true] 84)
  have HB2a := Lib.hid hb2
  clear hb1 hb2 hbox
  go_upto_region 7 with fail
  have hb2 := HB2a.out
  clear x0 x1 x2
  have h := HS0.out.below hb2
  obtain ⟨w, hw⟩ : ∃ w, w = w1.alloc (.cells #[.string ⟨gt.toArray⟩, .int .i64 gm, .bool true] 84) := ⟨_, rfl⟩
  have HWW := Lib.hid hw
  rw [← hw] at h hb2
  have HBB := Lib.hid hb2
  have hmlt := h.ltm
  obtain ⟨es, mc, hm, hes, hst⟩ := h.map
  obtain ⟨hef, hee⟩ := entries_files hes
  have c3 : w.cell? ⟨pb, 3, none⟩ = some (.map (some mb)) := Lib.cell_of_heap h.cells 3
  have HCN : Hid (es.toList.length ≤ 512) := Lib.hid (by have h1 := congrArg List.length hef; simp only [List.length_map] at h1; have h2 := h.wf.cnt; omega)
  have HKy : Hid (∀ e ∈ es.toList, (eKey e).length ≤ 4194304) := Lib.hid (fun e he => by
    have h1 : (eKey e, eFile e) ∈ st.files := by rw [← hef]; exact List.mem_map_of_mem (f := fun e => (eKey e, eFile e)) he
    exact h.wf.keys _ h1)
  have hrg := run_range_map (P := Tryz.prog) w 97 9 84 mb es mc Tryz.underlying97 hm
  have HEE := Lib.hid hee
  have HST := Lib.hid hst
  have HM := Lib.hid hm
  have HFin : Hid (∀ L : List (List UInt8), L.Perm (es.toList.filterMap (kidE p)) → L.length = kidsN st p) := Lib.hid (fun L hL => by
    rw [← kidsN_of p hef]
    exact hL.length_eq)
  have HR0 : Hid ((w.alloc (.mapIter (some mb) mc #[] mc)).heap[w.heap.size]? = some (.mapIter (some mb) mc #[] mc)) := Lib.hid (heap_alloc_new w _)
  have HB0 : Hid (Below w.heap.size w (w.alloc (.mapIter (some mb) mc #[] mc))) := Lib.hid ((Below.refl _ _).alloc (Nat.le_refl _) _)
  clear h hm hes hst hef hee
  rw [← hw]
  clear hw
  go_wp2
  go_loopw [9] (fun v9 wr => ∃ (L : List (List UInt8)) (seen : Array Nat), Hid (wr.ownsRow w.heap.size 9 1 v9 L.length (L.map strV)) ∧ Hid (L.Perm ((comeE es.toList seen).filterMap (kidE p))) ∧ Hid (wr.heap[w.heap.size]? = some (.mapIter (some mb) mc seen mc)) ∧ Hid (Below w.heap.size w wr)) (fun _ wr => (leftOf es (wr.iterSeen w.heap.size)).size)
  case atStart => exact ⟨[], #[], Lib.hid ⟨rfl, .inl ⟨rfl, rfl⟩⟩, Lib.hid (by rw [comeE_none]; exact List.Perm.nil), HR0, HB0⟩
  case round =>
    obtain ⟨L, seen, HW, HP, HI, HB⟩ := hrel
    have HLn : Hid (L.length ≤ 512) := Lib.hid (by
      have h1 := HP.out.length_eq
      have h2 := List.length_filterMap_le (kidE p) (comeE es.toList seen)
      have h3 := comeE_len es.toList seen
      have h4 := HCN.out
      omega)
    have hmr : mb ≠ w.heap.size := by omega
    rcases iter_step wr w.heap.size mb mc es seen HST.out HI.out ((HB.out.block mb hmlt).trans HM.out) hmr with ⟨hnx, hall⟩ | ⟨e, w2, hel, hsn, hnx, hen, hi2, ho2, hz2', hbl, hsh⟩
    · obtain ⟨a3, c3', rfl⟩ := ownsRow_slice HW.out
      have HSo := Lib.hid (sort_own wr HW.out HB.out.size (by have := HLn.out; omega))
      have HL2 := Lib.hid (HFin.out L (by have := HP.out; rw [hall] at this; exact this))
      clear hall
      go_wp2_with fail
      go_at_call 40
      refine HSo.out.mono ?_
      rintro e w2 ⟨rfl, ho, hb⟩
      have HB2 := Lib.hid (HBB.out.trans ((HB.out.trans hb).mono HBB.out.size))
      clear ho hb
      go_wp2
      go_ret2
      exact ⟨⟨_, _, _, by rw [HN.out, ← HL2.out]; rfl⟩, HB2.out⟩
    · obtain ⟨hk, hv⟩ := HEE.out e hel
      have HSH := Lib.hid hsh
      have HSN := Lib.hid hsn
      have HEL := Lib.hid hel
      have HI2 := Lib.hid hi2
      have HB2 := Lib.hid (hbl w.heap.size w (Nat.le_refl _) HB.out)
      have HW2 : Hid (w2.ownsRow w.heap.size 9 1 u9 L.length (L.map strV)) := Lib.hid (ownsRow_heap HW.out (fun k hk => ho2 k (by
        rintro rfl
        rcases HW.out.2 with ⟨rfl, _⟩ | ⟨g, cap, cur, rfl, _, hg, _⟩
        · simp [Value.ownBlock] at hk
        · simp [Value.ownBlock] at hk
          subst hk
          rw [HI.out] at hg
          cases hg)))
      have HMe : Hid (wr.iterSeen w.heap.size = seen) := Lib.hid (by unfold World.iterSeen; rw [HI.out])
      have HPe := Lib.hid ((comeE_push seen e hsn es.toList HST.out.2 hel).filterMap (kidE p))
      have hal : Hid (kidE p e = if (eKey e == [47]) = false ∧ (dirS (eKey e) == p) = true then some (nameS (eKey e)) else none) := Lib.hid rfl
      have hq := HKy.out e hel
      rw [hk, hv] at hnx hen
      generalize eKey e = q at hnx hen hal hq
      have hdl := dirS_len q
      have hnl := nameS_len q
      have HDr : Hid (∀ W, Calls Tryz.prog 69 #[.string ⟨q.toArray⟩] W fun e w' => e = .returned (.string ⟨(dirS q).toArray⟩) ∧ W = w') := Lib.hid (fun W => dir_any ⟨q.toArray⟩ (by show q.toArray.size ≤ _; simpa using hq) W)
      have HNm : Hid (∀ W, Calls Tryz.prog 151 #[.string ⟨q.toArray⟩] W fun e w' => e = .returned (.string ⟨(nameS q).toArray⟩) ∧ W = w') := Lib.hid (fun W => name_any ⟨q.toArray⟩ (by show q.toArray.size ≤ _; simpa using hq) W)
      unfold strV at hnx hen
      generalize dirS q = dq at HDr hal hdl
      generalize nameS q = nq at HNm hal hnl
      generalize fileV (eFile e) = fv at hnx hen
      clear hk hv hsh hsn hel hi2 ho2 hbl hz2'
      have hms : w2.iterSeen w.heap.size = seen.push e.born := by unfold World.iterSeen; rw [HI2.out]
      have HMs := Lib.hid hms
      clear hms
      by_cases hin : (q == [47]) = false ∧ (dq == p) = true
      · obtain ⟨hq1, hq2⟩ := hin
        have hq3 : (!q == [47]) = true := by rw [hq1]; rfl
        have HPn : Hid ((L ++ [nq]).Perm ((comeE es.toList (seen.push e.born)).filterMap (kidE p))) := Lib.hid (by
          refine List.Perm.trans ?_ (List.Perm.symm HPe.out)
          rw [List.filterMap_append]
          have : [e].filterMap (kidE p) = [nq] := by simp [hal.out, hq1, hq2]
          rw [this]
          exact HP.out.append_right _)
        go_wp2_with fail
        go_at_call 69
        refine (HDr.out _).mono ?_
        rintro e w3 ⟨rfl, rfl⟩
        go_wp2_with fail
        go_at_call 151
        refine (HNm.out _).mono ?_
        rintro e w3 ⟨rfl, rfl⟩
        go_wp2_with (at_builtin; refine wpList_append_own _ rfl _ _ 29 rfl w.heap.size 9 i0 (.string .empty) 1 16 Tryz.underlying29 hi hz0 hz1 hz2 rfl (by decide) _ _ _ rfl (HW2.out.alloc _) ⟨w2.heap.size, 0, none⟩ 1 1 [.string ⟨nq.toArray⟩] rfl rfl ?c1 ?c2 ?c3 ?c4 ?c5 ?_)
        case c1 =>
          intro j y hj
          match j, hj with
          | 0, hj => simp at hj; subst hj; simp [Addr.add]
        case c2 => intro y hy; simp at hy; subst hy; rfl
        case c3 => have := HLn.out; unfold maxLen; omega
        case c4 => have := HLn.out; omega
        case c5 => have := HB2.out.size; simp at this ⊢; omega
        intro v' w4 hown' hgrow _
        have HI4 : Hid (w4.heap[w.heap.size]? = some (.mapIter (some mb) mc (seen.push e.born) mc)) := Lib.hid (by
          have hlt2 : w.heap.size < w2.heap.size := (Array.getElem?_eq_some_iff.1 HI2.out).1
          rw [hgrow.block w.heap.size (by simp; omega) (fun e => by
            rcases HW2.out.2 with ⟨rfl, _⟩ | ⟨g, cap, cur, rfl, _, hg, _⟩
            · simp [Value.ownBlock] at e
            · simp [Value.ownBlock] at e
              subst e
              rw [HI2.out] at hg
              cases hg)]
          exact (Below.heap_alloc _ _ _ hlt2).trans HI2.out)
        have HB4 : Hid (Below w.heap.size w w4) := Lib.hid ((HB2.out.alloc HB2.out.size _).grown hgrow (by have := HB2.out.size; simp at this ⊢; omega) (fun k hk => (HW2.out.lt k hk).1))
        have HW4 : Hid (w4.ownsRow w.heap.size 9 1 v' (L ++ [nq]).length ((L ++ [nq]).map strV)) := Lib.hid (by
          rw [List.length_append, List.map_append, List.map_singleton]
          exact hown')
        have hms4 : w4.iterSeen w.heap.size = seen.push e.born := by unfold World.iterSeen; rw [HI4.out]
        have HM4 := Lib.hid hms4
        clear hms4 hown' hgrow
        go_wp2
        go_roundw
        case rel => exact ⟨L ++ [nq], _, HW4, HPn, HI4, HB4⟩
        case measure => rw [HM4.out, HMe.out]; exact HSH.out
      · have HPn : Hid (L.Perm ((comeE es.toList (seen.push e.born)).filterMap (kidE p))) := Lib.hid (by
          refine HP.out.trans (List.Perm.symm ?_)
          refine HPe.out.trans ?_
          rw [List.filterMap_append]
          have hkn : kidE p e = none := by rw [hal.out, if_neg hin]
          have : [e].filterMap (kidE p) = [] := by simp [hkn]
          rw [this, List.append_nil])
        cases hq1 : (q == [47]) with
        | true =>
          have hq3 : (!q == [47]) = false := by rw [hq1]; rfl
          clear hin
          go_wp2
          go_roundw
          case rel => exact ⟨L, _, HW2, HPn, HI2, HB2⟩
          case measure => rw [HMs.out, HMe.out]; exact HSH.out
        | false =>
          have hq2 : (dq == p) = false := by
            cases h : (dq == p) with
            | false => rfl
            | true => exact absurd ⟨hq1, h⟩ hin
          have hq3 : (!q == [47]) = true := by rw [hq1]; rfl
          clear hin
          go_wp2_with fail
          go_at_call 69
          refine (HDr.out _).mono ?_
          rintro e w3 ⟨rfl, rfl⟩
          go_wp2
          go_roundw
          case rel => exact ⟨L, _, HW2, HPn, HI2, HB2⟩
          case measure => rw [HMs.out, HMe.out]; exact HSH.out

theorem list_store (pb mb : Nat) (st : PStore) (s : ByteArray) (hs : s.size ≤ 262144) (w : World) (h : IsStore pb mb st w) :
    Calls Tryz.prog 137 #[.pointer (some ⟨pb, 0, none⟩), .string s] w (ListQ st s.data.toList w) := by
  have hF := findQ pb mb st s hs w h
  have hN : listN st s.data.toList = match found st s.data.toList with | .file q f => if f.dir then kidsN st q else 0 | _ => 0 := rfl
  cases hfd : found st s.data.toList with
  | not e =>
    obtain rfl := found_not hfd
    rw [hfd] at hF hN
    exact list_not pb st s w [] [] 0 1 (by decide) hN hF
  | nothing q =>
    rw [hfd] at hF hN
    exact list_not pb st s w q [] 0 6 (by decide) hN hF
  | file q f =>
    obtain ⟨ft, fm, fd⟩ := f
    rw [hfd] at hF hN
    cases fd with
    | true => exact list_dir pb mb st s w h q ft fm hN hF
    | false => exact list_file pb st s w q ft fm hN hF
end Go.Proofs.YtmagggflamdahaaGreatDoor

namespace Go.Proofs.YtmagggflamdahaaGreatDoor
open Go.RowKit

/-- the clock goes on -/
def PStore.tick (st : PStore) : PStore := { st with clock := IntKind.i64.wrap (st.clock + 1) }
/-- what a call that turns a store comes to -/
def StoreQ (pb mb : Nat) (r : PStore × Int) (w : World) (e : Ending) (w' : World) : Prop := e = .returned (.int .i64 r.2) ∧ IsStore pb mb r.1 w' ∧ Keeps w.heap.size (fun k => k = pb ∨ k = mb) w w'

theorem tick_store (pb mb : Nat) (st : PStore) (w : World) (h : IsStore pb mb st w) :
    Calls Tryz.prog 70 #[.pointer (some ⟨pb, 2, none⟩), .int .i64 1] w fun e w' => e = .returned (.int .i64 (IntKind.i64.wrap (st.clock + 1))) ∧ IsStore pb mb st.tick w' ∧ Keeps w.heap.size (fun k => k = pb ∨ k = mb) w w' := by
  have c2 : w.cell? ⟨pb, 2, none⟩ = some (.int .i64 st.clock) := Lib.cell_of_heap h.cells 2
  have f2 : w.frozen? ⟨pb, 2, none⟩ = false := Lib.frozen_of_heap h.cells 2
  refine (clockAdd_any pb st.clock w c2 f2).mono ?_
  rintro e w' ⟨rfl, rfl⟩
  refine ⟨rfl, ⟨⟨h.wf.room, h.wf.used, wrap_wrap _, h.wf.times, h.wf.cnt, h.wf.keys⟩, heap_set h.cells 2 _, ?_⟩, (Keeps.refl _ _ w).setCell (p := ⟨pb, 2, none⟩) (.inr (.inl rfl)) _⟩
  obtain ⟨es, mc, h1, h2⟩ := h.map
  exact ⟨es, mc, (Below.heap_setCell w ⟨pb, 2, none⟩ _ mb (by show mb ≠ pb; rintro rfl; rw [h.cells] at h1; cases h1)).trans h1, h2⟩

def removeF (st : PStore) (p : List UInt8) : PStore × Int := match found st p with
  | .not e => (st, e)
  | .nothing _ => (st, 6)
  | .file q f => if f.dir = true ∧ ((q == [47]) = true ∨ 0 < listN st q) then (st, 9) else ((st.drop q).tick, 0)

set_option maxHeartbeats 4000000 in
set_option maxRecDepth 100000 in
theorem remove_store (pb mb : Nat) (st : PStore) (s : ByteArray) (hs : s.size ≤ 131070) (w : World) (h : IsStore pb mb st w) :
    Calls Tryz.prog 116 #[.pointer (some ⟨pb, 0, none⟩), .string s] w (StoreQ pb mb (removeF st s.data.toList) w) := by
  have HF := Lib.hid (findQ pb mb st s (by omega) w h)
  have H := Lib.hid h
  have hR : Hid (removeF st s.data.toList = match found st s.data.toList with | .not e => (st, e) | .nothing _ => (st, 6) | .file q f => if f.dir = true ∧ ((q == [47]) = true ∨ 0 < listN st q) then (st, 9) else ((st.drop q).tick, 0)) := Lib.hid rfl
  have hE : Hid (∀ e, found st s.data.toList = .not e → e = 1) := Lib.hid (fun e he => found_not he)
  have hN : Hid (∀ q f, found st s.data.toList = .file q f → q.length ≤ 262144) := Lib.hid (fun q f he => by
    have := (found_file he).1
    simp at this
    omega)
  clear h
  generalize found st s.data.toList = fd at HF hR hE hN
  generalize removeF st s.data.toList = r at hR ⊢
  cases fd with
  | not e =>
    obtain rfl := hE.out e rfl
    obtain rfl : r = (st, 1) := hR.out
    clear hR hE hN
    unfold Found.val at HF
    go_enter Tryz.func116, Tryz.ntmps116
    go_wp2_with fail
    go_at_call 34
    refine HF.out.mono ?_
    rintro e w1 ⟨rfl, hb1⟩
    have hb2 := hb1.alloc hb1.size (.cells #[.string ⟨#[]⟩, .int .i64 0, .bool false] 84)
    have HI := Lib.hid (H.out.below hb2)
    have HB1 := Lib.hid hb2
    clear hb1 hb2
    go_wp2
    go_ret
    exact ⟨rfl, HI.out, Keeps.of HB1.out _⟩
  | nothing q =>
    obtain rfl : r = (st, 6) := hR.out
    clear hR hE hN
    unfold Found.val at HF
    go_enter Tryz.func116, Tryz.ntmps116
    go_wp2_with fail
    go_at_call 34
    refine HF.out.mono ?_
    rintro e w1 ⟨rfl, hb1⟩
    have hb2 := hb1.alloc hb1.size (.cells #[.string ⟨#[]⟩, .int .i64 0, .bool false] 84)
    have HI := Lib.hid (H.out.below hb2)
    have HB1 := Lib.hid hb2
    clear hb1 hb2
    go_wp2
    go_ret
    exact ⟨rfl, HI.out, Keeps.of HB1.out _⟩
  | file q f =>
    obtain ⟨ft, fm, fd⟩ := f
    unfold Found.val at HF
    simp only at HF hR
    have HD : Hid (∀ w, IsStore pb mb st w → Calls Tryz.prog 136 #[.pointer (some ⟨pb, 0, none⟩), .string ⟨q.toArray⟩] w fun e w' => e = .returned (.tuple #[]) ∧ IsStore pb mb (st.drop q) w' ∧ Keeps w.heap.size (fun k => k = pb ∨ k = mb) w w') := Lib.hid (fun w h => drop_any pb mb st q w h)
    have HT : Hid (∀ w, IsStore pb mb (st.drop q) w → Calls Tryz.prog 70 #[.pointer (some ⟨pb, 2, none⟩), .int .i64 1] w fun e w' => e = .returned (.int .i64 (IntKind.i64.wrap ((st.drop q).clock + 1))) ∧ IsStore pb mb (st.drop q).tick w' ∧ Keeps w.heap.size (fun k => k = pb ∨ k = mb) w w') := Lib.hid (fun w h => tick_store pb mb (st.drop q) w h)
    generalize IntKind.i64.wrap ((st.drop q).clock + 1) = tk at HT
    have HLs : Hid (∀ w, IsStore pb mb st w → Calls Tryz.prog 137 #[.pointer (some ⟨pb, 0, none⟩), .string ⟨q.toArray⟩] w (ListQ st q w)) := Lib.hid (fun w h => list_store pb mb st ⟨q.toArray⟩ (by have := hN.out q _ rfl; show q.toArray.size ≤ _; simpa using this) w h)
    unfold ListQ at HLs
    generalize listN st q = n at hR HLs
    clear hE hN
    cases fd with
    | false =>
      obtain rfl : r = ((st.drop q).tick, 0) := by rw [hR.out, if_neg (by simp)]
      clear hR HLs
      go_enter Tryz.func116, Tryz.ntmps116
      go_wp2_with fail
      go_at_call 34
      refine HF.out.mono ?_
      rintro e w1 ⟨rfl, hb1⟩
      have hbox := heap_alloc_new w1 (.cells #[.string ⟨ft.toArray⟩, .int .i64 fm, .bool false] 84)
      obtain ⟨x0, x1, x2, _, _, _⟩ := cells3 hbox
      have hb2 := hb1.alloc hb1.size (.cells #[.string ⟨ft.toArray⟩, .int .i64 fm, .bool false] 84)
      have HI := Lib.hid (H.out.below hb2)
      have HB1 := Lib.hid hb2
      clear hb1 hb2 hbox
      go_wp2_with fail
      go_at_call 35
      refine (note_any pb mb st _ _ _ HI.out).mono ?_
      rintro e w2 ⟨rfl, rfl⟩
      go_wp2_with fail
      go_at_call 136
      refine (HD.out _ HI.out).mono ?_
      rintro e w3 ⟨rfl, hI3, hk3⟩
      have HI3 := Lib.hid hI3
      have HK3 : Hid (Keeps w.heap.size (fun k => k = pb ∨ k = mb) w w3) := Lib.hid ((Keeps.of HB1.out _).trans (hk3.mono HB1.out.size (fun _ _ h => h)))
      clear hI3 hk3 x0 x1 x2
      go_wp2_with fail
      go_at_call 70
      refine (HT.out _ HI3.out).mono ?_
      rintro e w4 ⟨rfl, hI4, hk4⟩
      have HI4 := Lib.hid hI4
      have HK4 : Hid (Keeps w.heap.size (fun k => k = pb ∨ k = mb) w w4) := Lib.hid (HK3.out.trans (hk4.mono HK3.out.size (fun _ _ h => h)))
      clear hI4 hk4
      go_wp2
      go_ret
      exact ⟨rfl, HI4.out, HK4.out⟩
    | true =>
      go_enter Tryz.func116, Tryz.ntmps116
      go_wp2_with fail
      go_at_call 34
      refine HF.out.mono ?_
      rintro e w1 ⟨rfl, hb1⟩
      have hbox := heap_alloc_new w1 (.cells #[.string ⟨ft.toArray⟩, .int .i64 fm, .bool true] 84)
      obtain ⟨x0, x1, x2, _, _, _⟩ := cells3 hbox
      have hb2 := hb1.alloc hb1.size (.cells #[.string ⟨ft.toArray⟩, .int .i64 fm, .bool true] 84)
      have HI := Lib.hid (H.out.below hb2)
      have HB1 := Lib.hid hb2
      clear hb1 hb2 hbox
      go_wp2_with fail
      go_at_call 137
      refine (HLs.out _ HI.out).mono ?_
      rintro e w2 ⟨⟨la, lc, le, rfl⟩, hb2⟩
      have HI2 := Lib.hid (HI.out.below hb2)
      have HB2 := Lib.hid (HB1.out.trans (hb2.mono HB1.out.size))
      clear hb2 x0 x1 x2
      cases hq : (q == [47]) with
      | true =>
        have HR : Hid (r = (st, 9)) := Lib.hid (by rw [hR.out, if_pos ⟨by trivial, .inl hq⟩])
        clear hR
        go_wp2
        go_ret
        exact ⟨by rw [HR.out]; rfl, by rw [HR.out]; exact HI2.out, Keeps.of HB2.out _⟩
      | false =>
        by_cases hn : 0 < (n : Int)
        · have HR : Hid (r = (st, 9)) := Lib.hid (by rw [hR.out, if_pos ⟨by trivial, .inr (by omega)⟩])
          clear hR
          go_wp2
          go_ret
          exact ⟨by rw [HR.out]; rfl, by rw [HR.out]; exact HI2.out, Keeps.of HB2.out _⟩
        · have HR : Hid (r = ((st.drop q).tick, 0)) := Lib.hid (by rw [hR.out, if_neg (by rintro ⟨_, h | h⟩; rw [hq] at h; cases h; omega)])
          clear hR
          go_wp2_with fail
          go_at_call 136
          refine (HD.out _ HI2.out).mono ?_
          rintro e w3 ⟨rfl, hI3, hk3⟩
          have HI3 := Lib.hid hI3
          have HK3 : Hid (Keeps w.heap.size (fun k => k = pb ∨ k = mb) w w3) := Lib.hid ((Keeps.of HB2.out _).trans (hk3.mono HB2.out.size (fun _ _ h => h)))
          clear hI3 hk3
          go_wp2_with fail
          go_at_call 70
          refine (HT.out _ HI3.out).mono ?_
          rintro e w4 ⟨rfl, hI4, hk4⟩
          have HI4 := Lib.hid hI4
          have HK4 : Hid (Keeps w.heap.size (fun k => k = pb ∨ k = mb) w w4) := Lib.hid (HK3.out.trans (hk4.mono HK3.out.size (fun _ _ h => h)))
          clear hI4 hk4
          go_wp2
          go_ret
          exact ⟨by rw [HR.out]; rfl, by rw [HR.out]; exact HI4.out, HK4.out⟩
end Go.Proofs.YtmagggflamdahaaGreatDoor

namespace Go.Proofs.YtmagggflamdahaaGreatDoor
open Go.RowKit

def Found.path : Found → List UInt8
  | .not _ => []
  | .nothing q => q
  | .file q _ => q
def Found.it : Found → PFile
  | .file _ f => f
  | _ => noFile
def Found.code : Found → Int
  | .not e => e
  | .nothing _ => 6
  | .file _ _ => 0
theorem Found.val_eq (f : Found) : f.val = .tuple #[.string ⟨f.path.toArray⟩, .agg #[.string ⟨f.it.text.toArray⟩, .int .i64 f.it.time, .bool f.it.dir], .int .i64 f.code] := by
  cases f <;> rfl
theorem code_is (st : PStore) (p : List UInt8) : (found st p).code = 0 ∨ (found st p).code = 6 ∨ (found st p).code = 1 := by
  cases h : found st p with
  | not e => obtain rfl := found_not h; exact .inr (.inr rfl)
  | nothing q => exact .inr (.inl rfl)
  | file q f => exact .inl rfl
theorem path_len (st : PStore) (p : List UInt8) : (found st p).path.length ≤ 2 * p.length + 4 := by
  cases h : found st p with
  | not e => simp [Found.path]
  | nothing q => exact (found_nothing h).1
  | file q f => exact (found_file h).1
theorem code_none (st : PStore) (p : List UInt8) (h : (found st p).code = 6) : (found st p).it.dir = false := by
  cases hf : found st p with
  | not e => obtain rfl := found_not hf; rw [hf] at h; cases h
  | nothing q => rfl
  | file q f => rw [hf] at h; cases h
theorem delF_some_len (p : List UInt8) (f : PFile) : ∀ fs : List (List UInt8 × PFile), findF p fs = some f → (delF p fs).length + 1 = fs.length
  | [], h => by cases h
  | (q, g) :: r, h => by
    cases hpq : (p == q) with
    | true => simp [delF, hpq]
    | false =>
      simp only [findF, hpq] at h
      have ih := delF_some_len p f r (by simpa using h)
      simp [delF, hpq]
      omega

def moveF (st : PStore) (a b : List UInt8) : PStore × Int :=
  if (found st a).code = 1 ∨ (found st b).code = 1 then (st, 1)
  else if (found st a).code = 6 ∨ homeS st (found st b).path = 6 then (st, 6)
  else if (found st a).it.dir = true ∨ (found st b).it.dir = true ∨ homeS st (found st b).path ≠ 0 then (st, 8)
  else if ((found st a).path == (found st b).path) = true then (st.tick, 0)
  else ((st.drop (found st a).path).put (found st b).path ⟨(found st a).it.text, 0, false⟩, 0)

set_option maxHeartbeats 8000000 in
set_option maxRecDepth 100000 in
theorem move_store (pb mb : Nat) (st : PStore) (s t : ByteArray) (hs : s.size ≤ 262144) (ht : t.size ≤ 262144) (w : World) (h : IsStore pb mb st w) :
    Calls Tryz.prog 113 #[.pointer (some ⟨pb, 0, none⟩), .string s, .string t] w (StoreQ pb mb (moveF st s.data.toList t.data.toList) w) := by
  have HFa : Hid (∀ w, IsStore pb mb st w → Calls Tryz.prog 34 #[.pointer (some ⟨pb, 0, none⟩), .string s] w fun e w' => e = .returned (found st s.data.toList).val ∧ Below w.heap.size w w') := Lib.hid (fun w h => findQ pb mb st s hs w h)
  have HFb : Hid (∀ w, IsStore pb mb st w → Calls Tryz.prog 34 #[.pointer (some ⟨pb, 0, none⟩), .string t] w fun e w' => e = .returned (found st t.data.toList).val ∧ Below w.heap.size w w') := Lib.hid (fun w h => findQ pb mb st t ht w h)
  rw [Found.val_eq] at HFa HFb
  have H := Lib.hid h
  have hca := code_is st s.data.toList
  have hcb := code_is st t.data.toList
  have hpl := path_len st t.data.toList
  have htl : t.data.toList.length = t.size := by simp
  have hsl : s.data.toList.length = s.size := by simp
  have hR : Hid (moveF st s.data.toList t.data.toList = (if (found st s.data.toList).code = 1 ∨ (found st t.data.toList).code = 1 then (st, 1)
    else if (found st s.data.toList).code = 6 ∨ homeS st (found st t.data.toList).path = 6 then (st, 6)
    else if (found st s.data.toList).it.dir = true ∨ (found st t.data.toList).it.dir = true ∨ homeS st (found st t.data.toList).path ≠ 0 then (st, 8)
    else if ((found st s.data.toList).path == (found st t.data.toList).path) = true then (st.tick, 0)
    else ((st.drop (found st s.data.toList).path).put (found st t.data.toList).path ⟨(found st s.data.toList).it.text, 0, false⟩, 0))) := Lib.hid rfl
  have HPut : Hid ((found st s.data.toList).code = 0 → ∀ w, IsStore pb mb (st.drop (found st s.data.toList).path) w → Calls Tryz.prog 50 #[.pointer (some ⟨pb, 0, none⟩), .string ⟨(found st t.data.toList).path.toArray⟩, .agg #[.string ⟨(found st s.data.toList).it.text.toArray⟩, .int .i64 0, .bool false]] w fun e w' => e = .returned (.tuple #[]) ∧ IsStore pb mb ((st.drop (found st s.data.toList).path).put (found st t.data.toList).path ⟨(found st s.data.toList).it.text, 0, false⟩) w' ∧ Keeps w.heap.size (fun k => k = pb ∨ k = mb) w w') := Lib.hid (fun hc w hw => by
    cases hfd : found st s.data.toList with
    | not e => obtain rfl := found_not hfd; rw [hfd] at hc; cases hc
    | nothing q => rw [hfd] at hc; cases hc
    | file q f =>
      rw [hfd] at hw
      have hg : findF q st.files = some f := (found_file hfd).2
      have h1 : sumT (st.drop q).files + oldT q st.files = sumT st.files := sumT_del q st.files
      have h2 : (st.drop q).used = sumT (st.drop q).files := rfl
      have h3 : st.used = sumT st.files := rfl
      have h4 : oldT q st.files = f.text.length := by unfold oldT; rw [hg]; rfl
      have h5 := h.wf.used
      have h6 := h.wf.room
      have h7 : (st.drop q).room = st.room := rfl
      have h8 : (delF q st.files).length + 1 = st.files.length := delF_some_len q f st.files hg
      have h9 := h.wf.cnt
      have h10 : (st.drop q).files.length = (delF q st.files).length := rfl
      exact put_any pb mb (st.drop q) (found st t.data.toList).path f.text 0 false (by omega) (.inr (by omega)) (by omega) w hw (by omega))
  have HDr : Hid (∀ w, IsStore pb mb st w → Calls Tryz.prog 136 #[.pointer (some ⟨pb, 0, none⟩), .string ⟨(found st s.data.toList).path.toArray⟩] w fun e w' => e = .returned (.tuple #[]) ∧ IsStore pb mb (st.drop (found st s.data.toList).path) w' ∧ Keeps w.heap.size (fun k => k = pb ∨ k = mb) w w') := Lib.hid (fun w h => drop_any pb mb st _ w h)
  have HH : Hid (∀ w, IsStore pb mb st w → Calls Tryz.prog 49 #[.pointer (some ⟨pb, 0, none⟩), .string ⟨(found st t.data.toList).path.toArray⟩] w fun e w' => e = .returned (.int .i64 (homeS st (found st t.data.toList).path)) ∧ Below w.heap.size w w') := Lib.hid (fun w h => home_any pb mb st _ (by omega) w h)
  have hhm := homeS_is st (found st t.data.toList).path
  generalize moveF st s.data.toList t.data.toList = r at hR ⊢
  generalize homeS st (found st t.data.toList).path = hm at HH hhm hR
  generalize (found st t.data.toList).path = qb at *
  generalize (found st s.data.toList).path = qa at *
  generalize (found st t.data.toList).it = gb at *
  generalize (found st s.data.toList).it = ga at *
  generalize (found st t.data.toList).code = cb at *
  generalize (found st s.data.toList).code = ca at *
  obtain ⟨at', am, ad⟩ := ga
  obtain ⟨bt, bm, bd⟩ := gb
  simp only at HFa HFb HPut HDr HH hR
  generalize (st.drop qa).put qb ⟨at', 0, false⟩ = stP at HPut hR
  have HT : Hid (∀ w, IsStore pb mb st w → Calls Tryz.prog 70 #[.pointer (some ⟨pb, 2, none⟩), .int .i64 1] w fun e w' => e = .returned (.int .i64 (IntKind.i64.wrap (st.clock + 1))) ∧ IsStore pb mb st.tick w' ∧ Keeps w.heap.size (fun k => k = pb ∨ k = mb) w w') := Lib.hid (fun w h => tick_store pb mb st w h)
  generalize IntKind.i64.wrap (st.clock + 1) = tk at HT
  have HPM : Hid (pb < w.heap.size ∧ mb < w.heap.size) := Lib.hid ⟨h.ltp, h.ltm⟩
  have HCa := Lib.hid hca
  have HCb := Lib.hid hcb
  have HHm := Lib.hid hhm
  clear h hpl htl hsl hca hcb hhm hs ht
  go_enter Tryz.func113, Tryz.ntmps113
  go_wp2_with fail
  go_at_call 34
  refine (HFa.out _ H.out).mono ?_
  rintro e w1 ⟨rfl, hb1⟩
  obtain ⟨oa, hoa⟩ : ∃ oa, oa = Obj.cells #[.string ⟨at'.toArray⟩, .int .i64 am, .bool ad] 84 := ⟨_, rfl⟩
  obtain ⟨ob, hob⟩ : ∃ ob, ob = Obj.cells #[.string ⟨bt.toArray⟩, .int .i64 bm, .bool bd] 84 := ⟨_, rfl⟩
  have HZ1 := Lib.hid hb1.size
  have hb2 := hb1.alloc hb1.size (.cells #[.string ⟨at'.toArray⟩, .int .i64 am, .bool ad] 84)
  have hboxa := heap_alloc_new w1 (.cells #[.string ⟨at'.toArray⟩, .int .i64 am, .bool ad] 84)
  have HI1 := Lib.hid (H.out.below hb2)
  have HB1 := Lib.hid hb2
  have HBa := Lib.hid hboxa
  clear hb1 hb2 hboxa hoa hob
  go_wp2_with fail
  go_at_call 34
  refine (HFb.out _ HI1.out).mono ?_
  rintro e w2 ⟨rfl, hb2⟩
  have hba2 := (hb2.block w1.heap.size (by simp)).trans HBa.out
  have hb3 := (HB1.out.trans (hb2.mono HB1.out.size)).alloc (Nat.le_trans HB1.out.size hb2.size) (.cells #[.string ⟨bt.toArray⟩, .int .i64 bm, .bool bd] 84)
  have hI2 := (HI1.out.below hb2).below ((Below.refl w2.heap.size w2).alloc (Nat.le_refl _) (.cells #[.string ⟨bt.toArray⟩, .int .i64 bm, .bool bd] 84))
  have hlt2 : w1.heap.size < w2.heap.size := by have := hb2.size; simp at this; omega
  have hba3 := (Below.heap_alloc w2 (.cells #[.string ⟨bt.toArray⟩, .int .i64 bm, .bool bd] 84) w1.heap.size hlt2).trans hba2
  have hbb3 := heap_alloc_new w2 (.cells #[.string ⟨bt.toArray⟩, .int .i64 bm, .bool bd] 84)
  have HB3 := Lib.hid (hb3.alloc hb3.size (.cells #[.int .i64 ca, .int .i64 cb] 22))
  have HI3 := Lib.hid (hI2.below ((Below.refl _ _).alloc (Nat.le_refl _) (.cells #[.int .i64 ca, .int .i64 cb] 22)))
  have HBA := Lib.hid ((Below.heap_alloc (w2.alloc (.cells #[.string ⟨bt.toArray⟩, .int .i64 bm, .bool bd] 84)) (.cells #[.int .i64 ca, .int .i64 cb] 22) w1.heap.size (by simp; omega)).trans hba3)
  have HBB := Lib.hid ((Below.heap_alloc (w2.alloc (.cells #[.string ⟨bt.toArray⟩, .int .i64 bm, .bool bd] 84)) (.cells #[.int .i64 ca, .int .i64 cb] 22) w2.heap.size (by simp)).trans hbb3)
  have hbc := heap_alloc_new (w2.alloc (.cells #[.string ⟨bt.toArray⟩, .int .i64 bm, .bool bd] 84)) (.cells #[.int .i64 ca, .int .i64 cb] 22)
  have hsz1 : (w2.alloc (.cells #[.string ⟨bt.toArray⟩, .int .i64 bm, .bool bd] 84)).heap.size = w2.heap.size + 1 := by simp
  rw [hsz1] at hbc
  clear hsz1
  have z0 : ((w2.alloc (.cells #[.string ⟨bt.toArray⟩, .int .i64 bm, .bool bd] 84)).alloc (.cells #[.int .i64 ca, .int .i64 cb] 22)).cell? ⟨w2.heap.size + 1, 0, none⟩ = some (.int .i64 ca) := Lib.cell_of_heap hbc 0
  have z1 : ((w2.alloc (.cells #[.string ⟨bt.toArray⟩, .int .i64 bm, .bool bd] 84)).alloc (.cells #[.int .i64 ca, .int .i64 cb] 22)).cell? ⟨w2.heap.size + 1, 1, none⟩ = some (.int .i64 cb) := Lib.cell_of_heap hbc 1
  clear hb2 hba2 hb3 hI2 hba3 hbb3 hbc hlt2
  go_wp2
  go_loop [34] (fun v34 => ∃ i : Nat, v34 = .int .i64 i ∧ i ≤ 2 ∧ Hid (0 < i → ca ≠ 1) ∧ Hid (1 < i → cb ≠ 1)) (fun v34 => 3 - (intOf v34).toNat)
  case atStart => exact ⟨0, rfl, by omega, Lib.hid (fun h => by omega), Lib.hid (fun h => by omega)⟩
  case round =>
    obtain ⟨i, rfl, hi, HA, HBc⟩ := hrel
    by_cases hi2 : i = 2
    · have HCC : Hid (ca ≠ 1 ∧ cb ≠ 1) := Lib.hid ⟨HA.out (by omega), HBc.out (by omega)⟩
      subst hi2
      clear HA HBc z0 z1
      go_wp2_with fail
      go_at_call 49
      refine (HH.out _ HI3.out).mono ?_
      rintro e w3 ⟨rfl, hb3⟩
      have hba := (hb3.block w1.heap.size (Array.getElem?_eq_some_iff.1 HBA.out).1).trans HBA.out
      have hbb := (hb3.block w2.heap.size (Array.getElem?_eq_some_iff.1 HBB.out).1).trans HBB.out
      obtain ⟨a0, a1, a2, _, _, _⟩ := cells3 hba
      obtain ⟨b0, b1, b2, _, _, _⟩ := cells3 hbb
      have HI4 := Lib.hid (HI3.out.below hb3)
      have HB4 := Lib.hid (HB3.out.trans (hb3.mono HB3.out.size))
      clear hb3 hba hbb
      rcases HCa.out with hc | hc | hc
      · have hc6 : (ca == 6) = false := by rw [hc]; rfl
        have HC0 := Lib.hid hc
        by_cases h6 : hm = 6
        · have hm6 : (hm == 6) = true := by rw [h6]; rfl
          have HR : Hid (r = (st, 6)) := Lib.hid (by rw [hR.out, if_neg (by intro h; rcases h with h | h; exact HCC.out.1 h; exact HCC.out.2 h), if_pos (.inr h6)])
          clear hc h6
          go_wp2
          go_ret
          exact ⟨by rw [HR.out]; rfl, by rw [HR.out]; exact HI4.out, Keeps.of HB4.out _⟩
        · have hm6 : (hm == 6) = false := by simpa using h6
          have HR1 : Hid (r = if ad = true ∨ bd = true ∨ hm ≠ 0 then (st, 8) else if (qa == qb) = true then (st.tick, 0) else (stP, 0)) := Lib.hid (by rw [hR.out, if_neg (by intro h; rcases h with h | h; exact HCC.out.1 h; exact HCC.out.2 h), if_neg (by rintro (h | h); omega; exact h6 h)])
          clear hc h6
          cases ad with
          | true =>
            have HR : Hid (r = (st, 8)) := Lib.hid (by rw [HR1.out, if_pos (.inl rfl)])
            go_wp2
            go_ret
            exact ⟨by rw [HR.out]; rfl, by rw [HR.out]; exact HI4.out, Keeps.of HB4.out _⟩
          | false =>
            cases bd with
            | true =>
              have HR : Hid (r = (st, 8)) := Lib.hid (by rw [HR1.out, if_pos (.inr (.inl rfl))])
              go_wp2
              go_ret
              exact ⟨by rw [HR.out]; rfl, by rw [HR.out]; exact HI4.out, Keeps.of HB4.out _⟩
            | false =>
              by_cases h0 : hm = 0
              · have hm0 : (hm != 0) = false := by rw [h0]; rfl
                have HR2 : Hid (r = if (qa == qb) = true then (st.tick, 0) else (stP, 0)) := Lib.hid (by rw [HR1.out, if_neg (by rintro (h | h | h); cases h; cases h; exact h h0)])
                clear h0
                cases hq : (qa == qb) with
                | true =>
                  have HR : Hid (r = (st.tick, 0)) := Lib.hid (by rw [HR2.out, if_pos hq])
                  go_wp2_with fail
                  go_at_call 70
                  refine (HT.out _ HI4.out).mono ?_
                  rintro e w4 ⟨rfl, hI5, hk5⟩
                  have HI5 := Lib.hid hI5
                  have HK5 : Hid (Keeps w.heap.size (fun k => k = pb ∨ k = mb) w w4) := Lib.hid ((Keeps.of HB4.out _).trans (hk5.mono HB4.out.size (fun _ _ h => h)))
                  clear hI5 hk5
                  go_wp2
                  go_ret
                  exact ⟨by rw [HR.out]; rfl, by rw [HR.out]; exact HI5.out, HK5.out⟩
                | false =>
                  have HR : Hid (r = (stP, 0)) := Lib.hid (by rw [HR2.out, if_neg (by rw [hq]; simp)])
                  go_wp2_with fail
                  go_at_call 136
                  refine (HDr.out _ HI4.out).mono ?_
                  rintro e w4 ⟨rfl, hI5, hk5⟩
                  have hpm : ¬ (w1.heap.size = pb ∨ w1.heap.size = mb) := by
                    have h1 := H.out.ltp
                    have h2 := H.out.ltm
                    have h3 := HZ1.out
                    intro h
                    have h4 := HPM.out
                    omega
                  have c5 : w4.cell? ⟨w1.heap.size, 0, none⟩ = some (.string ⟨at'.toArray⟩) := (hk5.cell (p := ⟨w1.heap.size, 0, none⟩) (World.block_lt_of_cell? w3 _ a0) hpm).trans a0
                  have HI5 := Lib.hid hI5
                  have HK5 : Hid (Keeps w.heap.size (fun k => k = pb ∨ k = mb) w w4) := Lib.hid ((Keeps.of HB4.out _).trans (hk5.mono HB4.out.size (fun _ _ h => h)))
                  clear hI5 hk5 hpm a0 a1 a2 b0 b1 b2
                  go_wp2_with fail
                  go_at_call 50
                  refine (HPut.out HC0.out _ HI5.out).mono ?_
                  rintro e w5 ⟨rfl, hI6, hk6⟩
                  have HI6 := Lib.hid hI6
                  have HK6 : Hid (Keeps w.heap.size (fun k => k = pb ∨ k = mb) w w5) := Lib.hid (HK5.out.trans (hk6.mono HK5.out.size (fun _ _ h => h)))
                  clear hI6 hk6
                  go_wp2_with fail
                  go_at_call 35
                  refine (note_any pb mb stP _ _ _ HI6.out).mono ?_
                  rintro e w6 ⟨rfl, rfl⟩
                  go_wp2_with fail
                  go_at_call 35
                  refine (note_any pb mb stP _ _ _ HI6.out).mono ?_
                  rintro e w6 ⟨rfl, rfl⟩
                  go_wp2
                  go_ret
                  exact ⟨by rw [HR.out]; rfl, by rw [HR.out]; exact HI6.out, HK6.out⟩
              · have hm0 : (hm != 0) = true := by simpa using h0
                have HR : Hid (r = (st, 8)) := Lib.hid (by rw [HR1.out, if_pos (.inr (.inr h0))])
                clear h0
                go_wp2
                go_ret
                exact ⟨by rw [HR.out]; rfl, by rw [HR.out]; exact HI4.out, Keeps.of HB4.out _⟩
      · have hc6 : (ca == 6) = true := by rw [hc]; rfl
        have HR : Hid (r = (st, 6)) := Lib.hid (by rw [hR.out, if_neg (by intro h; rcases h with h | h; exact HCC.out.1 h; exact HCC.out.2 h), if_pos (.inl hc)])
        clear hc
        go_wp2
        go_ret
        exact ⟨by rw [HR.out]; rfl, by rw [HR.out]; exact HI4.out, Keeps.of HB4.out _⟩
      · exact absurd hc HCC.out.1
    · obtain ⟨y, hy, hy1⟩ : ∃ y : Int, ((w2.alloc (.cells #[.string ⟨bt.toArray⟩, .int .i64 bm, .bool bd] 84)).alloc (.cells #[.int .i64 ca, .int .i64 cb] 22)).cell? ⟨w2.heap.size + 1, i, none⟩ = some (.int .i64 y) ∧ Hid ((y = 0 ∨ y = 6 ∨ y = 1) ∧ (y = 1 → r = (st, 1)) ∧ (0 < i + 1 → 0 = i → y = ca) ∧ (1 = i → y = cb)) := by
        rcases (show i = 0 ∨ i = 1 by omega) with rfl | rfl
        · exact ⟨ca, z0, Lib.hid ⟨HCa.out, fun h => by rw [hR.out, if_pos (.inl h)], fun _ _ => rfl, fun h => by omega⟩⟩
        · exact ⟨cb, z1, Lib.hid ⟨HCb.out, fun h => by rw [hR.out, if_pos (.inr h)], fun _ h => by omega, fun _ => rfl⟩⟩
      have hlt : (i : Int) < 2 := by omega
      have HI2 := Lib.hid hi2
      clear hi2
      by_cases hyy : y = 1
      · have hn0 : (y != 0) = true := by rw [hyy]; rfl
        have hn6 : (y != 6) = true := by rw [hyy]; rfl
        have HR : Hid (r = (st, 1)) := Lib.hid (hy1.out.2.1 hyy)
        have HY := Lib.hid hyy
        clear hyy z0 z1
        go_wp2
        go_ret
        exact ⟨by rw [HR.out, HY.out]; rfl, by rw [HR.out]; exact HI3.out, Keeps.of HB3.out _⟩
      · have HY : Hid ((0 = i → ca ≠ 1) ∧ (1 = i → cb ≠ 1)) := Lib.hid ⟨fun h => by have := hy1.out.2.2.1 (by omega) h; omega, fun h => by have := hy1.out.2.2.2 h; omega⟩
        have hrel2 : ∃ j : Nat, Value.int .i64 ((i : Int) + 1) = .int .i64 (j : Int) ∧ j ≤ 2 ∧ Hid (0 < j → ca ≠ 1) ∧ Hid (1 < j → cb ≠ 1) := ⟨i + 1, by push_cast; rfl, by have := HI2.out; omega, Lib.hid (fun _ => by
            by_cases h0 : 0 = i
            · exact HY.out.1 h0
            · exact HA.out (by omega)), Lib.hid (fun h => by
            by_cases h1 : 1 = i
            · exact HY.out.2 h1
            · exact HBc.out (by omega))⟩
        have HRel := Lib.hid hrel2
        by_cases hy0 : y = 0
        · have hn0 : (y != 0) = false := by rw [hy0]; rfl
          clear hyy hy0 hrel2 z0 z1
          go_wp2
          go_round
          case rel => exact HRel.out
          case measure => simp [intOf]; omega
        · have hn0 : (y != 0) = true := by simpa using hy0
          have hn6 : (y != 6) = false := by
            rcases hy1.out.1 with h | h | h
            · exact absurd h hy0
            · rw [h]; rfl
            · exact absurd h hyy
          clear hyy hy0 hrel2 z0 z1
          go_wp2
          go_round
          case rel => exact HRel.out
          case measure => simp [intOf]; omega
end Go.Proofs.YtmagggflamdahaaGreatDoor
