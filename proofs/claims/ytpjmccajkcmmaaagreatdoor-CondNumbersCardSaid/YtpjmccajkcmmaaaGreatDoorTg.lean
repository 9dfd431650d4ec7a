/- bobstayref03.Store: how it lies; At, Used, home. bobstayref03.Store: Used, home, note. bobstayref03.Store.set. bobstayref03.New, Store.Mkdir. bobstayref03.New of the worlds of law10. -/
import Derived.Test.YtpjmccajkcmmaaaGreatDoorTf
import Derived.Maps.AppendAt
import Derived.Test.YtpjmccajkcmmaaaGreatDoorTd
namespace Go.Proofs.YtpjmccajkcmmaaaGreatDoor
open Go.RowKit

structure RFile where
  path : ByteArray
  text : ByteArray
  time : Int
  dir : Bool
def RFile.cells (f : RFile) : List Value := [.string f.path, .string f.text, .int .i64 f.time, .bool f.dir]
def rcells (l : List RFile) : List Value := l.flatMap RFile.cells
theorem rcells_len (l : List RFile) : (rcells l).length = l.length * 4 := by
  induction l with
  | nil => rfl
  | cons f l ih => simp only [rcells, List.flatMap_cons, List.length_append, List.length_cons] at ih ⊢; rw [ih]; simp [RFile.cells]; omega
theorem rcells_get (l : List RFile) (i k : Nat) (f : RFile) (h : l[i]? = some f) (hk : k < 4) : (rcells l)[i * 4 + k]? = f.cells[k]? := by
  induction l generalizing i with
  | nil => simp at h
  | cons g l ih =>
    cases i with
    | zero =>
      simp at h
      subst h
      simp only [rcells, List.flatMap_cons]
      rw [List.getElem?_append_left (by simp [RFile.cells]; omega)]
      simp
    | succ i =>
      simp at h
      have := ih i h
      simp only [rcells, List.flatMap_cons] at this ⊢
      rw [List.getElem?_append_right (by simp [RFile.cells]; omega)]
      rw [← this]
      congr 1
      simp [RFile.cells]
      omega
theorem rcells_append (l m : List RFile) : rcells (l ++ m) = rcells l ++ rcells m := by simp [rcells]

/-- the document's store lies at rb; its list's row is the caller's own -/
structure RefAt (B rb : Nat) (l : List RFile) (w : World) : Prop where
  cells : ∃ room now lv, w.heap[rb]? = some (.cells #[.int .i64 room, .int .i64 now, lv, .bool false, .slice none 0 0] 61 (0, 0)) ∧ w.ownsRow B 92 4 lv l.length (rcells l)
  base : B ≤ rb
  few : l.length ≤ 512
  some : l ≠ []
theorem RefAt.keep {B rb : Nat} {l : List RFile} {w w' : World} (h : RefAt B rb l w) (hk : ∀ k, B ≤ k → k < w.heap.size → w'.heap[k]? = w.heap[k]?) : RefAt B rb l w' := by
  obtain ⟨room, now, lv, h1, h2⟩ := h.cells
  exact ⟨⟨room, now, lv, (hk rb h.base (Array.getElem?_eq_some_iff.1 h1).1).trans h1, ownsRow_heap h2 (fun k hkk => hk k (h2.lt k hkk).1 (h2.lt k hkk).2)⟩, h.base, h.few, h.some⟩
theorem RefAt.below {B rb : Nat} {l : List RFile} {w w' : World} (h : RefAt B rb l w) (hb : Below w.heap.size w w') : RefAt B rb l w' := h.keep (fun k _ hk => hb.block k hk)

/-- where a path stands in the list -/
def AtQ (l : List RFile) (p : ByteArray) (w : World) (e : Ending) (w' : World) : Prop := ∃ i : Int, e = .returned (.int .i64 i) ∧ ((i = -1 ∧ ∀ f ∈ l, f.path ≠ p) ∨ (∃ (j : Nat) (f : RFile), i = j ∧ l[j]? = some f ∧ f.path = p)) ∧ w = w'

set_option maxHeartbeats 2000000 in
set_option maxRecDepth 100000 in
theorem refAt_any {B rb : Nat} {l : List RFile} (p : ByteArray) (w : World) (h : RefAt B rb l w) : Calls Tryz.prog 34 #[.pointer (some ⟨rb, 0, none⟩), .string p] w (AtQ l p w) := by
  obtain ⟨room, now, lv, h1, h2⟩ := h.cells
  have hfew := h.few
  have c2 : w.cell? ⟨rb, 2, none⟩ = some lv := Lib.cell_of_heap h1 2
  have HX : Hid (∀ i f, l[i]? = some f → ∃ g cap, lv = .slice (some ⟨g, 0, none⟩) l.length cap ∧ w.cell? ⟨g, i * 4, none⟩ = some (.string f.path)) := Lib.hid (fun i f hx => by
    have hi : i < l.length := (List.getElem?_eq_some_iff.1 hx).1
    obtain ⟨g, cap, rfl, hg, hgl, hcap⟩ := ownsRow_ne0 h2 (by omega)
    refine ⟨g, cap, rfl, ?_⟩
    have := h2.cellAt (i * 4 + 0) (by omega)
    rw [rcells_get l i 0 f hx (by omega)] at this
    exact this)
  obtain ⟨a, cap, rfl⟩ := ownsRow_slice h2
  clear h h1 h2
  go_enter Tryz.func34, Tryz.ntmps34
  go_wp2
  go_loop [5] (fun v5 => ∃ i : Nat, v5 = .int .i64 i ∧ i ≤ l.length ∧ Hid (∀ (j : Nat) f, j < i → l[j]? = some f → f.path ≠ p)) (fun v5 => l.length + 1 - (intOf v5).toNat)
  case atStart => exact ⟨0, rfl, by omega, Lib.hid (fun j f h => by omega)⟩
  case round =>
    obtain ⟨i, rfl, hi, HN⟩ := hrel
    by_cases hlt : i < l.length
    · obtain ⟨f, hx⟩ : ∃ f, l[i]? = some f := ⟨l[i], List.getElem?_eq_getElem hlt⟩
      obtain ⟨g, cap', he, hc⟩ := HX.out i f hx
      simp only [Value.slice.injEq] at he
      obtain ⟨rfl, -, rfl⟩ := he
      have HF := Lib.hid hx
      clear hx
      cases hq : (f.path.toList == p.toList) with
      | true =>
        have hpe : f.path = p := by
          have := eq_of_beq hq
          rw [ByteArray.toList_eq, ByteArray.toList_eq] at this
          exact bs_ext this
        go_wp2
        go_ret
        exact ⟨_, rfl, .inr ⟨i, f, rfl, HF.out, hpe⟩, rfl⟩
      | false =>
        have hne : f.path ≠ p := by
          rintro rfl
          simp at hq
        go_wp2
        go_round
        case rel => exact ⟨i + 1, by go_num, by omega, Lib.hid (fun j f' hj hf' => by
          rcases Nat.lt_or_ge j i with h | h
          · exact HN.out j f' h hf'
          · obtain rfl : j = i := by omega
            rw [HF.out] at hf'
            injection hf' with hf'
            rw [← hf']
            exact hne)⟩
        case measure => simp [intOf]; omega
    · go_wp2
      go_ret
      refine ⟨_, rfl, .inl ⟨rfl, fun f hf => ?_⟩, rfl⟩
      obtain ⟨j, hj, he⟩ := List.getElem_of_mem hf
      exact HN.out j f (by omega) (by rw [List.getElem?_eq_getElem hj, he])
end Go.Proofs.YtpjmccajkcmmaaaGreatDoor

namespace Go.Proofs.YtpjmccajkcmmaaaGreatDoor
open Go.RowKit

/-- it ends with a number -/
def IntB (w : World) (e : Ending) (w' : World) : Prop := ∃ i : Int, e = .returned (.int .i64 i) ∧ Below w.heap.size w w'

set_option maxHeartbeats 2000000 in
set_option maxRecDepth 100000 in
theorem refUsed_any {B rb : Nat} {l : List RFile} (w : World) (h : RefAt B rb l w) : Calls Tryz.prog 35 #[.pointer (some ⟨rb, 0, none⟩)] w (IntB w) := by
  obtain ⟨room, now, lv, h1, h2⟩ := h.cells
  have hfew := h.few
  have c2 : w.cell? ⟨rb, 2, none⟩ = some lv := Lib.cell_of_heap h1 2
  have HX : Hid (∀ i f, l[i]? = some f → ∃ g cap, lv = .slice (some ⟨g, 0, none⟩) l.length cap ∧ w.cell? ⟨g, i * 4 + 1, none⟩ = some (.string f.text)) := Lib.hid (fun i f hx => by
    have hi : i < l.length := (List.getElem?_eq_some_iff.1 hx).1
    obtain ⟨g, cap, rfl, hg, hgl, hcap⟩ := ownsRow_ne0 h2 (by omega)
    refine ⟨g, cap, rfl, ?_⟩
    have := h2.cellAt (i * 4 + 1) (by omega)
    rw [rcells_get l i 1 f hx (by omega)] at this
    exact this)
  obtain ⟨a, cap, rfl⟩ := ownsRow_slice h2
  clear h h1 h2
  go_enter Tryz.func35, Tryz.ntmps35
  go_wp2
  go_loop [3, 4] (fun v3 v4 => ∃ (i : Nat) (n : Int), v3 = .int .i64 n ∧ v4 = .int .i64 i ∧ i ≤ l.length) (fun _ v4 => l.length + 1 - (intOf v4).toNat)
  case atStart => exact ⟨0, 0, rfl, rfl, by omega⟩
  case round =>
    obtain ⟨i, n, rfl, rfl, hi⟩ := hrel
    by_cases hlt : i < l.length
    · obtain ⟨f, hx⟩ : ∃ f, l[i]? = some f := ⟨l[i], List.getElem?_eq_getElem hlt⟩
      obtain ⟨g, cap', he, hc⟩ := HX.out i f hx
      simp only [Value.slice.injEq] at he
      obtain ⟨rfl, -, rfl⟩ := he
      clear hx
      go_wp2
      go_round
      case rel => exact ⟨i + 1, _, rfl, by go_num, by omega⟩
      case measure => simp [intOf]; omega
    · go_wp2
      go_ret
      exact ⟨_, rfl, Below.refl _ _⟩

set_option maxHeartbeats 2000000 in
set_option maxRecDepth 100000 in
theorem refHome_any {B rb : Nat} {l : List RFile} (p : ByteArray) (hp : p.size ≤ 1073741824) (w : World) (h : RefAt B rb l w) : Calls Tryz.prog 33 #[.pointer (some ⟨rb, 0, none⟩), .string p] w (IntB w) := by
  have HD := Lib.hid (refDir_any p (by omega) w)
  have HR := Lib.hid h
  clear h
  go_enter Tryz.func33, Tryz.ntmps33
  go_wp2_with fail
  go_at_call 50
  refine HD.out.mono ?_
  rintro e w1 ⟨t, rfl, ht, hb⟩
  have h1 := HR.out.below hb
  have HA := Lib.hid (refAt_any t w1 h1)
  obtain ⟨room, now, lv, g1, g2⟩ := h1.cells
  have hfew := h1.few
  have c2 : w1.cell? ⟨rb, 2, none⟩ = some lv := Lib.cell_of_heap g1 2
  have HX : Hid (∀ i f, l[i]? = some f → ∃ g cap, lv = .slice (some ⟨g, 0, none⟩) l.length cap ∧ w1.cell? ⟨g, i * 4 + 3, none⟩ = some (.bool f.dir)) := Lib.hid (fun i f hx => by
    have hi : i < l.length := (List.getElem?_eq_some_iff.1 hx).1
    obtain ⟨g, cap, rfl, hg, hgl, hcap⟩ := ownsRow_ne0 g2 (by omega)
    refine ⟨g, cap, rfl, ?_⟩
    have := g2.cellAt (i * 4 + 3) (by omega)
    rw [rcells_get l i 3 f hx (by omega)] at this
    exact this)
  obtain ⟨a, cap, rfl⟩ := ownsRow_slice g2
  have HB := Lib.hid hb
  clear h1 g1 g2 hb
  go_wp2_with fail
  go_at_call 34
  refine HA.out.mono ?_
  rintro e w2 ⟨i, rfl, hi, rfl⟩
  rcases hi with ⟨rfl, -⟩ | ⟨j, f, rfl, hj, -⟩
  · go_wp2
    go_ret
    exact ⟨_, rfl, HB.out⟩
  · obtain ⟨g, cap', he, hc⟩ := HX.out j f hj
    have hjl : j < l.length := (List.getElem?_eq_some_iff.1 hj).1
    simp only [Value.slice.injEq] at he
    obtain ⟨rfl, -, rfl⟩ := he
    clear hj
    cases hd : f.dir with
    | true =>
      rw [hd] at hc
      go_wp2
      go_ret
      exact ⟨_, rfl, HB.out⟩
    | false =>
      rw [hd] at hc
      go_wp2
      go_ret
      exact ⟨_, rfl, HB.out⟩

set_option maxHeartbeats 2000000 in
set_option maxRecDepth 100000 in
theorem refNote_any {B rb : Nat} {l : List RFile} (k : Int) (p : ByteArray) (w : World) (h : RefAt B rb l w) : Calls Tryz.prog 37 #[.pointer (some ⟨rb, 0, none⟩), .int .i64 k, .string p] w fun e w' => e = .returned (.tuple #[]) ∧ w = w' := by
  obtain ⟨room, now, lv, h1, h2⟩ := h.cells
  have c3 : w.cell? ⟨rb, 3, none⟩ = some (.bool false) := Lib.cell_of_heap h1 3
  clear h h1 h2
  go_enter Tryz.func37, Tryz.ntmps37
  go_wp2
  go_end0
  exact ⟨rfl, rfl⟩
end Go.Proofs.YtpjmccajkcmmaaaGreatDoor

namespace Go.Proofs.YtpjmccajkcmmaaaGreatDoor
open Go.RowKit

theorem fileInfo : (Tryz.prog.info? 92).map (fun i => (i.zero, i.size, i.bytes)) = some (some (.agg #[.string ⟨#[]⟩, .string ⟨#[]⟩, .int .i64 0, .bool false]), 4, 48) := by kernel_rfl

theorem rcells_set (l : List RFile) (j : Nat) (f : RFile) (h : j < l.length) : ((((rcells l).set (j * 4) (.string f.path)).set (j * 4 + 1) (.string f.text)).set (j * 4 + 2) (.int .i64 f.time)).set (j * 4 + 3) (.bool f.dir) = rcells (l.set j f) := by
  induction l generalizing j with
  | nil => simp at h
  | cons g l ih =>
    cases j with
    | zero => simp [rcells, RFile.cells]
    | succ j =>
      have := ih j (by simpa using h)
      have h4 : (j + 1) * 4 = j * 4 + 4 := by omega
      rw [h4]
      simp only [rcells, List.flatMap_cons, RFile.cells, List.set_cons_succ, List.cons_append, List.nil_append] at this ⊢
      rw [this]

set_option maxHeartbeats 8000000 in
set_option maxRecDepth 100000 in
theorem refSet_any {B rb : Nat} {l : List RFile} (f : RFile) (w : World) (hB : B ≤ w.heap.size) (h : RefAt B rb l w) (hroom : l.length < 512 ∨ ∃ f' ∈ l, f'.path = f.path) :
    Calls Tryz.prog 36 #[.pointer (some ⟨rb, 0, none⟩), .agg #[.string f.path, .string f.text, .int .i64 f.time, .bool f.dir]] w fun e w' => e = .returned (.tuple #[]) ∧ (∃ l', RefAt B rb l' w') ∧ Below B w w' := by
  obtain ⟨i0, hi0, hz0, hz1, hz2⟩ := info_parts fileInfo
  obtain ⟨fp, ft, fm, fd⟩ := f
  simp only at hroom ⊢
  obtain ⟨room, now, lv, h1, h2⟩ := h.cells
  have hrl : rb < w.heap.size := (Array.getElem?_eq_some_iff.1 h1).1
  have hbase := h.base
  have hfew := h.few
  have hsome := h.some
  have hne : l.length ≠ 0 := fun e => hsome (List.eq_nil_of_length_eq_zero e)
  obtain ⟨g, cap, rfl, hg, hgl, hcap⟩ := ownsRow_ne0 h2 hne
  have hgr : g ≠ rb := by
    rintro rfl
    rcases h2.2 with ⟨h', _⟩ | ⟨g', cap', cur, h', _, hg', _⟩
    · simp at h'
    · simp only [Value.slice.injEq, Option.some.injEq, Addr.mk.injEq] at h'
      obtain ⟨⟨rfl, -⟩, -⟩ := h'
      rw [h1] at hg'
      simp only [Option.some.injEq, Obj.cells.injEq] at hg'
      exact absurd hg'.2.1 (by decide)
  obtain ⟨nw, hnw⟩ : ∃ nw : Int, wrap64 (now + 1) = nw := ⟨_, rfl⟩
  have HS := Lib.hid ((by simpa using heap_set h1 1 (.int .i64 nw)) : (w.setCell ⟨rb, 1, none⟩ (.int .i64 nw)).heap[rb]? = some (.cells #[.int .i64 room, .int .i64 nw, .slice (some ⟨g, 0, none⟩) l.length cap, .bool false, .slice none 0 0] 61 (0, 0)))
  have hzS : (w.setCell ⟨rb, 1, none⟩ (.int .i64 nw)).heap.size = w.heap.size := by simp [World.setCell]
  have hAx : ∀ o k, k < w.heap.size → ((w.setCell ⟨rb, 1, none⟩ (.int .i64 nw)).alloc o).heap[k]? = (w.setCell ⟨rb, 1, none⟩ (.int .i64 nw)).heap[k]? := fun o k hk => Below.heap_alloc _ o k (by omega)
  have b1 : ∀ o, ((w.setCell ⟨rb, 1, none⟩ (.int .i64 nw)).alloc o).cell? ⟨rb, 1, none⟩ = some (.int .i64 nw) := fun o => Lib.cell_of_heap ((hAx o rb hrl).trans HS.out) 1
  have b2 : ∀ o, ((w.setCell ⟨rb, 1, none⟩ (.int .i64 nw)).alloc o).cell? ⟨rb, 2, none⟩ = some (.slice (some ⟨g, 0, none⟩) l.length cap) := fun o => Lib.cell_of_heap ((hAx o rb hrl).trans HS.out) 2
  have hrowA : ((w.setCell ⟨rb, 1, none⟩ (.int .i64 nw)).alloc (.cells #[.string fp, .string ft, .int .i64 nw, .bool fd] 92)).ownsRow B 92 4 (.slice (some ⟨g, 0, none⟩) l.length cap) l.length (rcells l) := ownsRow_heap h2 (fun k hk => by
    simp only [Value.ownBlock, Option.some.injEq] at hk
    subst hk
    exact (hAx _ g hgl).trans (Below.heap_setCell w ⟨rb, 1, none⟩ _ g hgr))
  have hA : RefAt B rb l ((w.setCell ⟨rb, 1, none⟩ (.int .i64 nw)).alloc (.cells #[.string fp, .string ft, .int .i64 nw, .bool fd] 92)) := ⟨⟨room, nw, _, (hAx _ rb hrl).trans HS.out, hrowA⟩, hbase, hfew, hsome⟩
  have hBA : Below B w ((w.setCell ⟨rb, 1, none⟩ (.int .i64 nw)).alloc (.cells #[.string fp, .string ft, .int .i64 nw, .bool fd] 92)) := ((Below.refl B w).setCell (show B ≤ (⟨rb, 1, none⟩ : Addr).block from hbase) _).alloc (by omega) _
  have a1 : (w.alloc (.cells #[.string fp, .string ft, .int .i64 fm, .bool fd] 92)).cell? ⟨rb, 1, none⟩ = some (.int .i64 now) := (World.cell?_of_block (w := w) (Below.heap_alloc w _ rb hrl)).trans (Lib.cell_of_heap h1 1)
  have af : (w.alloc (.cells #[.string fp, .string ft, .int .i64 fm, .bool fd] 92)).frozen? ⟨rb, 1, none⟩ = false := (World.frozen?_of_block (w := w) (Below.heap_alloc w _ rb hrl)).trans (Lib.frozen_of_heap h1 1)
  go_enter Tryz.func36, Tryz.ntmps36
  have hbx : ((w.setCell ⟨rb, 1, none⟩ (.int .i64 nw)).alloc (.cells #[.string fp, .string ft, .int .i64 nw, .bool fd] 92)).heap[w.heap.size]? = some (.cells #[.string fp, .string ft, .int .i64 nw, .bool fd] 92 (0, 0)) := by
    rw [← hzS]
    exact heap_alloc_new _ _
  obtain ⟨wA, hwA⟩ : ∃ wA, wA = (w.setCell ⟨rb, 1, none⟩ (.int .i64 nw)).alloc (.cells #[.string fp, .string ft, .int .i64 nw, .bool fd] 92) := ⟨_, rfl⟩
  have hzA : wA.heap.size = w.heap.size + 1 := by rw [hwA]; simp
  have HA : Hid (RefAt B rb l wA) := Lib.hid (by rw [hwA]; exact hA)
  have HrowA : Hid (wA.ownsRow B 92 4 (.slice (some ⟨g, 0, none⟩) l.length cap) l.length (rcells l)) := Lib.hid (by rw [hwA]; exact hrowA)
  have Hbx : Hid (wA.heap[w.heap.size]? = some (.cells #[.string fp, .string ft, .int .i64 nw, .bool fd] 92 (0, 0))) := Lib.hid (by rw [hwA]; exact hbx)
  have HBA : Hid (Below B w wA) := Lib.hid (by rw [hwA]; exact hBA)
  clear hA hrowA hbx hBA hAx HS h1 h2 h
  go_wp2_with (at_builtin; refine wpList_append_own _ rfl _ _ 58 rfl (w.heap.size + 1) 92 i0 _ 4 48 Tryz.underlying58 hi0 hz0 hz1 hz2 rfl (by decide) (.slice none 0 0) 0 [] rfl ⟨rfl, .inl ⟨rfl, rfl⟩⟩ ⟨g, 0, none⟩ l.length cap (rcells l) rfl ?c0 ?c1 ?c2 ?c3 ?c4 ?c5 ?_)
  case c0 => exact rcells_len l
  case c1 =>
    intro j u hj
    have hj2 : j < l.length * 4 := by rw [← rcells_len]; exact (List.getElem?_eq_some_iff.1 hj).1
    have ha : (⟨g, 0, none⟩ : Addr).add j = ⟨g, j, none⟩ := by unfold Addr.add; split <;> simp_all
    rw [ha, ← hwA, HrowA.out.cellAt j hj2, hj]
  case c2 =>
    intro u hu
    obtain ⟨f, -, hu⟩ := List.mem_flatMap.1 hu
    simp only [RFile.cells, List.mem_cons, List.not_mem_nil, or_false] at hu
    rcases hu with rfl | rfl | rfl | rfl <;> rfl
  case c3 => unfold maxLen; omega
  case c4 => omega
  case c5 => rw [← hwA]; omega
  intro v' w3 hown' hgrow _
  rw [← hwA] at hgrow
  have hown3 : w3.ownsRow (w.heap.size + 1) 92 4 v' l.length (rcells l) := by simpa using hown'
  have hR3 : RefAt B rb l w3 := HA.out.keep (fun k _ hk => hgrow.block k hk (by simp [Value.ownBlock]))
  have hx3 : w3.heap[w.heap.size]? = _ := (hgrow.block _ (by omega) (by simp [Value.ownBlock])).trans Hbx.out
  have hB3 : Below B w w3 := HBA.out.grown hgrow (by omega) (fun k hk => by simp [Value.ownBlock] at hk)
  have HAt := Lib.hid (refAt_any fp w3 hR3)
  have e0 : w3.cell? ⟨w.heap.size, 0, none⟩ = some (.string fp) := Lib.cell_of_heap hx3 0
  have e1 : w3.cell? ⟨w.heap.size, 1, none⟩ = some (.string ft) := Lib.cell_of_heap hx3 1
  have e2 : w3.cell? ⟨w.heap.size, 2, none⟩ = some (.int .i64 nw) := Lib.cell_of_heap hx3 2
  have e3 : w3.cell? ⟨w.heap.size, 3, none⟩ = some (.bool fd) := Lib.cell_of_heap hx3 3
  have hsz3 : w.heap.size + 1 ≤ w3.heap.size := by have := hgrow.size; omega
  have HO3 := Lib.hid hown3
  have HR3 := Lib.hid hR3
  have HB3 := Lib.hid hB3
  clear hown' hgrow hown3 hR3 hx3 hB3 b1 b2 a1 af HA HrowA Hbx HBA hwA
  go_wp2_with fail
  go_at_call 34
  refine HAt.out.mono ?_
  rintro e w4 ⟨i, rfl, hi, rfl⟩
  rcases hi with ⟨rfl, hno⟩ | ⟨j, f', rfl, hj, -⟩
  · have hlt512 : l.length < 512 := by
      rcases hroom with h | ⟨f', h1, h2⟩
      · exact h
      · exact absurd h2 (hno f' h1)
    go_wp2_with (at_builtin; refine wpList_append_own _ rfl _ _ 58 rfl (w.heap.size + 1) 92 i0 _ 4 48 Tryz.underlying58 hi0 hz0 hz1 hz2 rfl (by decide) _ _ _ rfl (HO3.out.alloc _) ⟨w3.heap.size, 0, none⟩ 1 1 [.string fp, .string ft, .int .i64 nw, .bool fd] rfl rfl ?c1 ?c2 ?c3 ?c4 ?c5 ?_)
    case c1 =>
      intro j y hj
      match j, hj with
      | 0, hj => simp at hj; subst hj; simp [Addr.add]
      | 1, hj => simp at hj; subst hj; simp [Addr.add]
      | 2, hj => simp at hj; subst hj; simp [Addr.add]
      | 3, hj => simp at hj; subst hj; simp [Addr.add]
    case c2 =>
      intro y hy
      simp only [List.mem_cons, List.not_mem_nil, or_false] at hy
      rcases hy with rfl | rfl | rfl | rfl <;> rfl
    case c3 => unfold maxLen; omega
    case c4 => omega
    case c5 => simp; omega
    intro v2 w5 hown5 hgrow5 _
    obtain ⟨a2, c2, rfl⟩ := ownsRow_slice hown5
    have hb5 : Below B w w5 := (HB3.out.alloc (by omega) (.cells #[.string fp, .string ft, .int .i64 nw, .bool fd] 92)).grown hgrow5 (by simp; omega) (fun k hk => by have := (HO3.out.lt k hk).1; omega)
    have hrb5 : w5.heap[rb]? = w3.heap[rb]? := (hgrow5.block rb (by simp; omega) (fun e => by have := (HO3.out.lt rb e.symm).1; omega)).trans (Below.heap_alloc w3 _ rb (by omega))
    obtain ⟨room3, now3, lv3, q1, q2⟩ := HR3.out.cells
    have q3 := hrb5.trans q1
    have d2 : w5.cell? ⟨rb, 2, none⟩ = some lv3 := Lib.cell_of_heap q3 2
    have df : w5.frozen? ⟨rb, 2, none⟩ = false := Lib.frozen_of_heap q3 2
    have HF : Hid (RefAt B rb (l ++ [⟨fp, ft, nw, fd⟩]) (w5.setCell ⟨rb, 2, none⟩ (.slice a2 (l.length + 1) c2)) ∧ Below B w (w5.setCell ⟨rb, 2, none⟩ (.slice a2 (l.length + 1) c2))) := Lib.hid (by
      refine ⟨⟨⟨room3, now3, .slice a2 (l.length + 1) c2, by simpa using heap_set q3 2 (.slice a2 (l.length + 1) c2), ?_⟩, hbase, by simp; omega, by simp⟩, hb5.setCell (show B ≤ (⟨rb, 2, none⟩ : Addr).block from hbase) _⟩
      rw [rcells_append, List.length_append]
      refine ownsRow_base (ownsRow_heap (show w5.ownsRow (w.heap.size + 1) _ 4 (.slice a2 (l.length + 1) c2) (l.length + 1) (rcells l ++ [.string fp, .string ft, .int .i64 nw, .bool fd]) from hown5) (fun k hk => Below.heap_setCell w5 ⟨rb, 2, none⟩ _ k ?_)) (by omega)
      have := (hown5.lt k hk).1
      show k ≠ rb
      omega)
    clear hown5 hgrow5 hb5 hrb5 q1 q2 q3 e0 e1 e2 e3
    go_wp2
    go_end0
    exact ⟨rfl, ⟨_, HF.out.1⟩, HF.out.2⟩
  · have hjl : j < l.length := (List.getElem?_eq_some_iff.1 hj).1
    obtain ⟨g3, cap3, rfl, hg3, hgl3, hcap3⟩ := ownsRow_ne0 HO3.out hne
    have O0 := HO3.out
    have O1 := O0.stored (j * 4) (.string fp)
    have O2 := O1.1.stored (j * 4 + 1) (.string ft)
    have O3 := O2.1.stored (j * 4 + 2) (.int .i64 nw)
    have O4 := O3.1.stored (j * 4 + 3) (.bool fd)
    have hln := rcells_len l
    have hcell : ∀ {W : World} {xs : List Value}, W.ownsRow (w.heap.size + 1) 92 4 (.slice (some ⟨g3, 0, none⟩) l.length cap3) l.length xs → ∀ k, k < 4 → ∃ u, W.cell? ⟨g3, j * 4 + k, none⟩ = some u := by
      intro W xs ho k hk
      rw [ho.cellAt (j * 4 + k) (by omega)]
      exact ⟨_, List.getElem?_eq_getElem (by rw [ho.1]; omega)⟩
    obtain ⟨x0, y0⟩ := hcell O0 0 (by omega)
    obtain ⟨x1, y1⟩ := hcell O1.1 1 (by omega)
    obtain ⟨x2, y2⟩ := hcell O2.1 2 (by omega)
    obtain ⟨x3, y3⟩ := hcell O3.1 3 (by omega)
    have z0 := O0.frozenAt (j * 4)
    have z1 := O1.1.frozenAt (j * 4 + 1)
    have z2 := O2.1.frozenAt (j * 4 + 2)
    have z3 := O3.1.frozenAt (j * 4 + 3)
    rw [Nat.add_zero] at y0
    obtain ⟨w5, hw5⟩ : ∃ w5, w5 = ((((w3.setCell ⟨g3, j * 4, none⟩ (.string fp)).setCell ⟨g3, j * 4 + 1, none⟩ (.string ft)).setCell ⟨g3, j * 4 + 2, none⟩ (.int .i64 nw)).setCell ⟨g3, j * 4 + 3, none⟩ (.bool fd)) := ⟨_, rfl⟩
    have hown5 : w5.ownsRow (w.heap.size + 1) 92 4 (.slice (some ⟨g3, 0, none⟩) l.length cap3) l.length (rcells (l.set j ⟨fp, ft, nw, fd⟩)) := by
      rw [hw5, ← rcells_set l j ⟨fp, ft, nw, fd⟩ hjl]
      exact O4.1
    have hk5 : ∀ k, k ≠ g3 → w5.heap[k]? = w3.heap[k]? := fun k hk => by
      rw [hw5, Below.heap_setCell _ ⟨g3, j * 4 + 3, none⟩ _ k hk, Below.heap_setCell _ ⟨g3, j * 4 + 2, none⟩ _ k hk, Below.heap_setCell _ ⟨g3, j * 4 + 1, none⟩ _ k hk, Below.heap_setCell _ ⟨g3, j * 4, none⟩ _ k hk]
    have hb5 : Below B w w5 := by
      rw [hw5]
      exact (((HB3.out.setCell (show B ≤ (⟨g3, j * 4, none⟩ : Addr).block by show B ≤ g3; omega) _).setCell (show B ≤ (⟨g3, j * 4 + 1, none⟩ : Addr).block by show B ≤ g3; omega) _).setCell (show B ≤ (⟨g3, j * 4 + 2, none⟩ : Addr).block by show B ≤ g3; omega) _).setCell (show B ≤ (⟨g3, j * 4 + 3, none⟩ : Addr).block by show B ≤ g3; omega) _
    obtain ⟨room3, now3, lv3, q1, q2⟩ := HR3.out.cells
    have q3 := (hk5 rb (by omega)).trans q1
    have d2 : w5.cell? ⟨rb, 2, none⟩ = some lv3 := Lib.cell_of_heap q3 2
    have df : w5.frozen? ⟨rb, 2, none⟩ = false := Lib.frozen_of_heap q3 2
    have HF : Hid (RefAt B rb (l.set j ⟨fp, ft, nw, fd⟩) (w5.setCell ⟨rb, 2, none⟩ (.slice (some ⟨g3, 0, none⟩) l.length cap3)) ∧ Below B w (w5.setCell ⟨rb, 2, none⟩ (.slice (some ⟨g3, 0, none⟩) l.length cap3))) := Lib.hid (by
      refine ⟨⟨⟨room3, now3, .slice (some ⟨g3, 0, none⟩) l.length cap3, by simpa using heap_set q3 2 (.slice (some ⟨g3, 0, none⟩) l.length cap3), ?_⟩, hbase, by simp; omega, by simpa using hsome⟩, hb5.setCell (show B ≤ (⟨rb, 2, none⟩ : Addr).block from hbase) _⟩
      rw [List.length_set]
      refine ownsRow_base (ownsRow_heap hown5 (fun k hk => Below.heap_setCell w5 ⟨rb, 2, none⟩ _ k ?_)) (by omega)
      have := (hown5.lt k hk).1
      show k ≠ rb
      omega)
    rw [hw5] at d2 df HF
    clear hown5 hk5 hb5 q1 q2 q3 O0 O1 O2 O3 O4 hcell hln hj hw5
    go_wp2
    go_end0
    exact ⟨rfl, ⟨_, HF.out.1⟩, HF.out.2⟩
end Go.Proofs.YtpjmccajkcmmaaaGreatDoor

namespace Go.Proofs.YtpjmccajkcmmaaaGreatDoor
open Go.RowKit

/-- the document's store is as one may be, and a number comes back -/
def RefQ (B rb : Nat) (w : World) (e : Ending) (w' : World) : Prop := (∃ n : Int, e = .returned (.int .i64 n)) ∧ (∃ l, RefAt B rb l w') ∧ Below B w w'

theorem results_ref {fn : Func} {p v : Tmp} (h : fn.results = #[.cell p 61, .tmp v]) (tmps : Array Value) (w : World) (g : Nat) (a b c d e : Value)
    (hp : tmps.getD p undef = .pointer (some ⟨g, 0, none⟩)) (hg : w.heap[g]? = some (.cells #[a, b, c, d, e] 61 (0, 0))) :
    (results fn tmps).run Tryz.prog w = .ok (.tuple #[.agg #[a, b, c, d, e], tmps.getD v undef]) w := by
  have hp' : tmps[p]?.getD undef = .pointer (some ⟨g, 0, none⟩) := by simpa using hp
  have hl := run_loadVar_row (P := Tryz.prog) w g 61 61 #[a, b, c, d, e] (0, 0) _ hg Tryz.underlying61 rfl (by kernel_rfl)
  simp [results, h, hp', asAddr, hl]

set_option maxHeartbeats 4000000 in
set_option maxRecDepth 100000 in
theorem refNew_any (w : World) :
    Calls Tryz.prog 14 #[.int .i64 5000] w fun e w' => ∃ lv, e = .returned (.tuple #[.agg #[.int .i64 5000, .int .i64 0, lv, .bool false, .slice none 0 0], .int .i64 0]) ∧ w'.ownsRow w.heap.size 92 4 lv 1 (rcells [⟨⟨#[47]⟩, ⟨#[]⟩, 0, true⟩]) ∧ Below w.heap.size w w' := by
  go_enter Tryz.func14, Tryz.ntmps14
  go_wp2
  refine bodyPost_ret (results_ref rfl _ _ w.heap.size (.int .i64 5000) (.int .i64 0) (.slice (some ⟨w.heap.size + 1, 0, none⟩) 1 1) (.bool false) (.slice none 0 0) rfl ?_) rfl ?_
  · exact (Below.heap_alloc _ _ _ (by simp)).trans (heap_alloc_new w _)
  · refine ⟨_, rfl, ownsRow_base (B := (w.alloc (.cells #[.int .i64 5000, .int .i64 0, .slice (some ⟨w.heap.size + 1, 0, none⟩) 1 1, .bool false, .slice none 0 0] 61)).heap.size) ?_ (by simp), ((Below.refl _ _).alloc (Nat.le_refl _) _).alloc (by simp) _⟩
    have := World.ownsRow_lit (base := (w.alloc (.cells #[.int .i64 5000, .int .i64 0, .slice (some ⟨w.heap.size + 1, 0, none⟩) 1 1, .bool false, .slice none 0 0] 61)).heap.size) (e := 92) (size := 4) (w.alloc (.cells #[.int .i64 5000, .int .i64 0, .slice (some ⟨w.heap.size + 1, 0, none⟩) 1 1, .bool false, .slice none 0 0] 61)) #[.string ⟨#[47]⟩, .string ⟨#[]⟩, .int .i64 0, .bool true] 1 (Nat.le_refl _) (by unfold maxLen; omega) rfl
    simpa [rcells, RFile.cells] using this
end Go.Proofs.YtpjmccajkcmmaaaGreatDoor

namespace Go.Proofs.YtpjmccajkcmmaaaGreatDoor
open Go.RowKit

set_option maxHeartbeats 4000000 in
set_option maxRecDepth 100000 in
theorem refNewM_any (w : World) :
    Calls Tryz.prog 14 #[.int .i64 1000] w fun e w' => ∃ lv, e = .returned (.tuple #[.agg #[.int .i64 1000, .int .i64 0, lv, .bool false, .slice none 0 0], .int .i64 0]) ∧ w'.ownsRow w.heap.size 92 4 lv 1 (rcells [⟨⟨#[47]⟩, ⟨#[]⟩, 0, true⟩]) ∧ Below w.heap.size w w' := by
  go_enter Tryz.func14, Tryz.ntmps14
  go_wp2
  refine bodyPost_ret (results_ref rfl _ _ w.heap.size (.int .i64 1000) (.int .i64 0) (.slice (some ⟨w.heap.size + 1, 0, none⟩) 1 1) (.bool false) (.slice none 0 0) rfl ?_) rfl ?_
  · exact (Below.heap_alloc _ _ _ (by simp)).trans (heap_alloc_new w _)
  · refine ⟨_, rfl, ownsRow_base (B := (w.alloc (.cells #[.int .i64 1000, .int .i64 0, .slice (some ⟨w.heap.size + 1, 0, none⟩) 1 1, .bool false, .slice none 0 0] 61)).heap.size) ?_ (by simp), ((Below.refl _ _).alloc (Nat.le_refl _) _).alloc (by simp) _⟩
    have := World.ownsRow_lit (base := (w.alloc (.cells #[.int .i64 1000, .int .i64 0, .slice (some ⟨w.heap.size + 1, 0, none⟩) 1 1, .bool false, .slice none 0 0] 61)).heap.size) (e := 92) (size := 4) (w.alloc (.cells #[.int .i64 1000, .int .i64 0, .slice (some ⟨w.heap.size + 1, 0, none⟩) 1 1, .bool false, .slice none 0 0] 61)) #[.string ⟨#[47]⟩, .string ⟨#[]⟩, .int .i64 0, .bool true] 1 (Nat.le_refl _) (by unfold maxLen; omega) rfl
    simpa [rcells, RFile.cells] using this
end Go.Proofs.YtpjmccajkcmmaaaGreatDoor
