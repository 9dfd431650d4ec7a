/- vfs.Store: Write. vfs.Store: Write, Append. vfs.Store: Touch, Stat, Clock, New. -/
import Derived.Test.YtmagggflamdahaaGreatDoorSf
namespace Go.Proofs.YtmagggflamdahaaGreatDoor
open Go.RowKit

/-- what Write does where something may lie: fresh: nothing lies there yet; ft: the text that lay there -/
def writeAt (st : PStore) (q ft : List UInt8) (fresh : Bool) (text : List UInt8) : PStore × Int :=
  if homeS st q ≠ 0 then (st, homeS st q)
  else if 65536 < text.length then (st, 5)
  else if st.room + ft.length < st.used + text.length ∨ (fresh = true ∧ 512 ≤ st.files.length) then (st, 9)
  else (st.put q ⟨text, 0, false⟩, 0)
def writeF (st : PStore) (p text : List UInt8) : PStore × Int := match found st p with
  | .not e => (st, e)
  | .nothing q => writeAt st q [] true text
  | .file q f => if f.dir then (st, 8) else writeAt st q f.text false text

set_option maxHeartbeats 4000000 in
set_option maxRecDepth 100000 in
theorem write_fresh (pb mb : Nat) (st : PStore) (q ft : List UInt8) (fm : Int) (s s2 : ByteArray) (hs2 : s2.size ≤ 140737488351232) (hq : q.length ≤ 4194304) (w : World) (h : IsStore pb mb st w) (hft : ft.length ≤ st.used) (hold : oldT q st.files = ft.length)
    (hF : Calls Tryz.prog 34 #[.pointer (some ⟨pb, 0, none⟩), .string s] w fun e w' => e = .returned (.tuple #[.string ⟨q.toArray⟩, .agg #[.string ⟨ft.toArray⟩, .int .i64 fm, .bool false], .int .i64 6]) ∧ Below w.heap.size w w') :
    Calls Tryz.prog 32 #[.pointer (some ⟨pb, 0, none⟩), .string s, .string s2] w fun e w' => e = .returned (.int .i64 (writeAt st q ft true s2.data.toList).2) ∧ IsStore pb mb (writeAt st q ft true s2.data.toList).1 w' ∧ Keeps w.heap.size (fun k => k = pb ∨ k = mb) w w' := by
  have HF := Lib.hid hF
  have H := Lib.hid h
  have hR : Hid (writeAt st q ft true s2.data.toList = if homeS st q ≠ 0 then (st, homeS st q) else if 65536 < s2.data.toList.length then (st, 5) else if st.room + ft.length < st.used + s2.data.toList.length ∨ (true = true ∧ 512 ≤ st.files.length) then (st, 9) else (st.put q ⟨s2.data.toList, 0, false⟩, 0)) := Lib.hid rfl
  have HH : Hid (∀ w, IsStore pb mb st w → Calls Tryz.prog 49 #[.pointer (some ⟨pb, 0, none⟩), .string ⟨q.toArray⟩] w fun e w' => e = .returned (.int .i64 (homeS st q)) ∧ Below w.heap.size w w') := Lib.hid (fun w h => home_any pb mb st q hq w h)
  have hh := homeS_is st q
  have hsl : Hid (s2.data.toList.length = s2.size) := Lib.hid (by simp)
  have hub := h.wf.used
  have hrb := h.wf.room
  rw [hsl.out] at hR
  have HO := Lib.hid hold
  
  clear h hF hold
  generalize writeAt st q ft true s2.data.toList = r at hR ⊢
  generalize homeS st q = hm at HH hh hR
  have hw1 : IntKind.i64.wrap ((st.used : Int) - (ft.length : Int)) = (st.used : Int) - (ft.length : Int) := by rw [IntKind.wrap_i64]; omega
  have hw2 : IntKind.i64.wrap ((st.room : Int) - (s2.size : Int)) = (st.room : Int) - (s2.size : Int) := by rw [IntKind.wrap_i64]; omega
  by_cases h0 : hm = 0
  · subst h0
    rw [if_neg (by simp)] at hR
    by_cases hbig : 65536 < s2.size
    · obtain rfl : r = (st, 5) := by rw [hR.out, if_pos hbig]
      have hbi : (65536 : Int) < (s2.size : Int) := by omega
      clear hR hh
      go_enter Tryz.func32, Tryz.ntmps32
      go_wp2_with fail
      go_at_call 34
      refine HF.out.mono ?_
      rintro e w1 ⟨rfl, hb1⟩
      have hbox := heap_alloc_new w1 (.cells #[.string ⟨ft.toArray⟩, .int .i64 fm, .bool false] 84)
      obtain ⟨x0, x1, x2, _, _, _⟩ := cells3 hbox
      have hb2 := hb1.alloc hb1.size (.cells #[.string ⟨ft.toArray⟩, .int .i64 fm, .bool false] 84)
      have HBox := Lib.hid hbox
      have HI := Lib.hid (H.out.below hb2)
      have HB1 := Lib.hid hb2
      clear hb1 hb2 hbox
      go_wp2_with fail
      go_at_call 49
      refine (HH.out _ HI.out).mono ?_
      rintro e w2 ⟨rfl, hb2⟩
      have hbox2 := (hb2.block w1.heap.size (by simp)).trans HBox.out
      obtain ⟨z0, z1, z2, _, _, _⟩ := cells3 hbox2
      have HI2 := Lib.hid (HI.out.below hb2)
      have HB2 := Lib.hid (HB1.out.trans (hb2.mono HB1.out.size))
      have c0 : w2.cell? ⟨pb, 0, none⟩ = some (.int .i64 st.room) := Lib.cell_of_heap HI2.out.cells 0
      have c1 : w2.cell? ⟨pb, 1, none⟩ = some (.int .i64 st.used) := Lib.cell_of_heap HI2.out.cells 1
      have c3 : w2.cell? ⟨pb, 3, none⟩ = some (.map (some mb)) := Lib.cell_of_heap HI2.out.cells 3
      clear hb2 hbox2 x0 x1 x2
      go_wp2
      go_ret
      exact ⟨rfl, HI2.out, Keeps.of HB2.out _⟩
    · rw [if_neg hbig] at hR
      have hbi : decide ((65536 : Int) < (s2.size : Int)) = false := decide_eq_false (by omega)
      by_cases hfull : st.room + ft.length < st.used + s2.size
      · obtain rfl : r = (st, 9) := by rw [hR.out, if_pos (.inl hfull)]
        have hfi : (st.room : Int) - (s2.size : Int) < (st.used : Int) - (ft.length : Int) := by omega
        clear hR hh
        go_enter Tryz.func32, Tryz.ntmps32
        go_wp2_with fail
        go_at_call 34
        refine HF.out.mono ?_
        rintro e w1 ⟨rfl, hb1⟩
        have hbox := heap_alloc_new w1 (.cells #[.string ⟨ft.toArray⟩, .int .i64 fm, .bool false] 84)
        obtain ⟨x0, x1, x2, _, _, _⟩ := cells3 hbox
        have hb2 := hb1.alloc hb1.size (.cells #[.string ⟨ft.toArray⟩, .int .i64 fm, .bool false] 84)
        have HBox := Lib.hid hbox
        have HI := Lib.hid (H.out.below hb2)
        have HB1 := Lib.hid hb2
        clear hb1 hb2 hbox
        go_wp2_with fail
        go_at_call 49
        refine (HH.out _ HI.out).mono ?_
        rintro e w2 ⟨rfl, hb2⟩
        have hbox2 := (hb2.block w1.heap.size (by simp)).trans HBox.out
        obtain ⟨z0, z1, z2, _, _, _⟩ := cells3 hbox2
        have HI2 := Lib.hid (HI.out.below hb2)
        have HB2 := Lib.hid (HB1.out.trans (hb2.mono HB1.out.size))
        have c0 : w2.cell? ⟨pb, 0, none⟩ = some (.int .i64 st.room) := Lib.cell_of_heap HI2.out.cells 0
        have c1 : w2.cell? ⟨pb, 1, none⟩ = some (.int .i64 st.used) := Lib.cell_of_heap HI2.out.cells 1
        have c3 : w2.cell? ⟨pb, 3, none⟩ = some (.map (some mb)) := Lib.cell_of_heap HI2.out.cells 3
        clear hb2 hbox2 x0 x1 x2
        go_wp2
        go_quiet (fail)
        go_wp2
        go_ret
        exact ⟨rfl, HI2.out.keep (fun _ _ => rfl), Keeps.of (HB2.out.trans ((belowN w2 _).mono HB2.out.size)) _⟩
      · have hfi : decide ((st.room : Int) - (s2.size : Int) < (st.used : Int) - (ft.length : Int)) = false := decide_eq_false (by omega)
        have HPt : Hid ((st.files.length < 512) → ∀ w, IsStore pb mb st w → Calls Tryz.prog 50 #[.pointer (some ⟨pb, 0, none⟩), .string ⟨q.toArray⟩, .agg #[.string s2, .int .i64 0, .bool false]] w fun e w' => e = .returned (.tuple #[]) ∧ IsStore pb mb (st.put q ⟨s2.data.toList, 0, false⟩) w' ∧ Keeps w.heap.size (fun k => k = pb ∨ k = mb) w w') := Lib.hid (fun hn w h => by
          have := put_any pb mb st q s2.data.toList 0 false (by rw [hsl.out]; omega) (.inr hn) hq w h (by rw [HO.out, hsl.out]; omega)
          rw [Lib.mk_data] at this
          exact this)
        by_cases h512 : 512 ≤ st.files.length
        · obtain rfl : r = (st, 9) := by rw [hR.out, if_pos (.inr ⟨rfl, h512⟩)]
          have hni : (512 : Int) ≤ (st.files.length : Int) := by omega
          clear hR hh
          go_enter Tryz.func32, Tryz.ntmps32
          go_wp2_with fail
          go_at_call 34
          refine HF.out.mono ?_
          rintro e w1 ⟨rfl, hb1⟩
          have hbox := heap_alloc_new w1 (.cells #[.string ⟨ft.toArray⟩, .int .i64 fm, .bool false] 84)
          obtain ⟨x0, x1, x2, _, _, _⟩ := cells3 hbox
          have hb2 := hb1.alloc hb1.size (.cells #[.string ⟨ft.toArray⟩, .int .i64 fm, .bool false] 84)
          have HBox := Lib.hid hbox
          have HI := Lib.hid (H.out.below hb2)
          have HB1 := Lib.hid hb2
          clear hb1 hb2 hbox
          go_wp2_with fail
          go_at_call 49
          refine (HH.out _ HI.out).mono ?_
          rintro e w2 ⟨rfl, hb2⟩
          have hbox2 := (hb2.block w1.heap.size (by simp)).trans HBox.out
          obtain ⟨z0, z1, z2, _, _, _⟩ := cells3 hbox2
          have HI2 := Lib.hid (HI.out.below hb2)
          have HB2 := Lib.hid (HB1.out.trans (hb2.mono HB1.out.size))
          have c0 : w2.cell? ⟨pb, 0, none⟩ = some (.int .i64 st.room) := Lib.cell_of_heap HI2.out.cells 0
          have c1 : w2.cell? ⟨pb, 1, none⟩ = some (.int .i64 st.used) := Lib.cell_of_heap HI2.out.cells 1
          have c3 : w2.cell? ⟨pb, 3, none⟩ = some (.map (some mb)) := Lib.cell_of_heap HI2.out.cells 3
          clear hb2 hbox2 x0 x1 x2
          go_wp2
          go_quiet (fail)
          have hln := fun ty => maplen_run (w := w2.drewN nq) HI2.out.map ty
          go_wp2
          go_ret
          exact ⟨rfl, HI2.out.keep (fun _ _ => rfl), Keeps.of (HB2.out.trans ((belowN w2 _).mono HB2.out.size)) _⟩
        · obtain rfl : r = (st.put q ⟨s2.data.toList, 0, false⟩, 0) := by rw [hR.out, if_neg (by rintro (h | h); exact hfull h; exact h512 h.2)]
          have hni : decide ((512 : Int) ≤ (st.files.length : Int)) = false := decide_eq_false (by omega)
          clear hR hh
          go_enter Tryz.func32, Tryz.ntmps32
          go_wp2_with fail
          go_at_call 34
          refine HF.out.mono ?_
          rintro e w1 ⟨rfl, hb1⟩
          have hbox := heap_alloc_new w1 (.cells #[.string ⟨ft.toArray⟩, .int .i64 fm, .bool false] 84)
          obtain ⟨x0, x1, x2, _, _, _⟩ := cells3 hbox
          have hb2 := hb1.alloc hb1.size (.cells #[.string ⟨ft.toArray⟩, .int .i64 fm, .bool false] 84)
          have HBox := Lib.hid hbox
          have HI := Lib.hid (H.out.below hb2)
          have HB1 := Lib.hid hb2
          clear hb1 hb2 hbox
          go_wp2_with fail
          go_at_call 49
          refine (HH.out _ HI.out).mono ?_
          rintro e w2 ⟨rfl, hb2⟩
          have hbox2 := (hb2.block w1.heap.size (by simp)).trans HBox.out
          obtain ⟨z0, z1, z2, _, _, _⟩ := cells3 hbox2
          have HI2 := Lib.hid (HI.out.below hb2)
          have HB2 := Lib.hid (HB1.out.trans (hb2.mono HB1.out.size))
          have c0 : w2.cell? ⟨pb, 0, none⟩ = some (.int .i64 st.room) := Lib.cell_of_heap HI2.out.cells 0
          have c1 : w2.cell? ⟨pb, 1, none⟩ = some (.int .i64 st.used) := Lib.cell_of_heap HI2.out.cells 1
          have c3 : w2.cell? ⟨pb, 3, none⟩ = some (.map (some mb)) := Lib.cell_of_heap HI2.out.cells 3
          clear hb2 hbox2 x0 x1 x2
          go_wp2
          go_quiet (fail)
          have hln := fun ty => maplen_run (w := w2.drewN nq) HI2.out.map ty
          go_wp2_with fail
          go_at_call 50
          refine (HPt.out (by omega) _ (HI2.out.keep (w' := w2.drewN nq) (fun _ _ => rfl))).mono ?_
          rintro e w3 ⟨rfl, hI3, hk3⟩
          have HI3 := Lib.hid hI3
          have HK3 := Lib.hid (((Keeps.of HB2.out (fun k => k = pb ∨ k = mb)).trans (Keeps.of (belowN w2 _) _ |>.mono HB2.out.size (fun _ _ h => h))).trans (hk3.mono HB2.out.size (fun _ _ h => h)))
          clear hI3 hk3
          go_wp2_with fail
          go_at_call 35
          refine (note_any pb mb _ _ _ _ HI3.out).mono ?_
          rintro e w4 ⟨rfl, rfl⟩
          go_wp2
          go_ret
          exact ⟨rfl, HI3.out, HK3.out⟩
  · obtain rfl : r = (st, hm) := by rw [hR.out, if_pos h0]
    have hbq : (hm == 0) = false := beq_eq_false_iff_ne.2 h0
    clear hR hh
    go_enter Tryz.func32, Tryz.ntmps32
    go_wp2_with fail
    go_at_call 34
    refine HF.out.mono ?_
    rintro e w1 ⟨rfl, hb1⟩
    have hbox := heap_alloc_new w1 (.cells #[.string ⟨ft.toArray⟩, .int .i64 fm, .bool false] 84)
    obtain ⟨x0, x1, x2, _, _, _⟩ := cells3 hbox
    have hb2 := hb1.alloc hb1.size (.cells #[.string ⟨ft.toArray⟩, .int .i64 fm, .bool false] 84)
    have HBox := Lib.hid hbox
    have HI := Lib.hid (H.out.below hb2)
    have HB1 := Lib.hid hb2
    clear hb1 hb2 hbox
    go_wp2_with fail
    go_at_call 49
    refine (HH.out _ HI.out).mono ?_
    rintro e w2 ⟨rfl, hb2⟩
    have hbox2 := (hb2.block w1.heap.size (by simp)).trans HBox.out
    obtain ⟨z0, z1, z2, _, _, _⟩ := cells3 hbox2
    have HI2 := Lib.hid (HI.out.below hb2)
    have HB2 := Lib.hid (HB1.out.trans (hb2.mono HB1.out.size))
    have c0 : w2.cell? ⟨pb, 0, none⟩ = some (.int .i64 st.room) := Lib.cell_of_heap HI2.out.cells 0
    have c1 : w2.cell? ⟨pb, 1, none⟩ = some (.int .i64 st.used) := Lib.cell_of_heap HI2.out.cells 1
    have c3 : w2.cell? ⟨pb, 3, none⟩ = some (.map (some mb)) := Lib.cell_of_heap HI2.out.cells 3
    clear hb2 hbox2 x0 x1 x2
    go_wp2
    go_ret
    exact ⟨rfl, HI2.out, Keeps.of HB2.out _⟩

set_option maxHeartbeats 4000000 in
set_option maxRecDepth 100000 in
theorem write_old (pb mb : Nat) (st : PStore) (q ft : List UInt8) (fm : Int) (s s2 : ByteArray) (hs2 : s2.size ≤ 140737488351232) (hq : q.length ≤ 4194304) (w : World) (h : IsStore pb mb st w) (hft : ft.length ≤ st.used) (hold : oldT q st.files = ft.length) (hin : (findF q st.files).isSome = true)
    (hF : Calls Tryz.prog 34 #[.pointer (some ⟨pb, 0, none⟩), .string s] w fun e w' => e = .returned (.tuple #[.string ⟨q.toArray⟩, .agg #[.string ⟨ft.toArray⟩, .int .i64 fm, .bool false], .int .i64 0]) ∧ Below w.heap.size w w') :
    Calls Tryz.prog 32 #[.pointer (some ⟨pb, 0, none⟩), .string s, .string s2] w fun e w' => e = .returned (.int .i64 (writeAt st q ft false s2.data.toList).2) ∧ IsStore pb mb (writeAt st q ft false s2.data.toList).1 w' ∧ Keeps w.heap.size (fun k => k = pb ∨ k = mb) w w' := by
  have HF := Lib.hid hF
  have H := Lib.hid h
  have hR : Hid (writeAt st q ft false s2.data.toList = if homeS st q ≠ 0 then (st, homeS st q) else if 65536 < s2.data.toList.length then (st, 5) else if st.room + ft.length < st.used + s2.data.toList.length ∨ (false = true ∧ 512 ≤ st.files.length) then (st, 9) else (st.put q ⟨s2.data.toList, 0, false⟩, 0)) := Lib.hid rfl
  have HH : Hid (∀ w, IsStore pb mb st w → Calls Tryz.prog 49 #[.pointer (some ⟨pb, 0, none⟩), .string ⟨q.toArray⟩] w fun e w' => e = .returned (.int .i64 (homeS st q)) ∧ Below w.heap.size w w') := Lib.hid (fun w h => home_any pb mb st q hq w h)
  have hh := homeS_is st q
  have hsl : Hid (s2.data.toList.length = s2.size) := Lib.hid (by simp)
  have hub := h.wf.used
  have hrb := h.wf.room
  rw [hsl.out] at hR
  have HO := Lib.hid hold
  have HIN := Lib.hid hin
  clear h hF hold hin
  generalize writeAt st q ft false s2.data.toList = r at hR ⊢
  generalize homeS st q = hm at HH hh hR
  have hw1 : IntKind.i64.wrap ((st.used : Int) - (ft.length : Int)) = (st.used : Int) - (ft.length : Int) := by rw [IntKind.wrap_i64]; omega
  have hw2 : IntKind.i64.wrap ((st.room : Int) - (s2.size : Int)) = (st.room : Int) - (s2.size : Int) := by rw [IntKind.wrap_i64]; omega
  by_cases h0 : hm = 0
  · subst h0
    rw [if_neg (by simp)] at hR
    by_cases hbig : 65536 < s2.size
    · obtain rfl : r = (st, 5) := by rw [hR.out, if_pos hbig]
      have hbi : (65536 : Int) < (s2.size : Int) := by omega
      clear hR hh
      go_enter Tryz.func32, Tryz.ntmps32
      go_wp2_with fail
      go_at_call 34
      refine HF.out.mono ?_
      rintro e w1 ⟨rfl, hb1⟩
      have hbox := heap_alloc_new w1 (.cells #[.string ⟨ft.toArray⟩, .int .i64 fm, .bool false] 84)
      obtain ⟨x0, x1, x2, _, _, _⟩ := cells3 hbox
      have hb2 := hb1.alloc hb1.size (.cells #[.string ⟨ft.toArray⟩, .int .i64 fm, .bool false] 84)
      have HBox := Lib.hid hbox
      have HI := Lib.hid (H.out.below hb2)
      have HB1 := Lib.hid hb2
      clear hb1 hb2 hbox
      go_wp2_with fail
      go_at_call 49
      refine (HH.out _ HI.out).mono ?_
      rintro e w2 ⟨rfl, hb2⟩
      have hbox2 := (hb2.block w1.heap.size (by simp)).trans HBox.out
      obtain ⟨z0, z1, z2, _, _, _⟩ := cells3 hbox2
      have HI2 := Lib.hid (HI.out.below hb2)
      have HB2 := Lib.hid (HB1.out.trans (hb2.mono HB1.out.size))
      have c0 : w2.cell? ⟨pb, 0, none⟩ = some (.int .i64 st.room) := Lib.cell_of_heap HI2.out.cells 0
      have c1 : w2.cell? ⟨pb, 1, none⟩ = some (.int .i64 st.used) := Lib.cell_of_heap HI2.out.cells 1
      have c3 : w2.cell? ⟨pb, 3, none⟩ = some (.map (some mb)) := Lib.cell_of_heap HI2.out.cells 3
      clear hb2 hbox2 x0 x1 x2
      go_wp2
      go_ret
      exact ⟨rfl, HI2.out, Keeps.of HB2.out _⟩
    · rw [if_neg hbig] at hR
      have hbi : decide ((65536 : Int) < (s2.size : Int)) = false := decide_eq_false (by omega)
      by_cases hfull : st.room + ft.length < st.used + s2.size
      · obtain rfl : r = (st, 9) := by rw [hR.out, if_pos (.inl hfull)]
        have hfi : (st.room : Int) - (s2.size : Int) < (st.used : Int) - (ft.length : Int) := by omega
        clear hR hh
        go_enter Tryz.func32, Tryz.ntmps32
        go_wp2_with fail
        go_at_call 34
        refine HF.out.mono ?_
        rintro e w1 ⟨rfl, hb1⟩
        have hbox := heap_alloc_new w1 (.cells #[.string ⟨ft.toArray⟩, .int .i64 fm, .bool false] 84)
        obtain ⟨x0, x1, x2, _, _, _⟩ := cells3 hbox
        have hb2 := hb1.alloc hb1.size (.cells #[.string ⟨ft.toArray⟩, .int .i64 fm, .bool false] 84)
        have HBox := Lib.hid hbox
        have HI := Lib.hid (H.out.below hb2)
        have HB1 := Lib.hid hb2
        clear hb1 hb2 hbox
        go_wp2_with fail
        go_at_call 49
        refine (HH.out _ HI.out).mono ?_
        rintro e w2 ⟨rfl, hb2⟩
        have hbox2 := (hb2.block w1.heap.size (by simp)).trans HBox.out
        obtain ⟨z0, z1, z2, _, _, _⟩ := cells3 hbox2
        have HI2 := Lib.hid (HI.out.below hb2)
        have HB2 := Lib.hid (HB1.out.trans (hb2.mono HB1.out.size))
        have c0 : w2.cell? ⟨pb, 0, none⟩ = some (.int .i64 st.room) := Lib.cell_of_heap HI2.out.cells 0
        have c1 : w2.cell? ⟨pb, 1, none⟩ = some (.int .i64 st.used) := Lib.cell_of_heap HI2.out.cells 1
        have c3 : w2.cell? ⟨pb, 3, none⟩ = some (.map (some mb)) := Lib.cell_of_heap HI2.out.cells 3
        clear hb2 hbox2 x0 x1 x2
        go_wp2
        go_quiet (fail)
        go_wp2
        go_ret
        exact ⟨rfl, HI2.out.keep (fun _ _ => rfl), Keeps.of (HB2.out.trans ((belowN w2 _).mono HB2.out.size)) _⟩
      · have hfi : decide ((st.room : Int) - (s2.size : Int) < (st.used : Int) - (ft.length : Int)) = false := decide_eq_false (by omega)
        have HPt : Hid (((findF q st.files).isSome = true) → ∀ w, IsStore pb mb st w → Calls Tryz.prog 50 #[.pointer (some ⟨pb, 0, none⟩), .string ⟨q.toArray⟩, .agg #[.string s2, .int .i64 0, .bool false]] w fun e w' => e = .returned (.tuple #[]) ∧ IsStore pb mb (st.put q ⟨s2.data.toList, 0, false⟩) w' ∧ Keeps w.heap.size (fun k => k = pb ∨ k = mb) w w') := Lib.hid (fun hn w h => by
          have := put_any pb mb st q s2.data.toList 0 false (by rw [hsl.out]; omega) (.inl hn) hq w h (by rw [HO.out, hsl.out]; omega)
          rw [Lib.mk_data] at this
          exact this)
        obtain rfl : r = (st.put q ⟨s2.data.toList, 0, false⟩, 0) := by rw [hR.out, if_neg (by rintro (h | h); exact hfull h; exact absurd h.1 (by simp))]
        clear hR hh
        go_enter Tryz.func32, Tryz.ntmps32
        go_wp2_with fail
        go_at_call 34
        refine HF.out.mono ?_
        rintro e w1 ⟨rfl, hb1⟩
        have hbox := heap_alloc_new w1 (.cells #[.string ⟨ft.toArray⟩, .int .i64 fm, .bool false] 84)
        obtain ⟨x0, x1, x2, _, _, _⟩ := cells3 hbox
        have hb2 := hb1.alloc hb1.size (.cells #[.string ⟨ft.toArray⟩, .int .i64 fm, .bool false] 84)
        have HBox := Lib.hid hbox
        have HI := Lib.hid (H.out.below hb2)
        have HB1 := Lib.hid hb2
        clear hb1 hb2 hbox
        go_wp2_with fail
        go_at_call 49
        refine (HH.out _ HI.out).mono ?_
        rintro e w2 ⟨rfl, hb2⟩
        have hbox2 := (hb2.block w1.heap.size (by simp)).trans HBox.out
        obtain ⟨z0, z1, z2, _, _, _⟩ := cells3 hbox2
        have HI2 := Lib.hid (HI.out.below hb2)
        have HB2 := Lib.hid (HB1.out.trans (hb2.mono HB1.out.size))
        have c0 : w2.cell? ⟨pb, 0, none⟩ = some (.int .i64 st.room) := Lib.cell_of_heap HI2.out.cells 0
        have c1 : w2.cell? ⟨pb, 1, none⟩ = some (.int .i64 st.used) := Lib.cell_of_heap HI2.out.cells 1
        have c3 : w2.cell? ⟨pb, 3, none⟩ = some (.map (some mb)) := Lib.cell_of_heap HI2.out.cells 3
        clear hb2 hbox2 x0 x1 x2
        go_wp2
        go_quiet (fail)
        go_wp2_with fail
        go_at_call 50
        refine (HPt.out HIN.out _ (HI2.out.keep (w' := w2.drewN nq) (fun _ _ => rfl))).mono ?_
        rintro e w3 ⟨rfl, hI3, hk3⟩
        have HI3 := Lib.hid hI3
        have HK3 := Lib.hid (((Keeps.of HB2.out (fun k => k = pb ∨ k = mb)).trans (Keeps.of (belowN w2 _) _ |>.mono HB2.out.size (fun _ _ h => h))).trans (hk3.mono HB2.out.size (fun _ _ h => h)))
        clear hI3 hk3
        go_wp2_with fail
        go_at_call 35
        refine (note_any pb mb _ _ _ _ HI3.out).mono ?_
        rintro e w4 ⟨rfl, rfl⟩
        go_wp2
        go_ret
        exact ⟨rfl, HI3.out, HK3.out⟩
  · obtain rfl : r = (st, hm) := by rw [hR.out, if_pos h0]
    have hbq : (hm == 0) = false := beq_eq_false_iff_ne.2 h0
    clear hR hh
    go_enter Tryz.func32, Tryz.ntmps32
    go_wp2_with fail
    go_at_call 34
    refine HF.out.mono ?_
    rintro e w1 ⟨rfl, hb1⟩
    have hbox := heap_alloc_new w1 (.cells #[.string ⟨ft.toArray⟩, .int .i64 fm, .bool false] 84)
    obtain ⟨x0, x1, x2, _, _, _⟩ := cells3 hbox
    have hb2 := hb1.alloc hb1.size (.cells #[.string ⟨ft.toArray⟩, .int .i64 fm, .bool false] 84)
    have HBox := Lib.hid hbox
    have HI := Lib.hid (H.out.below hb2)
    have HB1 := Lib.hid hb2
    clear hb1 hb2 hbox
    go_wp2_with fail
    go_at_call 49
    refine (HH.out _ HI.out).mono ?_
    rintro e w2 ⟨rfl, hb2⟩
    have hbox2 := (hb2.block w1.heap.size (by simp)).trans HBox.out
    obtain ⟨z0, z1, z2, _, _, _⟩ := cells3 hbox2
    have HI2 := Lib.hid (HI.out.below hb2)
    have HB2 := Lib.hid (HB1.out.trans (hb2.mono HB1.out.size))
    have c0 : w2.cell? ⟨pb, 0, none⟩ = some (.int .i64 st.room) := Lib.cell_of_heap HI2.out.cells 0
    have c1 : w2.cell? ⟨pb, 1, none⟩ = some (.int .i64 st.used) := Lib.cell_of_heap HI2.out.cells 1
    have c3 : w2.cell? ⟨pb, 3, none⟩ = some (.map (some mb)) := Lib.cell_of_heap HI2.out.cells 3
    clear hb2 hbox2 x0 x1 x2
    go_wp2
    go_ret
    exact ⟨rfl, HI2.out, Keeps.of HB2.out _⟩
end Go.Proofs.YtmagggflamdahaaGreatDoor

namespace Go.Proofs.YtmagggflamdahaaGreatDoor
open Go.RowKit

set_option maxHeartbeats 2000000 in
set_option maxRecDepth 100000 in
theorem write_store (pb mb : Nat) (st : PStore) (s s2 : ByteArray) (hs : s.size ≤ 262144) (hs2 : s2.size ≤ 140737488351232) (w : World) (h : IsStore pb mb st w) :
    Calls Tryz.prog 32 #[.pointer (some ⟨pb, 0, none⟩), .string s, .string s2] w fun e w' => e = .returned (.int .i64 (writeF st s.data.toList s2.data.toList).2) ∧ IsStore pb mb (writeF st s.data.toList s2.data.toList).1 w' ∧ Keeps w.heap.size (fun k => k = pb ∨ k = mb) w w' := by
  have hF := findQ pb mb st s hs w h
  have hsl : s.data.toList.length = s.size := by simp
  unfold writeF
  cases hfd : found st s.data.toList with
  | not e =>
    obtain rfl := found_not hfd
    rw [hfd] at hF
    unfold Found.val at hF
    have HF := Lib.hid hF
    have H := Lib.hid h
    clear h hF hfd
    go_enter Tryz.func32, Tryz.ntmps32
    go_wp2_with fail
    go_at_call 34
    refine HF.out.mono ?_
    rintro e w1 ⟨rfl, hb1⟩
    have hb2 := hb1.alloc hb1.size (.cells #[.string ⟨#[]⟩, .int .i64 0, .bool false] 84)
    have HI := Lib.hid (H.out.below hb2)
    have HB1 := Lib.hid (Keeps.of hb2 (fun k => k = pb ∨ k = mb))
    clear hb1 hb2
    go_wp2
    go_ret
    exact ⟨rfl, HI.out, HB1.out⟩
  | nothing q =>
    obtain ⟨h1, h2⟩ := found_nothing hfd
    rw [hfd] at hF
    have hold : oldT q st.files = 0 := by
      unfold oldT
      have : findF q st.files = none := h2
      rw [this]
      rfl
    exact write_fresh pb mb st q [] 0 s s2 hs2 (by omega) w h (Nat.zero_le _) hold hF
  | file q f =>
    obtain ⟨h1, h2⟩ := found_file hfd
    rw [hfd] at hF
    obtain ⟨ft, fm, fd⟩ := f
    cases fd with
    | true =>
      unfold Found.val at hF
      simp only at hF
      have HF := Lib.hid hF
      have H := Lib.hid h
      clear h hF hfd
      go_enter Tryz.func32, Tryz.ntmps32
      go_wp2_with fail
      go_at_call 34
      refine HF.out.mono ?_
      rintro e w1 ⟨rfl, hb1⟩
      have hb2 := hb1.alloc hb1.size (.cells #[.string ⟨ft.toArray⟩, .int .i64 fm, .bool true] 84)
      have HI := Lib.hid (H.out.below hb2)
      have HB1 := Lib.hid (Keeps.of hb2 (fun k => k = pb ∨ k = mb))
      clear hb1 hb2
      go_wp2
      go_ret
      exact ⟨rfl, HI.out, HB1.out⟩
    | false =>
      have hold : oldT q st.files = ft.length := by
        unfold oldT
        have : findF q st.files = some ⟨ft, fm, false⟩ := h2
        rw [this]
        rfl
      have hle : ft.length ≤ st.used := by rw [← hold]; exact oldT_le q st.files
      exact write_old pb mb st q ft fm s s2 hs2 (by omega) w h hle hold (by rw [show findF q st.files = some ⟨ft, fm, false⟩ from h2]; rfl) hF

/-- the text that lies at a path; empty of anything else -/
def textF (st : PStore) (p : List UInt8) : List UInt8 := match found st p with | .file _ f => f.text | _ => []
def appendF (st : PStore) (p text : List UInt8) : PStore × Int := writeF st p (textF st p ++ text)
theorem textF_len {pb mb : Nat} {st : PStore} {w : World} (h : IsStore pb mb st w) (p : List UInt8) : (textF st p).length ≤ 1048576 := by
  unfold textF
  cases hfd : found st p with
  | not e => simp
  | nothing q => simp
  | file q f =>
    obtain ⟨_, h2⟩ := found_file hfd
    have h3 : oldT q st.files = f.text.length := by
      unfold oldT
      have : findF q st.files = some f := h2
      rw [this]
      rfl
    have h4 := oldT_le q st.files
    have h5 := h.used_le
    have h6 : st.used = sumT st.files := rfl
    simp only
    omega

set_option maxHeartbeats 2000000 in
set_option maxRecDepth 100000 in
theorem append_store (pb mb : Nat) (st : PStore) (s s2 : ByteArray) (hs : s.size ≤ 262144) (hs2 : s2.size ≤ 1073741824) (w : World) (h : IsStore pb mb st w) :
    Calls Tryz.prog 61 #[.pointer (some ⟨pb, 0, none⟩), .string s, .string s2] w fun e w' => e = .returned (.int .i64 (appendF st s.data.toList s2.data.toList).2) ∧ IsStore pb mb (appendF st s.data.toList s2.data.toList).1 w' ∧ Keeps w.heap.size (fun k => k = pb ∨ k = mb) w w' := by
  have hF := findQ pb mb st s hs w h
  have htl := textF_len h s.data.toList
  obtain ⟨t, ht⟩ : ∃ t, t = textF st s.data.toList := ⟨_, rfl⟩
  rw [← ht] at htl
  obtain ⟨q, fm, fd, e, hV⟩ : ∃ q fm fd e, (found st s.data.toList).val = .tuple #[.string q, .agg #[.string ⟨t.toArray⟩, .int .i64 fm, .bool fd], .int .i64 e] := by
    rw [ht]
    unfold textF
    cases found st s.data.toList with
    | not e => exact ⟨_, _, _, _, rfl⟩
    | nothing q => exact ⟨_, _, _, _, rfl⟩
    | file q f => exact ⟨_, _, _, _, rfl⟩
  rw [hV] at hF
  obtain ⟨u, hu⟩ : ∃ u : ByteArray, u = ⟨t.toArray⟩ ++ s2 := ⟨_, rfl⟩
  have hul : u.data.toList = t ++ s2.data.toList := by rw [hu]; simp
  have hus : u.size = t.length + s2.size := by
    have := congrArg List.length hul
    simpa using this
  have HU := Lib.hid hu.symm
  have hts : (⟨t.toArray⟩ : ByteArray).size ≤ 1048576 := by show t.toArray.size ≤ _; simpa using htl
  have HW : Hid (∀ w, IsStore pb mb st w → Calls Tryz.prog 32 #[.pointer (some ⟨pb, 0, none⟩), .string s, .string u] w fun e w' => e = .returned (.int .i64 (appendF st s.data.toList s2.data.toList).2) ∧ IsStore pb mb (appendF st s.data.toList s2.data.toList).1 w' ∧ Keeps w.heap.size (fun k => k = pb ∨ k = mb) w w') := Lib.hid (fun w h => by
    have := write_store pb mb st s u hs (by omega) w h
    rw [hul, ht] at this
    exact this)
  have HF := Lib.hid hF
  have H := Lib.hid h
  clear h hF hu hul hus ht hV
  go_enter Tryz.func61, Tryz.ntmps61
  go_wp2_with fail
  go_at_call 34
  refine HF.out.mono ?_
  rintro e w1 ⟨rfl, hb1⟩
  have hb2 := hb1.alloc hb1.size (.cells #[.string ⟨t.toArray⟩, .int .i64 fm, .bool fd] 84)
  have hbox := heap_alloc_new w1 (.cells #[.string ⟨t.toArray⟩, .int .i64 fm, .bool fd] 84)
  obtain ⟨x0, x1, x2, _, _, _⟩ := cells3 hbox
  have HI := Lib.hid (H.out.below hb2)
  have HB1 := Lib.hid hb2
  clear hb1 hb2 hbox
  go_wp2_with fail
  rw [HU.out]
  refine (HW.out _ HI.out).mono ?_
  rintro e w3 ⟨rfl, hI3, hk3⟩
  have HI3 := Lib.hid hI3
  have HK3 := Lib.hid ((Keeps.of HB1.out (fun k => k = pb ∨ k = mb)).trans (hk3.mono HB1.out.size (fun _ _ h => h)))
  clear hI3 hk3
  go_wp2
  go_ret
  exact ⟨rfl, HI3.out, HK3.out⟩
end Go.Proofs.YtmagggflamdahaaGreatDoor

namespace Go.Proofs.YtmagggflamdahaaGreatDoor
open Go.RowKit

def touchF (st : PStore) (p : List UInt8) : PStore × Int := match found st p with
  | .file q f => if f.dir then (st.put q f, 0) else writeF st p f.text
  | _ => writeF st p []

set_option maxHeartbeats 2000000 in
set_option maxRecDepth 100000 in
theorem touch_write (pb mb : Nat) (st : PStore) (s : ByteArray) (t : List UInt8) (htl : t.length ≤ 1048576) (q : ByteArray) (fm e : Int) (hs : s.size ≤ 262144) (w : World) (h : IsStore pb mb st w)
    (hF : Calls Tryz.prog 34 #[.pointer (some ⟨pb, 0, none⟩), .string s] w fun e' w' => e' = .returned (.tuple #[.string q, .agg #[.string ⟨t.toArray⟩, .int .i64 fm, .bool false], .int .i64 e]) ∧ Below w.heap.size w w') :
    Calls Tryz.prog 115 #[.pointer (some ⟨pb, 0, none⟩), .string s] w fun e w' => e = .returned (.int .i64 (writeF st s.data.toList t).2) ∧ IsStore pb mb (writeF st s.data.toList t).1 w' ∧ Keeps w.heap.size (fun k => k = pb ∨ k = mb) w w' := by
  have hts : (⟨t.toArray⟩ : ByteArray).size ≤ 1048576 := by show t.toArray.size ≤ _; simpa using htl
  have HW : Hid (∀ w, IsStore pb mb st w → Calls Tryz.prog 32 #[.pointer (some ⟨pb, 0, none⟩), .string s, .string ⟨t.toArray⟩] w fun e w' => e = .returned (.int .i64 (writeF st s.data.toList t).2) ∧ IsStore pb mb (writeF st s.data.toList t).1 w' ∧ Keeps w.heap.size (fun k => k = pb ∨ k = mb) w w') := Lib.hid (fun w h => write_store pb mb st s ⟨t.toArray⟩ hs (by omega) w h)
  have HF := Lib.hid hF
  have H := Lib.hid h
  clear h hF hts htl
  go_enter Tryz.func115, Tryz.ntmps115
  go_wp2_with fail
  go_at_call 34
  refine HF.out.mono ?_
  rintro e w1 ⟨rfl, hb1⟩
  have hb2 := hb1.alloc hb1.size (.cells #[.string ⟨t.toArray⟩, .int .i64 fm, .bool false] 84)
  have hbox := heap_alloc_new w1 (.cells #[.string ⟨t.toArray⟩, .int .i64 fm, .bool false] 84)
  obtain ⟨x0, x1, x2, _, _, _⟩ := cells3 hbox
  have HI := Lib.hid (H.out.below hb2)
  have HB1 := Lib.hid hb2
  clear hb1 hb2 hbox
  go_wp2_with fail
  go_at_call 32
  refine (HW.out _ HI.out).mono ?_
  rintro e w3 ⟨rfl, hI3, hk3⟩
  have HI3 := Lib.hid hI3
  have HK3 := Lib.hid ((Keeps.of HB1.out (fun k => k = pb ∨ k = mb)).trans (hk3.mono HB1.out.size (fun _ _ h => h)))
  clear hI3 hk3
  go_wp2
  go_ret
  exact ⟨rfl, HI3.out, HK3.out⟩

set_option maxHeartbeats 2000000 in
set_option maxRecDepth 100000 in
theorem touch_store (pb mb : Nat) (st : PStore) (s : ByteArray) (hs : s.size ≤ 262144) (w : World) (h : IsStore pb mb st w) :
    Calls Tryz.prog 115 #[.pointer (some ⟨pb, 0, none⟩), .string s] w fun e w' => e = .returned (.int .i64 (touchF st s.data.toList).2) ∧ IsStore pb mb (touchF st s.data.toList).1 w' ∧ Keeps w.heap.size (fun k => k = pb ∨ k = mb) w w' := by
  have hF := findQ pb mb st s hs w h
  unfold touchF
  cases hfd : found st s.data.toList with
  | not e =>
    rw [hfd] at hF
    exact touch_write pb mb st s [] (by simp) _ _ _ hs w h hF
  | nothing q =>
    rw [hfd] at hF
    exact touch_write pb mb st s [] (by simp) _ _ _ hs w h hF
  | file q f =>
    have htl := textF_len h s.data.toList
    unfold textF at htl
    rw [hfd] at hF htl
    obtain ⟨_, h2⟩ := found_file hfd
    obtain ⟨ft, fm, fd⟩ := f
    simp only at htl
    cases fd with
    | false => exact touch_write pb mb st s ft htl _ _ _ hs w h hF
    | true =>
      have hold : oldT q st.files = ft.length := by
        unfold oldT
        have : findF q st.files = some ⟨ft, fm, true⟩ := h2
        rw [this]
        rfl
      have HP : Hid (∀ w, IsStore pb mb st w → Calls Tryz.prog 50 #[.pointer (some ⟨pb, 0, none⟩), .string ⟨q.toArray⟩, .agg #[.string ⟨ft.toArray⟩, .int .i64 fm, .bool true]] w fun e w' => e = .returned (.tuple #[]) ∧ IsStore pb mb (st.put q ⟨ft, fm, true⟩) w' ∧ Keeps w.heap.size (fun k => k = pb ∨ k = mb) w w') := Lib.hid (fun w h => put_any pb mb st q ft fm true htl (.inl (by rw [show findF q st.files = some ⟨ft, fm, true⟩ from h2]; rfl)) (by have := (found_file hfd).1; simp at this; omega) w h (by rw [hold]; have := h.wf.used; omega))
      unfold Found.val at hF
      simp only at hF
      have HF := Lib.hid hF
      have H := Lib.hid h
      clear h hF hfd htl h2 hold
      go_enter Tryz.func115, Tryz.ntmps115
      go_wp2_with fail
      go_at_call 34
      refine HF.out.mono ?_
      rintro e w1 ⟨rfl, hb1⟩
      have hb2 := hb1.alloc hb1.size (.cells #[.string ⟨ft.toArray⟩, .int .i64 fm, .bool true] 84)
      have hbox := heap_alloc_new w1 (.cells #[.string ⟨ft.toArray⟩, .int .i64 fm, .bool true] 84)
      obtain ⟨x0, x1, x2, _, _, _⟩ := cells3 hbox
      have HI := Lib.hid (H.out.below hb2)
      have HB1 := Lib.hid hb2
      clear hb1 hb2 hbox
      go_wp2_with fail
      go_at_call 50
      refine (HP.out _ HI.out).mono ?_
      rintro e w3 ⟨rfl, hI3, hk3⟩
      have HI3 := Lib.hid hI3
      have HK3 := Lib.hid ((Keeps.of HB1.out (fun k => k = pb ∨ k = mb)).trans (hk3.mono HB1.out.size (fun _ _ h => h)))
      clear hI3 hk3
      go_wp2
      go_ret
      exact ⟨rfl, HI3.out, HK3.out⟩

/-- what Stat says -/
def statF (st : PStore) (p : List UInt8) : Int × Bool × Int := match found st p with
  | .not e => (0, false, e)
  | .nothing _ => (0, false, 6)
  | .file _ f => (f.time, f.dir, 0)

set_option maxHeartbeats 2000000 in
set_option maxRecDepth 100000 in
theorem stat_store (pb mb : Nat) (st : PStore) (s : ByteArray) (hs : s.size ≤ 262144) (w : World) (h : IsStore pb mb st w) :
    Calls Tryz.prog 119 #[.pointer (some ⟨pb, 0, none⟩), .string s] w fun e w' => e = .returned (.tuple #[.int .i64 (statF st s.data.toList).1, .bool (statF st s.data.toList).2.1, .int .i64 (statF st s.data.toList).2.2]) ∧ Below w.heap.size w w' := by
  have hF := findQ pb mb st s hs w h
  obtain ⟨q, t, hV⟩ : ∃ q t, (found st s.data.toList).val = .tuple #[.string q, .agg #[.string t, .int .i64 (statF st s.data.toList).1, .bool (statF st s.data.toList).2.1], .int .i64 (statF st s.data.toList).2.2] := by
    unfold statF
    cases found st s.data.toList with
    | not e => exact ⟨_, _, rfl⟩
    | nothing q => exact ⟨_, _, rfl⟩
    | file q f => exact ⟨_, _, rfl⟩
  rw [hV] at hF
  have HF := Lib.hid hF
  generalize statF st s.data.toList = r at HF ⊢
  obtain ⟨fm, fd, fe⟩ := r
  simp only at HF ⊢
  clear hF hV h
  go_enter Tryz.func119, Tryz.ntmps119
  go_wp2_with fail
  go_at_call 34
  refine HF.out.mono ?_
  rintro e w1 ⟨rfl, hb1⟩
  have hb2 := hb1.alloc hb1.size (.cells #[.string t, .int .i64 fm, .bool fd] 84)
  have hbox := heap_alloc_new w1 (.cells #[.string t, .int .i64 fm, .bool fd] 84)
  obtain ⟨x0, x1, x2, _, _, _⟩ := cells3 hbox
  have HB1 := Lib.hid hb2
  clear hb1 hb2 hbox
  go_wp2
  go_quiet (fail)
  go_wp2
  go_ret3
  exact ⟨rfl, HB1.out.trans ((belowN _ _).mono HB1.out.size)⟩
end Go.Proofs.YtmagggflamdahaaGreatDoor
