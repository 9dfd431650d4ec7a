/- bobstaylaw17.ShNobody: its walk. -/
import Derived.Test.YtmagggflamdahaaGreatDoorSo
namespace Go.Proofs.YtmagggflamdahaaGreatDoor
open Go.RowKit

set_option maxHeartbeats 8000000 in
set_option maxRecDepth 100000 in
theorem shNobody_walk (s : ByteArray) (hs : s.size ≤ 140737488351232) (w : World) : Calls Tryz.prog 5 #[.string s] w fun e w' => e = .returned (.bool true) ∧ Below w.heap.size w w' := by
  obtain ⟨W, hW⟩ : ∃ W, W = (w.alloc (.cells #[.bool false, .slice none 0 0, .int .i64 0, .pointer none, .slice none 0 0] 47)).alloc (.cells #[.pointer none, .pointer (some ⟨w.heap.size, 0, none⟩)] 40) := ⟨_, rfl⟩
  have hx1 : W.heap[w.heap.size + 1]? = some (.cells #[.pointer none, .pointer (some ⟨w.heap.size, 0, none⟩)] 40 (0, 0)) := by
    rw [hW]
    have := heap_alloc_new (w.alloc (.cells #[.bool false, .slice none 0 0, .int .i64 0, .pointer none, .slice none 0 0] 47)) (.cells #[.pointer none, .pointer (some ⟨w.heap.size, 0, none⟩)] 40)
    simpa using this
  have hx0 : W.heap[w.heap.size]? = some (.cells #[.bool false, .slice none 0 0, .int .i64 0, .pointer none, .slice none 0 0] 47 (0, 0)) := by
    rw [hW]
    exact (Below.heap_alloc _ _ _ (by simp)).trans (heap_alloc_new w _)
  have HB : Hid (Below w.heap.size w W) := Lib.hid (by rw [hW]; exact ((Below.refl _ _).alloc (Nat.le_refl _) _).alloc (by simp) _)
  have HX : Hid (∀ i, i < 2 → ∃ pv, W.cell? ⟨w.heap.size + 1, i, none⟩ = some pv ∧ Nobody pv W) := Lib.hid (fun i hi => by
    match i, hi with
    | 0, _ => exact ⟨_, Lib.cell_of_heap hx1 0, .inl rfl⟩
    | 1, _ => exact ⟨_, Lib.cell_of_heap hx1 1, .inr ⟨_, rfl, Lib.cell_of_heap hx0 0⟩⟩)
  clear hx0 hx1
  go_enter Tryz.func5, Tryz.ntmps5
  go_wp2
  rw [← hW]
  clear hW
  go_loop [11] (fun v11 => ∃ i : Nat, v11 = .int .i64 i ∧ i ≤ 2) (fun v11 => 3 - (intOf v11).toNat)
  case atStart => exact ⟨0, rfl, by omega⟩
  case round =>
    obtain ⟨i, rfl, hi⟩ := hrel
    by_cases hlt : i < 2
    · obtain ⟨pv, hc, hn⟩ := HX.out i hlt
      have h1 := Lib.hid (step_nobody pv W hn)
      have h2 := Lib.hid (done_nobody pv W hn)
      have h3 := Lib.hid (status_nobody pv W hn)
      have h4 := Lib.hid (says_nobody pv W hn)
      clear hn
      go_wp2_with fail
      go_at_call 14
      refine h1.out.mono ?_
      rintro e w1 ⟨rfl, rfl⟩
      go_wp2_with fail
      go_at_call 15
      refine h2.out.mono ?_
      rintro e w1 ⟨rfl, rfl⟩
      go_wp2_with fail
      go_at_call 16
      refine h3.out.mono ?_
      rintro e w1 ⟨rfl, rfl⟩
      go_wp2_with fail
      go_at_call 17
      refine h4.out.mono ?_
      rintro e w1 ⟨rfl, rfl⟩
      go_wp2
      go_round
      case rel => exact ⟨i + 1, by go_num, by omega⟩
      case measure => simp [intOf]; omega
    · have hFar := Lib.hid (far_nil s W)
      have hAl := Lib.hid (fun w => alive_any w)
      by_cases h600 : 600 < (s.size : Int)
      · rw [decide_eq_true h600] at hFar
        go_wp2_with fail
        go_at_call 18
        refine hFar.out.mono ?_
        rintro e w1 ⟨rfl, rfl⟩
        go_wp2_with fail
        go_at_call 9
        refine (hAl.out _).mono ?_
        rintro e w1 ⟨rfl, hb1⟩
        have HB1 := Lib.hid (HB.out.trans (hb1.mono HB.out.size))
        clear hb1
        go_wp2
        go_ret
        exact ⟨rfl, HB1.out⟩
      · rw [decide_eq_false h600] at hFar
        have HN := new_any s hs W
        unfold NewQ at HN
        have HNE : Hid (Calls Tryz.prog 19 #[.string s] W fun e w' => ((∃ n : Int, e = .returned (.tuple #[.pointer none, .int .i64 n]) ∧ (n != 0) = true) ∨ (∃ pb, e = .returned (.tuple #[.pointer (some ⟨pb, 0, none⟩), .int .i64 0]))) ∧ Below W.heap.size W w') := Lib.hid (by
          refine HN.mono ?_
          rintro e w' ⟨h, hb⟩
          refine ⟨?_, hb⟩
          cases hr : readS s.data.toList with
          | error n =>
            rw [hr] at h
            exact .inl ⟨n, h.1, by have := h.2; simp; omega⟩
          | ok cs =>
            rw [hr] at h
            obtain ⟨pb, K, rfl, _⟩ := h
            exact .inr ⟨pb, rfl⟩)
        clear HN
        go_wp2_with fail
        go_at_call 18
        refine hFar.out.mono ?_
        rintro e w1 ⟨rfl, rfl⟩
        go_wp2_with fail
        go_at_call 19
        refine HNE.out.mono ?_
        rintro e w1 ⟨he, hb1⟩
        have HB1 := Lib.hid (HB.out.trans (hb1.mono HB.out.size))
        clear hb1
        rcases he with ⟨n, rfl, hn⟩ | ⟨pb, rfl⟩
        · go_wp2_with fail
          go_at_call 9
          refine (hAl.out _).mono ?_
          rintro e w2 ⟨rfl, hb2⟩
          have HB2 := Lib.hid (HB1.out.trans (hb2.mono HB1.out.size))
          clear hb2
          go_wp2
          go_ret
          exact ⟨rfl, HB2.out⟩
        · go_wp2_with fail
          go_at_call 9
          refine (hAl.out _).mono ?_
          rintro e w2 ⟨rfl, hb2⟩
          have HB2 := Lib.hid (HB1.out.trans (hb2.mono HB1.out.size))
          clear hb2
          go_wp2
          go_ret
          exact ⟨rfl, HB2.out⟩
end Go.Proofs.YtmagggflamdahaaGreatDoor
