/- bobstaylaw17.ShChecks: its walk. -/
import Derived.Test.YtmagggflamdahaaGreatDoorSt
import Derived.Test.YtmagggflamdahaaGreatDoorSo
namespace Go.Proofs.YtmagggflamdahaaGreatDoor
open Go.RowKit

theorem errS_many (l : List UInt8) (h : 65536 < l.length) : errS l = 5 := by
  unfold errS readS
  rw [if_pos (by omega)]

set_option maxHeartbeats 8000000 in
set_option maxRecDepth 100000 in
theorem shChecks_walk (s : ByteArray) (hs : s.size ≤ 140737488351232) (w : World) : Calls Tryz.prog 3 #[.string s] w fun e w' => e = .returned (.bool true) ∧ Below w.heap.size w w' := by
  have hsl : s.data.toList.length = s.size := by simp
  have hCh := check_any s hs w
  have hAl := Lib.hid (fun w => alive_any w)
  by_cases h3 : 3000 < (s.size : Int)
  · by_cases h65 : (s.size : Int) ≤ 65536
    · clear hCh
      go_enter Tryz.func3, Tryz.ntmps3
      go_wp2
      go_ret
      exact ⟨rfl, Below.refl _ _⟩
    · rw [errS_many _ (by omega)] at hCh
      have HC := Lib.hid hCh
      clear hCh
      go_enter Tryz.func3, Tryz.ntmps3
      go_wp2_with fail
      go_at_call 7
      refine HC.out.mono ?_
      rintro e w1 ⟨rfl, hb1⟩
      have HB1 := Lib.hid hb1
      clear hb1
      go_wp2
      go_ret
      exact ⟨rfl, HB1.out⟩
  · have HR := Lib.hid (refRead_any s (by omega) w)
    have hCh2 := fun w => check_any s hs w
    clear hCh
    generalize errS s.data.toList = n at HR hCh2
    have HC := Lib.hid hCh2
    clear hCh2
    have hnn : ((n : Int) == (n : Int)) = true := by simp
    go_enter Tryz.func3, Tryz.ntmps3
    go_wp2_with fail
    go_at_call 8
    refine HR.out.mono ?_
    rintro e w1 ⟨v, rfl, hb1⟩
    have HB1 := Lib.hid hb1
    clear hb1
    go_wp2_with fail
    go_at_call 7
    refine (HC.out _).mono ?_
    rintro e w2 ⟨rfl, hb2⟩
    have HB2 := Lib.hid (HB1.out.trans (hb2.mono HB1.out.size))
    clear hb2
    go_wp2_with fail
    go_at_call 9
    refine (hAl.out _).mono ?_
    rintro e w3 ⟨rfl, hb3⟩
    have HB3 := Lib.hid (HB2.out.trans (hb3.mono HB2.out.size))
    clear hb3
    go_wp2
    go_ret
    exact ⟨rfl, HB3.out⟩
end Go.Proofs.YtmagggflamdahaaGreatDoor
