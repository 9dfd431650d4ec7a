/- bobstaylaw17.stores of no files. bobstaylaw17.alive. A process that nobody made; bobstaylaw17.far of no files. -/
import Derived.Test.YtmagggflamdahaaGreatDoorSn
import Derived.Test.YtmagggflamdahaaGreatDoorSl
import Derived.Test.YtmagggflamdahaaGreatDoorSi
namespace Go.Proofs.YtmagggflamdahaaGreatDoor
open Go.RowKit

/-- a store of the caller's own, and the document's beside it -/
def StoresQ (st : PStore) (w : World) (e : Ending) (w' : World) : Prop := ∃ pb mb rb l B, e = .returned (.tuple #[.pointer (some ⟨pb, 0, none⟩), .pointer (some ⟨rb, 0, none⟩)]) ∧ w.heap.size ≤ pb ∧ w.heap.size ≤ mb ∧ w.heap.size ≤ B ∧ pb < B ∧ mb < B ∧ IsStore pb mb st w' ∧ RefAt B rb l w' ∧ Below w.heap.size w w'

set_option maxHeartbeats 4000000 in
set_option maxRecDepth 100000 in
theorem stores_nil (w : World) : Calls Tryz.prog 11 #[.slice none 0 0] w (StoresQ st0 w) := by
  have HN := Lib.hid (new_store 5000 (by omega) w)
  go_enter Tryz.func11, Tryz.ntmps11
  go_wp2_with fail
  go_at_call 28
  refine HN.out.mono ?_
  rintro e w1 ⟨pb, mb, rfl, hs1, hb1, hpb, hmb⟩
  have HS1 := Lib.hid hs1
  have HB1 := Lib.hid hb1
  have HRN := Lib.hid (refNew_any w1)
  clear hs1 hb1
  go_wp2_with fail
  go_at_call 29
  refine HRN.out.mono ?_
  rintro e w2 ⟨lv, rfl, hr2, hb2⟩
  obtain ⟨a, c, rfl⟩ := ownsRow_slice hr2
  have hl1 := HS1.out.ltp
  have hl2 := HS1.out.ltm
  have hz1 := HB1.out.size
  have hs2 := HS1.out.below hb2
  obtain ⟨o, ho⟩ : ∃ o, o = Obj.cells #[.int .i64 5000, .int .i64 0, .slice a 1 c, .bool false, .slice none 0 0] 75 := ⟨_, rfl⟩
  have hb3 : Below w2.heap.size w2 (w2.alloc o) := (Below.refl _ _).alloc (Nat.le_refl _) _
  have hs3 := hs2.below hb3
  have hr3 : RefAt w1.heap.size w2.heap.size [⟨⟨#[47]⟩, ⟨#[]⟩, 0, true⟩] (w2.alloc o) := ⟨⟨5000, 0, .slice a 1 c, by rw [ho]; exact heap_alloc_new w2 _, hr2.alloc o⟩, hb2.size, by simp, by simp⟩
  have hb13 : Below w.heap.size w (w2.alloc o) := (HB1.out.trans (hb2.mono hz1)).trans (hb3.mono (Nat.le_trans hz1 hb2.size))
  have HMk := Lib.hid (mkdir_store pb mb (newS 5000) ⟨#[47, 100]⟩ (by show 2 ≤ _; omega) (w2.alloc o) hs3)
  have HR3 := Lib.hid hr3
  have HB3 := Lib.hid hb13
  have HZ : Hid (w1.heap.size ≤ (w2.alloc o).heap.size) := Lib.hid (Nat.le_trans hb2.size hb3.size)
  clear hs2 hs3 hr2 hr3 hb2 hb3 hb13 HRN HS1
  have hne : ((Value.pointer (some ⟨pb, 0, none⟩) : Value) ≠ .pointer none) := by simp
  subst ho
  go_wp2_with fail
  go_at_call 30
  refine HMk.out.mono ?_
  rintro e w4 ⟨rfl, hs4, hk4⟩
  have hr4 := HR3.out.keep (w' := w4) (fun k hk hl => hk4.block k hl (by omega))
  have hb4 : Below w.heap.size w w4 := HB3.out.trans (hk4.mono HB3.out.size (M' := fun _ => False) (fun k hk h => by omega) |>.below (fun _ _ h => h))
  have HS4 : Hid (IsStore pb mb st0 w4) := Lib.hid hs4
  have hz4 : w1.heap.size ≤ w4.heap.size := Nat.le_trans HZ.out hk4.size
  have HRM := Lib.hid (refMkdir_any ⟨#[47, 100]⟩ (by show 2 ≤ _; omega) w4 hz4 hr4)
  have HB4 := Lib.hid hb4
  clear hs4 hk4 hr4 hb4
  go_wp2_with fail
  go_at_call 31
  refine HRM.out.mono ?_
  rintro e w5 ⟨⟨n, rfl⟩, ⟨l, hr5⟩, hb5⟩
  have HF : Hid (IsStore pb mb st0 w5 ∧ RefAt w1.heap.size w2.heap.size l w5 ∧ Below w.heap.size w w5) := Lib.hid ⟨HS4.out.keep (fun k hk => hb5.block k (by omega)), hr5, HB4.out.trans (hb5.mono hz1)⟩
  clear hr5 hb5
  go_wp2
  go_loop [25] (fun v25 => v25 = .int .i64 0) (fun _ => 0)
  case atStart => rfl
  case round =>
    obtain rfl := hrel
    go_wp2
    go_ret2
    exact ⟨pb, mb, _, l, w1.heap.size, rfl, hpb, hmb, hz1, hl1, hl2, HF.out.1, HF.out.2.1, HF.out.2.2⟩
end Go.Proofs.YtmagggflamdahaaGreatDoor

namespace Go.Proofs.YtmagggflamdahaaGreatDoor
open Go.RowKit

theorem errS_bad : errS [97, 32, 38, 38] = 3 := by unfold errS; rw [read_bad]

set_option maxHeartbeats 4000000 in
set_option maxRecDepth 100000 in
theorem alive_any (w : World) : Calls Tryz.prog 9 #[] w fun e w' => e = .returned (.bool true) ∧ Below w.heap.size w w' := by
  have HN := Lib.hid (stores_nil w)
  go_enter Tryz.func9, Tryz.ntmps9
  go_wp2_with fail
  go_at_call 11
  refine HN.out.mono ?_
  rintro e w1 ⟨pb, mb, rb, l, B, rfl, hpb, hmb, hB, hpB, hmB, hs1, hr1, hb1⟩
  have HRun : Hid (Calls Tryz.prog 12 #[.string ⟨#[101, 99, 104, 111, 32, 97, 32, 98, 32, 62, 32, 102, 32, 38, 38, 32, 99, 97, 116, 32, 102, 32, 124, 124, 32, 102, 97, 108, 115, 101]⟩, .pointer (some ⟨pb, 0, none⟩), .int .i64 9] w1 fun e w' => e = .returned (.tuple #[.int .i64 0, .string ⟨#[97, 32, 98, 10]⟩, .int .i64 0]) ∧ Keeps w1.heap.size (fun k => k = pb ∨ k = mb) w1 w') := Lib.hid (by
    refine (run_any runA_ok pb mb st0 ⟨#[101, 99, 104, 111, 32, 97, 32, 98, 32, 62, 32, 102, 32, 38, 38, 32, 99, 97, 116, 32, 102, 32, 124, 124, 32, 102, 97, 108, 115, 101]⟩ (by show 30 ≤ _; omega) ok_alive 9 (by omega) w1 hs1).mono ?_
    rintro e w' ⟨rfl, -, hk⟩
    have h := run_alive
    refine ⟨?_, hk⟩
    show Ending.returned (.tuple #[.int .i64 (runF runA st0 aliveL 9).2.1, .string ⟨(runF runA st0 aliveL 9).2.2.1.toArray⟩, .int .i64 (runF runA st0 aliveL 9).2.2.2]) = _
    rw [h])
  have HB1 := Lib.hid hb1
  clear hs1 hr1 hb1
  go_wp2_with fail
  go_at_call 12
  refine HRun.out.mono ?_
  rintro e w2 ⟨rfl, hk2⟩
  have HB2 : Hid (Below w.heap.size w w2) := Lib.hid (HB1.out.trans ((hk2.mono HB1.out.size (M' := fun _ => False) (fun k hk h => by omega)).below (fun _ _ h => h)))
  have HC := Lib.hid (check_any ⟨#[97, 32, 38, 38]⟩ (by show 4 ≤ _; omega) w2)
  clear hk2
  go_wp2_with fail
  go_at_call 7
  refine HC.out.mono ?_
  rintro e w3 ⟨rfl, hb3⟩
  have hE : errS (⟨#[97, 32, 38, 38]⟩ : ByteArray).data.toList = 3 := errS_bad
  rw [hE]
  have HB3 := Lib.hid (HB2.out.trans (hb3.mono HB2.out.size))
  clear hb3 hE
  go_wp2
  go_ret
  exact ⟨rfl, HB3.out⟩
end Go.Proofs.YtmagggflamdahaaGreatDoor

namespace Go.Proofs.YtmagggflamdahaaGreatDoor
open Go.RowKit

/-- a process that nobody made -/
def Nobody (pv : Value) (w : World) : Prop := pv = .pointer none ∨ ∃ b, pv = .pointer (some ⟨b, 0, none⟩) ∧ w.cell? ⟨b, 0, none⟩ = some (.bool false)
set_option maxHeartbeats 1000000 in
set_option maxRecDepth 100000 in
theorem ok_nobody (pv : Value) (w : World) (h : Nobody pv w) : Calls Tryz.prog 36 #[pv] w fun e w' => e = .returned (.bool false) ∧ w = w' := by
  rcases h with rfl | ⟨b, rfl, hb⟩
  · go_enter Tryz.func36, Tryz.ntmps36
    go_wp2
    go_ret
    exact ⟨rfl, rfl⟩
  · go_enter Tryz.func36, Tryz.ntmps36
    go_wp2
    go_ret
    exact ⟨rfl, rfl⟩

set_option maxHeartbeats 1000000 in
set_option maxRecDepth 100000 in
theorem step_nobody (pv : Value) (w : World) (h : Nobody pv w) : Calls Tryz.prog 14 #[pv, .pointer none] w fun e w' => e = .returned (.bool true) ∧ w = w' := by
  have HO := Lib.hid (ok_nobody pv w h)
  clear h
  go_enter Tryz.func14, Tryz.ntmps14
  go_wp2_with fail
  go_at_call 36
  refine HO.out.mono ?_
  rintro e w1 ⟨rfl, rfl⟩
  go_wp2
  go_ret
  exact ⟨rfl, rfl⟩

set_option maxHeartbeats 1000000 in
set_option maxRecDepth 100000 in
theorem done_nobody (pv : Value) (w : World) (h : Nobody pv w) : Calls Tryz.prog 15 #[pv] w fun e w' => e = .returned (.bool true) ∧ w = w' := by
  have HO := Lib.hid (ok_nobody pv w h)
  clear h
  go_enter Tryz.func15, Tryz.ntmps15
  go_wp2_with fail
  go_at_call 36
  refine HO.out.mono ?_
  rintro e w1 ⟨rfl, rfl⟩
  go_wp2
  go_ret
  exact ⟨rfl, rfl⟩

set_option maxHeartbeats 1000000 in
set_option maxRecDepth 100000 in
theorem status_nobody (pv : Value) (w : World) (h : Nobody pv w) : Calls Tryz.prog 16 #[pv] w fun e w' => e = .returned (.int .i64 0) ∧ w = w' := by
  have HO := Lib.hid (ok_nobody pv w h)
  clear h
  go_enter Tryz.func16, Tryz.ntmps16
  go_wp2_with fail
  go_at_call 36
  refine HO.out.mono ?_
  rintro e w1 ⟨rfl, rfl⟩
  go_wp2
  go_ret
  exact ⟨rfl, rfl⟩

set_option maxHeartbeats 1000000 in
set_option maxRecDepth 100000 in
theorem says_nobody (pv : Value) (w : World) (h : Nobody pv w) : Calls Tryz.prog 17 #[pv] w fun e w' => e = .returned (.string ⟨#[]⟩) ∧ w = w' := by
  have HO := Lib.hid (ok_nobody pv w h)
  clear h
  go_enter Tryz.func17, Tryz.ntmps17
  go_wp2_with fail
  go_at_call 36
  refine HO.out.mono ?_
  rintro e w1 ⟨rfl, rfl⟩
  go_wp2
  go_ret
  exact ⟨rfl, rfl⟩

set_option maxHeartbeats 1000000 in
set_option maxRecDepth 100000 in
theorem far_nil (s : ByteArray) (w : World) : Calls Tryz.prog 18 #[.string s, .slice none 0 0] w fun e w' => e = .returned (.bool (decide (600 < (s.size : Int)))) ∧ w = w' := by
  have hsl : ∀ W, (Instr.slice 55 (.slice none 0 0) none (some (.int .i64 0)) none).run Tryz.prog W = .ok (.slice none 0 0) W := fun W => by kernel_rfl
  by_cases h : 600 < (s.size : Int)
  · rw [decide_eq_true h]
    go_enter Tryz.func18, Tryz.ntmps18
    go_wp2
    go_loop [5, 16] (fun v5 v16 => v5 = .int .i64 s.size ∧ v16 = .int .i64 0) (fun _ _ => 0)
    case atStart => exact ⟨rfl, rfl⟩
    case round =>
      obtain ⟨rfl, rfl⟩ := hrel
      go_wp2
      go_ret
      exact ⟨rfl, rfl⟩
  · rw [decide_eq_false h]
    go_enter Tryz.func18, Tryz.ntmps18
    go_wp2
    go_loop [5, 16] (fun v5 v16 => v5 = .int .i64 s.size ∧ v16 = .int .i64 0) (fun _ _ => 0)
    case atStart => exact ⟨rfl, rfl⟩
    case round =>
      obtain ⟨rfl, rfl⟩ := hrel
      go_wp2
      go_ret
      exact ⟨by show Ending.returned (.bool (decide (600 < (s.size : Int)))) = _; rw [decide_eq_false (by omega)], rfl⟩
end Go.Proofs.YtmagggflamdahaaGreatDoor
