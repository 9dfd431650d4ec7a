/- bobstaylaw10.alive. -/
import Derived.Test.YtpjmccajkcmmaaaGreatDoorCnWM
import Derived.Test.YtpjmccajkcmmaaaGreatDoorTu
namespace Go.Proofs.YtpjmccajkcmmaaaGreatDoor
open Go.RowKit

/-- what is asked of, where variables were put -/
def mkA (W : World) (vb : Nat) (mb : Nat → Nat) (L : TMap) (f0 : Int) (sp : Option Addr) : AEnv := ⟨W, vb, mb, putAll newVs L, ⟨getS (putAll newVs L), fun _ _ => none⟩, 20, f0, .pointer sp, .slice none 0 0, .slice none 0 0, .slice none 0 0⟩
theorem mkA_ok {W : World} {vb : Nat} {mb : Nat → Nat} {L : TMap} {f0 : Int} (sp : Option Addr) (hv : IsVars vb mb (putAll newVs L) W) (hG : Gl W) (h0 : 0 ≤ f0) (h1 : f0 ≤ 20000) : (mkA W vb mb L f0 sp).OK :=
  ⟨hv, hG, rfl, fun _ _ => rfl, by show _ ≤ f0; omega, by show f0 ≤ _; omega⟩
theorem holds_put (vb : Nat) (mb : Nat → Nat) (L : TMap) (f0 : Int) (sp : Option Addr) (h0 : 0 ≤ f0) (h1 : f0 ≤ 20000) (s : List UInt8) (x : CX) (hx : readC s 12 = some (x, 0, 0)) (r : Bool) (hr : ∀ W, asksA (mkA W vb mb L f0 sp) x (0, 0) = some (r, (0, 0))) (W : World) (hG : Gl W) (hv : IsVars vb mb (putAll newVs L) W) :
    Calls Tryz.prog 9 #[.string ⟨s.toArray⟩, .agg #[.pointer (some ⟨vb, 0, none⟩), .pointer sp, .slice none 0 0, .slice none 0 0, .slice none 0 0, .int .i64 f0]] W fun e w' => e = .returned (.tuple #[.bool r, .agg #[.int .i64 0, .int .i64 0]]) ∧ Below W.heap.size W w' :=
  holds_any (mkA W vb mb L f0 sp) (mkA_ok sp hv hG h0 h1) sp none none none 0 0 0 0 0 0 rfl rfl rfl rfl s 12 x hx r (hr W)

def aliveT : List UInt8 := [100, 101, 102, 105, 110, 101, 100, 40, 65, 41, 32, 38, 38, 32, 36, 123, 65, 125, 32, 62, 32, 51]
def aliveX : CX := ((readC aliveT 12).map (fun q => q.1)).getD .nothing
theorem alive_read : readC aliveT 12 = some (aliveX, 0, 0) := by kernel_rfl
theorem alive_is (W : World) (vb : Nat) (mb : Nat → Nat) (sp : Option Addr) : asksA (mkA W vb mb [([65], [49, 48])] 50 sp) aliveX (0, 0) = some (true, (0, 0)) := by kernel_rfl
theorem alive_not (W : World) (vb : Nat) (mb : Nat → Nat) (sp : Option Addr) : asksA (mkA W vb mb [] 50 sp) aliveX (0, 0) = some (false, (0, 0)) := by kernel_rfl
theorem alive_check : readC [40] 12 = some (((readC [40] 12).map (fun q => q.1)).getD .nothing, 13, ((readC [40] 12).map (fun q => q.2.2)).getD 0) := by kernel_rfl

abbrev wO (vb : Nat) (sp : Option Addr) (f0 : Int) : Obj := .cells #[.pointer (some ⟨vb, 0, none⟩), .pointer sp, .slice none 0 0, .slice none 0 0, .slice none 0 0, .int .i64 f0] 31 (0, 0)
abbrev rO (up rp : Option Addr) (f0 : Int) : Obj := .cells #[.pointer up, .pointer rp, .slice none 0 0, .slice none 0 0, .slice none 0 0, .int .i64 f0] 35 (0, 0)
theorem wO_at {w : World} {b vb : Nat} {sp : Option Addr} {f0 : Int} (h : w.heap[b]? = some (wO vb sp f0)) : w.cell? ⟨b, 0, none⟩ = some (.pointer (some ⟨vb, 0, none⟩)) ∧ w.cell? ⟨b, 1, none⟩ = some (.pointer sp) ∧ w.cell? ⟨b, 2, none⟩ = some (.slice none 0 0) ∧ w.cell? ⟨b, 3, none⟩ = some (.slice none 0 0) ∧ w.cell? ⟨b, 4, none⟩ = some (.slice none 0 0) ∧ w.cell? ⟨b, 5, none⟩ = some (.int .i64 f0) :=
  ⟨Lib.cell_of_heap h 0, Lib.cell_of_heap h 1, Lib.cell_of_heap h 2, Lib.cell_of_heap h 3, Lib.cell_of_heap h 4, Lib.cell_of_heap h 5⟩

set_option maxHeartbeats 8000000 in
set_option maxRecDepth 100000 in
theorem alive_any (w : World) (hG : Gl w) : Calls Tryz.prog 7 #[] w fun e w' => e = .returned (.bool true) ∧ Below w.heap.size w w' := by
  have HW1 : Hid (Calls Tryz.prog 8 #[.agg #[.slice (some ⟨w.heap.size, 0, none⟩) 1 1, .slice none 0 0, .slice none 0 0, .slice none 0 0, .slice none 0 0, .int .i64 50]] (w.alloc (.cells #[.string ⟨#[65]⟩, .string ⟨#[49, 48]⟩] 47)) _) := Lib.hid (worlds_any [([65], [49, 48])] (by decide) (fun p hp => by
      simp only [List.mem_cons, List.not_mem_nil, or_false] at hp
      subst hp
      refine ⟨fun j b h => ?_, by decide, by decide, by decide⟩
      match j, h with
      | 0, h => cases h; decide) (some ⟨w.heap.size, 0, none⟩) 1 50 _ ⟨fun i p h => by
      match i, h with
      | 0, h =>
        cases h
        exact ⟨w.heap.size, rfl, by simp, Lib.cell_of_heap (heap_alloc_new w _) 0, Lib.cell_of_heap (heap_alloc_new w _) 1⟩⟩)
  have HW2 := Lib.hid (fun W => worlds_any [] (by decide) (fun p hp => by cases hp) none 0 50 W ⟨fun i p h => by cases h⟩)
  have HB1 := Lib.hid ((Below.refl w.heap.size w).alloc (Nat.le_refl _) (.cells #[.string ⟨#[65]⟩, .string ⟨#[49, 48]⟩] 47))
  have HG := Lib.hid hG
  have HC := Lib.hid (fun W => check_any ⟨#[40]⟩ 12 _ 13 _ alive_check W)
  obtain ⟨ck, hck⟩ : ∃ ck : Nat, ck = ((readC [40] 12).map (fun q => q.2.2)).getD 0 := ⟨_, rfl⟩
  rw [← hck] at HC
  clear hck hG
  go_enter Tryz.func7, Tryz.ntmps7
  go_wp2_with fail
  go_at_call 8
  refine HW1.out.mono ?_
  rintro e w1 ⟨vb, mb, sp, up, rp, rfl, hv1, hb1⟩
  have hbw := HB1.out.trans (hb1.mono HB1.out.size)
  obtain ⟨W2, hW2⟩ : ∃ W2, W2 = (w1.alloc (.cells #[.pointer (some ⟨vb, 0, none⟩), .pointer sp, .slice none 0 0, .slice none 0 0, .slice none 0 0, .int .i64 50] 31)).alloc (.cells #[.pointer up, .pointer rp, .slice none 0 0, .slice none 0 0, .slice none 0 0, .int .i64 50] 35) := ⟨_, rfl⟩
  have b12 : Below w1.heap.size w1 W2 := by rw [hW2]; exact ((Below.refl _ _).alloc (Nat.le_refl _) _).alloc (by simp) _
  have p12 : W2.heap[w1.heap.size]? = some (wO vb sp 50) := by rw [hW2]; exact heap_alloc2_old w1 _ _
  have HW := Lib.hid (HW2.out W2)
  clear HW1 HW2
  go_wp2_with fail
  rw [← hW2]
  clear hW2
  go_at_call 8
  refine HW.out.mono ?_
  rintro e w2 ⟨vb2, mb2, sp2, up2, rp2, rfl, hv2, hb2⟩
  obtain ⟨W4, hW4⟩ : ∃ W4, W4 = (w2.alloc (.cells #[.pointer (some ⟨vb2, 0, none⟩), .pointer sp2, .slice none 0 0, .slice none 0 0, .slice none 0 0, .int .i64 50] 31)).alloc (.cells #[.pointer up2, .pointer rp2, .slice none 0 0, .slice none 0 0, .slice none 0 0, .int .i64 50] 35) := ⟨_, rfl⟩
  have b24 : Below w2.heap.size w2 W4 := by rw [hW4]; exact ((Below.refl _ _).alloc (Nat.le_refl _) _).alloc (by simp) _
  have p24 : W4.heap[w2.heap.size]? = some (wO vb2 sp2 50) := by rw [hW4]; exact heap_alloc2_old w2 _ _
  have z1 := hbw.size
  have z12 := b12.size
  have z2 := hb2.size
  have l12 := (Array.getElem?_eq_some_iff.1 p12).1
  have p14 : W4.heap[w1.heap.size]? = some (wO vb sp 50) := (b24.block _ (by omega)).trans ((hb2.block _ l12).trans p12)
  have b1w2 : Below w1.heap.size w1 w2 := b12.trans (hb2.mono z12)
  have v14 : IsVars vb mb (putAll newVs [([65], [49, 48])]) W4 := (hv1.below b1w2).below b24
  have v24 : IsVars vb2 mb2 (putAll newVs []) W4 := hv2.below b24
  have bw4 : Below w.heap.size w W4 := (hbw.trans (b1w2.mono z1)).trans (b24.mono (by have := b1w2.size; omega))
  have g4 : Gl W4 := HG.out.below bw4
  have HH1 := Lib.hid (holds_put vb mb [([65], [49, 48])] 50 sp (by omega) (by omega) aliveT aliveX alive_read true (fun W => alive_is W vb mb sp) W4 g4 v14)
  obtain ⟨c0, c1, c2, c3, c4, c5⟩ := wO_at p14
  have HS4 := Lib.hid (And.intro p24 (And.intro v24 (And.intro bw4 g4)))
  rw [hW4] at c0 c1 c2 c3 c4 c5
  clear hbw b12 p12 b24 p24 z1 z12 z2 l12 p14 b1w2 v14 v24 bw4 g4 hv1 hv2 hb1 hb2 HW
  go_wp2_with fail
  rw [← hW4]
  clear hW4 c0 c1 c2 c3 c4 c5
  go_at_call 9
  refine HH1.out.mono ?_
  rintro e w5 ⟨rfl, hb5⟩
  obtain ⟨p24, v24, bw4, g4⟩ := HS4.out
  obtain ⟨W6, hW6⟩ : ∃ W6, W6 = w5.alloc (.cells #[.int .i64 0, .int .i64 0] 40) := ⟨_, rfl⟩
  have b56 : Below w5.heap.size w5 W6 := by rw [hW6]; exact (Below.refl _ _).alloc (Nat.le_refl _) _
  have b46 : Below W4.heap.size W4 W6 := hb5.trans (b56.mono hb5.size)
  have p26 : W6.heap[w2.heap.size]? = some (wO vb2 sp2 50) := (b46.block _ (Array.getElem?_eq_some_iff.1 p24).1).trans p24
  have f6 : W6.heap[w5.heap.size]? = some (.cells #[.int .i64 0, .int .i64 0] 40 (0, 0)) := by rw [hW6]; exact heap_alloc_new w5 _
  have HH2 := Lib.hid (holds_put vb2 mb2 [] 50 sp2 (by omega) (by omega) aliveT aliveX alive_read false (fun W => alive_not W vb2 mb2 sp2) W6 (g4.below b46) (v24.below b46))
  have HS6 := Lib.hid (And.intro f6 (bw4.trans (b46.mono bw4.size)))
  obtain ⟨c0, c1, c2, c3, c4, c5⟩ := wO_at p26
  rw [hW6] at c0 c1 c2 c3 c4 c5
  clear p24 v24 bw4 g4 b56 b46 p26 f6 HS4 HH1 hb5
  go_wp2_with fail
  rw [← hW6]
  clear hW6 c0 c1 c2 c3 c4 c5
  go_at_call 9
  refine HH2.out.mono ?_
  rintro e w7 ⟨rfl, hb7⟩
  obtain ⟨f6, bw6⟩ := HS6.out
  obtain ⟨W8, hW8⟩ : ∃ W8, W8 = w7.alloc (.cells #[.int .i64 0, .int .i64 0] 40) := ⟨_, rfl⟩
  have b78 : Below w7.heap.size w7 W8 := by rw [hW8]; exact (Below.refl _ _).alloc (Nat.le_refl _) _
  have b68 : Below W6.heap.size W6 W8 := hb7.trans (b78.mono hb7.size)
  have f68 := (b68.block _ (Array.getElem?_eq_some_iff.1 f6).1).trans f6
  have d0 : W8.cell? ⟨w5.heap.size, 0, none⟩ = some (.int .i64 0) := Lib.cell_of_heap f68 0
  have d1 : W8.cell? ⟨w5.heap.size, 1, none⟩ = some (.int .i64 0) := Lib.cell_of_heap f68 1
  have HB8 := Lib.hid (bw6.trans (b68.mono bw6.size))
  have hq := fun W => fault_eq 0 0 W
  have hq2 := fun W => fault_ne 13 (ck : Int) W
  rw [hW8] at d0 d1
  clear f6 bw6 b78 b68 f68 HS6 HH2 hb7
  go_wp2_with fail
  rw [← hW8]
  go_at_call 10
  refine (HC.out W8).mono ?_
  rintro e w9 ⟨rfl, hb9⟩
  have hb := HB8.out.trans (hb9.mono HB8.out.size)
  clear hb9 hW8 d0 d1
  go_wp2
  go_ret
  exact ⟨rfl, hb⟩
end Go.Proofs.YtpjmccajkcmmaaaGreatDoor
