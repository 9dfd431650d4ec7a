/- cond.reader: part. cond.reader: part with a '!'. cond.reader: part with brackets. -/
import Derived.Test.YtpjmccajkcmmaaaGreatDoorTl
import Derived.StillTailTactics
namespace Go.Proofs.YtpjmccajkcmmaaaGreatDoor
open Go.RowKit

def PartOK (l : List UInt8) (n : Nat) : Prop := ∀ (rb : Nat) (r : CR) (w : World) (x : CX) (r2 : CR), IsRd rb l r w → partC l n r = some (x, r2) → Calls Tryz.prog 71 #[.pointer (some ⟨rb, 0, none⟩)] w (RdK rb l r2 (exprV x) w)
def PartsOK (l : List UInt8) (n : Nat) : Prop := ∀ (rb : Nat) (r : CR) (w : World) (x : CX) (r2 : CR), IsRd rb l r w → partsC l n r = some (x, r2) → Calls Tryz.prog 51 #[.pointer (some ⟨rb, 0, none⟩)] w (RdK rb l r2 (exprV x) w)
def WaysOK (l : List UInt8) (n : Nat) : Prop := ∀ (rb : Nat) (r : CR) (w : World) (x : CX) (r2 : CR), IsRd rb l r w → waysC l n r = some (x, r2) → Calls Tryz.prog 38 #[.pointer (some ⟨rb, 0, none⟩)] w (RdK rb l r2 (exprV x) w)

theorem IsRd.setOp {rb : Nat} {l : List UInt8} {r : CR} {w : World} (h : IsRd rb l r w) (n : Nat) (hn : n ≤ 32) : IsRd rb l { r with op := n } (w.setCell ⟨rb, 2, none⟩ (.int .i64 (n : Int))) := ⟨heap_set h.cells 2 _, h.at_le, h.len, h.flt, hn⟩
def boxObj (rb : Nat) : Obj := .cells #[.pointer (some ⟨rb, 0, none⟩)] 109 (0, 0)
theorem SdJ.setOp {rb b : Nat} {o : Obj} {l : List UInt8} {w W : World} {r : CR} (h : SdJ rb b o l w r W) (hb : w.heap.size ≤ b) (hlt : rb < w.heap.size) (n : Nat) (hn : n ≤ 32) : SdJ rb b o l w { r with op := n } (W.setCell ⟨rb, 2, none⟩ (.int .i64 (n : Int))) :=
  ⟨h.rd.setOp n hn, h.keeps.setCell (p := ⟨rb, 2, none⟩) (.inr rfl) _, (Below.heap_setCell W ⟨rb, 2, none⟩ _ b (by show b ≠ rb; omega)).trans h.box⟩
theorem SdJ.ptr {rb b : Nat} {l : List UInt8} {w W : World} {r : CR} (h : SdJ rb b (boxObj rb) l w r W) : W.cell? ⟨b, 0, none⟩ = some (.pointer (some ⟨rb, 0, none⟩)) := Lib.cell_of_heap h.box 0

theorem exprV_shape (x : CX) : exprV x = .nilIface ∨ ∃ t v, exprV x = .iface t v := by
  cases x with
  | nothing => left; rw [exprV]
  | either a b => right; exact ⟨_, _, by rw [exprV]⟩
  | all a b => right; exact ⟨_, _, by rw [exprV]⟩
  | neg x => right; exact ⟨_, _, by rw [exprV]⟩
  | call w x a => right; exact ⟨_, _, by rw [exprV]⟩
  | cmp op a aq b bq t => right; exact ⟨_, _, by rw [exprV]⟩

set_option maxHeartbeats 1000000 in
set_option maxRecDepth 100000 in
/-- the deferred closure: one bracket less is open -/
theorem less_any {rb b : Nat} {l : List UInt8} {w W : World} {r : CR} (u : FrameMode) (h : SdJ rb b (boxObj rb) l w r W) (h1 : 1 ≤ r.op) :
    CallsD Tryz.prog 97 #[.pointer (some ⟨b, 0, none⟩)] u W fun e u' w' => u' = u ∧ (e = .returned (.tuple #[]) ∧ w' = W.setCell ⟨rb, 2, none⟩ (.int .i64 ((r.op - 1 : Nat) : Int))) := by
  have c0 := h.ptr
  have c2 : W.cell? ⟨rb, 2, none⟩ = some (.int .i64 ((r.op : Nat) : Int)) := Lib.cell_of_heap h.rd.cells 2
  have f2 : W.frozen? ⟨rb, 2, none⟩ = false := Lib.frozen_of_heap h.rd.cells 2
  have hop := h.rd.op_le
  obtain ⟨k, hk⟩ : ∃ k, k = r.op - 1 := ⟨_, rfl⟩
  have hwr : IntKind.i64.wrap (((r.op : Nat) : Int) - 1) = (k : Int) := by rw [IntKind.wrap_i64]; omega
  rw [← hk]
  clear hop h1 h hk
  go_enter_d Tryz.func97, Tryz.ntmps97
  go_wp2
  go_end0
  exact ⟨rfl, rfl⟩

/-- the start of a part: the box, the blanks, the first sign -/
theorem box_start {rb : Nat} {l : List UInt8} {r : CR} {w : World} (h : IsRd rb l r w) : SdJ rb w.heap.size (boxObj rb) l w r (w.alloc (.cells #[.pointer (some ⟨rb, 0, none⟩)] 109)) :=
  ⟨h.below ((Below.refl _ _).alloc (Nat.le_refl _) _), Keeps.of ((Below.refl _ _).alloc (Nat.le_refl _) _) _, heap_alloc_new w _⟩

set_option maxHeartbeats 4000000 in
set_option maxRecDepth 100000 in
/-- a part with neither sign: a test -/
theorem partTest_any {rb : Nat} {l : List UInt8} {r : CR} (w : World) (h : IsRd rb l r w) (hb : (takeC l [33] (r.rest l)).1 = false) (hp : (takeC l [40] (takeC l [33] (r.rest l)).2).1 = false) :
    Calls Tryz.prog 71 #[.pointer (some ⟨rb, 0, none⟩)] w (RdK rb l (testC l (r.rest l).at' (takeC l [40] (takeC l [33] (r.rest l)).2).2).2 (exprV (testC l (r.rest l).at' (takeC l [40] (takeC l [33] (r.rest l)).2).2).1) w) := by
  have HJ0 := Lib.hid (box_start h)
  have HLT := Lib.hid h.lt
  have HR := Lib.hid (fun W (h : IsRd rb l r W) => rest_any W h)
  unfold RdK at HR
  generalize hr0 : r.rest l = r0 at hb hp HR ⊢
  have HT1 := Lib.hid (fun W (h : IsRd rb l r0 W) => take_any (t := ⟨#[33]⟩) W h)
  change Hid (∀ W, IsRd rb l r0 W → Calls _ _ _ _ fun e w' => e = .returned (.bool (takeC l [33] r0).1) ∧ IsRd rb l (takeC l [33] r0).2 w' ∧ Keeps W.heap.size (fun k => k = rb) W w') at HT1
  rw [hb] at HT1
  generalize (takeC l [33] r0).2 = r1 at HT1 hp ⊢
  have HT2 := Lib.hid (fun W (h : IsRd rb l r1 W) => take_any (t := ⟨#[40]⟩) W h)
  change Hid (∀ W, IsRd rb l r1 W → Calls _ _ _ _ fun e w' => e = .returned (.bool (takeC l [40] r1).1) ∧ IsRd rb l (takeC l [40] r1).2 w' ∧ Keeps W.heap.size (fun k => k = rb) W w') at HT2
  rw [hp] at HT2
  generalize (takeC l [40] r1).2 = r2 at HT2 ⊢
  have HTe := Lib.hid (fun W (h : IsRd rb l r2 W) => test_any r0.at' W h)
  have HU : Hid (∀ w v, RdK rb l (testC l r0.at' r2).2 v w = fun e w' => e = .returned v ∧ IsRd rb l (testC l r0.at' r2).2 w' ∧ Keeps w.heap.size (fun k => k = rb) w w') := Lib.hid (fun w v => rfl)
  generalize testC l r0.at' r2 = q at HTe HU ⊢
  unfold RdK at HTe
  rw [HU.out]
  clear h hb hp HU hr0
  go_enter Tryz.func71, Tryz.ntmps71
  have p0 := HJ0.out.ptr
  have HR0 := Lib.hid (HR.out _ HJ0.out.rd)
  go_wp2_with fail
  go_at_call 40
  refine HR0.out.mono ?_
  rintro e w1 ⟨rfl, hi1, hk1⟩
  have hJ1 := HJ0.out.step (Nat.le_refl _) HLT.out hi1 hk1
  have p1 := hJ1.ptr
  have d1 : w1.cell? ⟨rb, 1, none⟩ = some (.int .i64 ((r0.at' : Nat) : Int)) := Lib.cell_of_heap hi1.cells 1
  have HT1' := Lib.hid (HT1.out _ hi1)
  have HJ1 := Lib.hid hJ1
  clear hi1 hk1 hJ1
  go_wp2_with fail
  go_at_call 52
  refine HT1'.out.mono ?_
  rintro e w2 ⟨rfl, hi2, hk2⟩
  have hJ2 := HJ1.out.step (Nat.le_refl _) HLT.out hi2 hk2
  have p2 := hJ2.ptr
  have HT2' := Lib.hid (HT2.out _ hi2)
  have HJ2 := Lib.hid hJ2
  clear hi2 hk2 hJ2
  go_wp2_with fail
  go_at_call 52
  refine HT2'.out.mono ?_
  rintro e w3 ⟨rfl, hi3, hk3⟩
  have hJ3 := HJ2.out.step (Nat.le_refl _) HLT.out hi3 hk3
  have p3 := hJ3.ptr
  have HTe' := Lib.hid (HTe.out _ hi3)
  have HJ3 := Lib.hid hJ3
  clear hi3 hk3 hJ3
  go_wp2_with fail
  go_at_call 96
  refine HTe'.out.mono ?_
  rintro e w4 ⟨rfl, hi4, hk4⟩
  have HJ4 := Lib.hid (HJ3.out.step (Nat.le_refl _) HLT.out hi4 hk4)
  clear hi4 hk4
  go_wp2
  go_ret
  exact ⟨rfl, HJ4.out.rd, HJ4.out.keeps⟩
end Go.Proofs.YtpjmccajkcmmaaaGreatDoor

namespace Go.Proofs.YtpjmccajkcmmaaaGreatDoor
open Go.RowKit

set_option maxHeartbeats 4000000 in
set_option maxRecDepth 100000 in
/-- '!', but too many are open -/
theorem partMany_any {rb : Nat} {l : List UInt8} {r : CR} (w : World) (h : IsRd rb l r w) (hb : (takeC l [33] (r.rest l)).1 = true) (hop : (takeC l [33] (r.rest l)).2.op = 32) :
    Calls Tryz.prog 71 #[.pointer (some ⟨rb, 0, none⟩)] w (RdK rb l ((takeC l [33] (r.rest l)).2.wrong 5 (r.rest l).at') .nilIface w) := by
  have HJ0 := Lib.hid (box_start h)
  have HLT := Lib.hid h.lt
  have HR := Lib.hid (fun W (h : IsRd rb l r W) => rest_any W h)
  unfold RdK at HR
  generalize hr0 : r.rest l = r0 at hb hop HR ⊢
  have HT1 := Lib.hid (fun W (h : IsRd rb l r0 W) => take_any (t := ⟨#[33]⟩) W h)
  change Hid (∀ W, IsRd rb l r0 W → Calls _ _ _ _ fun e w' => e = .returned (.bool (takeC l [33] r0).1) ∧ IsRd rb l (takeC l [33] r0).2 w' ∧ Keeps W.heap.size (fun k => k = rb) W w') at HT1
  rw [hb] at HT1
  generalize (takeC l [33] r0).2 = r1 at HT1 hop ⊢
  have HWr := Lib.hid (fun W (h : IsRd rb l r1 W) => wrong_any 5 (by decide) r0.at' W h)
  have HU : Hid (∀ w v, RdK rb l (r1.wrong 5 r0.at') v w = fun e w' => e = .returned v ∧ IsRd rb l (r1.wrong 5 r0.at') w' ∧ Keeps w.heap.size (fun k => k = rb) w w') := Lib.hid (fun w v => rfl)
  generalize r1.wrong 5 r0.at' = q at HWr HU ⊢
  unfold RdK at HWr
  rw [HU.out]
  clear h hb HU hr0
  go_enter Tryz.func71, Tryz.ntmps71
  have p0 := HJ0.out.ptr
  have HR0 := Lib.hid (HR.out _ HJ0.out.rd)
  go_wp2_with fail
  go_at_call 40
  refine HR0.out.mono ?_
  rintro e w1 ⟨rfl, hi1, hk1⟩
  have hJ1 := HJ0.out.step (Nat.le_refl _) HLT.out hi1 hk1
  have p1 := hJ1.ptr
  have d1 : w1.cell? ⟨rb, 1, none⟩ = some (.int .i64 ((r0.at' : Nat) : Int)) := Lib.cell_of_heap hi1.cells 1
  have HT1' := Lib.hid (HT1.out _ hi1)
  have HJ1 := Lib.hid hJ1
  clear hi1 hk1 hJ1
  go_wp2_with fail
  go_at_call 52
  refine HT1'.out.mono ?_
  rintro e w2 ⟨rfl, hi2, hk2⟩
  have hJ2 := HJ1.out.step (Nat.le_refl _) HLT.out hi2 hk2
  have p2 := hJ2.ptr
  have o2 : w2.cell? ⟨rb, 2, none⟩ = some (.int .i64 32) := by have h : w2.cell? ⟨rb, 2, none⟩ = some (.int .i64 ((r1.op : Nat) : Int)) := Lib.cell_of_heap hi2.cells 2; rw [hop] at h; exact h
  have HWr2 := Lib.hid (HWr.out _ hi2)
  have HJ2 := Lib.hid hJ2
  clear hi2 hk2 hJ2 hop
  go_wp2_with fail
  go_at_call 41
  refine HWr2.out.mono ?_
  rintro e w3 ⟨rfl, hi3, hk3⟩
  have HJ3 := Lib.hid (HJ2.out.step (Nat.le_refl _) HLT.out hi3 hk3)
  clear hi3 hk3
  go_wp2
  go_ret
  exact ⟨rfl, HJ3.out.rd, HJ3.out.keeps⟩

set_option maxHeartbeats 4000000 in
set_option maxRecDepth 100000 in
/-- '!' and a part -/
theorem partNot_any {rb : Nat} {l : List UInt8} {n : Nat} (HP : PartOK l n) {r : CR} (w : World) (h : IsRd rb l r w) (hb : (takeC l [33] (r.rest l)).1 = true) (hop : (takeC l [33] (r.rest l)).2.op ≠ 32)
    (x : CX) (r2 : CR) (hx : partC l n { (takeC l [33] (r.rest l)).2 with op := (takeC l [33] (r.rest l)).2.op + 1 } = some (x, r2)) :
    Calls Tryz.prog 71 #[.pointer (some ⟨rb, 0, none⟩)] w (RdK rb l { r2 with op := r2.op - 1 } (exprV (.neg x)) w) := by
  have HJ0 := Lib.hid (box_start h)
  have HLT := Lib.hid h.lt
  have HR := Lib.hid (fun W (h : IsRd rb l r W) => rest_any W h)
  unfold RdK at HR
  have ho2 := (reads_op l n).2.2.2.2 _ _ _ hx
  generalize hr0 : r.rest l = r0 at hb hop HR hx ho2 ⊢
  have HT1 := Lib.hid (fun W (h : IsRd rb l r0 W) => take_any (t := ⟨#[33]⟩) W h)
  change Hid (∀ W, IsRd rb l r0 W → Calls _ _ _ _ fun e w' => e = .returned (.bool (takeC l [33] r0).1) ∧ IsRd rb l (takeC l [33] r0).2 w' ∧ Keeps W.heap.size (fun k => k = rb) W w') at HT1
  rw [hb] at HT1
  generalize (takeC l [33] r0).2 = r1 at HT1 hop hx ho2 ⊢
  obtain ⟨m, hm⟩ : ∃ m, m = r1.op + 1 := ⟨_, rfl⟩
  rw [← hm] at hx
  have ho3 : 1 ≤ r2.op := by rw [ho2]; show 1 ≤ r1.op + 1; omega
  have HPt := Lib.hid (fun W (h : IsRd rb l { r1 with op := m } W) => HP rb _ W x r2 h hx)
  unfold RdK at HPt
  have HU : Hid (∀ w v, RdK rb l { r2 with op := r2.op - 1 } v w = fun e w' => e = .returned v ∧ IsRd rb l { r2 with op := r2.op - 1 } w' ∧ Keeps w.heap.size (fun k => k = rb) w w') := Lib.hid (fun w v => rfl)
  rw [HU.out]
  have hv : exprV (.neg x) = .iface 119 (.agg #[exprV x]) := by rw [exprV]
  rw [hv]
  have hsh := exprV_shape x
  generalize exprV x = xv at HPt hsh ⊢
  have HO3 := Lib.hid ho3
  have hmf : ∀ (fn : Fn) (first cap : Array Value) (w : World), (Instr.makeFunc fn first cap).run Tryz.prog w = .ok (.func fn first cap) w := fun _ _ _ _ => rfl
  clear h hb HU hr0 hx ho2 ho3 hv
  go_enter_defers Tryz.func71, Tryz.ntmps71
  have p0 := HJ0.out.ptr
  have HR0 := Lib.hid (HR.out _ HJ0.out.rd)
  go_wp2_with fail
  go_at_call 40
  refine HR0.out.mono ?_
  rintro e w1 ⟨rfl, hi1, hk1⟩
  have hJ1 := HJ0.out.step (Nat.le_refl _) HLT.out hi1 hk1
  have p1 := hJ1.ptr
  have d1 : w1.cell? ⟨rb, 1, none⟩ = some (.int .i64 ((r0.at' : Nat) : Int)) := Lib.cell_of_heap hi1.cells 1
  have HT1' := Lib.hid (HT1.out _ hi1)
  have HJ1 := Lib.hid hJ1
  clear hi1 hk1 hJ1
  go_wp2_with fail
  go_at_call 52
  refine HT1'.out.mono ?_
  rintro e w2 ⟨rfl, hi2, hk2⟩
  have hJ2 := HJ1.out.step (Nat.le_refl _) HLT.out hi2 hk2
  have p2 := hJ2.ptr
  have o2 : w2.cell? ⟨rb, 2, none⟩ = some (.int .i64 ((r1.op : Nat) : Int)) := Lib.cell_of_heap hi2.cells 2
  have f2 : w2.frozen? ⟨rb, 2, none⟩ = false := Lib.frozen_of_heap hi2.cells 2
  have hop2 : (((r1.op : Nat) : Int) == 32) = false := beq_eq_false_iff_ne.2 (by omega)
  have hople := hi2.op_le
  have hwr : IntKind.i64.wrap (((r1.op : Nat) : Int) + 1) = (m : Int) := by rw [IntKind.wrap_i64]; omega
  have hJ3 := hJ2.setOp (Nat.le_refl _) HLT.out m (by omega)
  have p3 := hJ3.ptr
  have HP3 := Lib.hid (HPt.out _ hJ3.rd)
  have HJ3 := Lib.hid hJ3
  clear hi2 hk2 hJ2 hop hople hm hJ3
  go_wp2_with fail
  go_at_call 71
  refine HP3.out.mono ?_
  rintro e w4 ⟨rfl, hi4, hk4⟩
  have HJ4 := Lib.hid (HJ3.out.step (Nat.le_refl _) HLT.out hi4 hk4)
  have p4 := HJ4.out.ptr
  clear hi4 hk4
  rcases hsh with rfl | ⟨vt, vv, rfl⟩
  all_goals
    go_wp2
    refine leaves_cons (f := 97) (args := #[.pointer (some ⟨w.heap.size, 0, none⟩)]) (by simp) (by simp [go_sem]) ?_
    refine (less_any _ HJ4.out HO3.out).mono ?_
    rintro e u' w'' ⟨rfl, rfl, rfl⟩
    have hJ5 := HJ4.out.setOp (Nat.le_refl _) HLT.out (r2.op - 1) (by have := HJ4.out.rd.op_le; omega)
    exact ⟨_, results_tmp rfl _ _ _, rfl, hJ5.rd, hJ5.keeps⟩
end Go.Proofs.YtpjmccajkcmmaaaGreatDoor

namespace Go.Proofs.YtpjmccajkcmmaaaGreatDoor
open Go.RowKit

/-- the end of a part whose bracket is not shut -/
def cutC (l : List UInt8) (a : Nat) (r : CR) : CR := if l.drop r.at' = [] then r.wrong 13 a else r

set_option maxHeartbeats 4000000 in
set_option maxRecDepth 100000 in
/-- '(', but too many are open -/
theorem partMany2_any {rb : Nat} {l : List UInt8} {r : CR} (w : World) (h : IsRd rb l r w) (hb : (takeC l [33] (r.rest l)).1 = false) (hp : (takeC l [40] (takeC l [33] (r.rest l)).2).1 = true) (hop : (takeC l [40] (takeC l [33] (r.rest l)).2).2.op = 32) :
    Calls Tryz.prog 71 #[.pointer (some ⟨rb, 0, none⟩)] w (RdK rb l ((takeC l [40] (takeC l [33] (r.rest l)).2).2.wrong 5 (r.rest l).at') .nilIface w) := by
  have HJ0 := Lib.hid (box_start h)
  have HLT := Lib.hid h.lt
  have HR := Lib.hid (fun W (h : IsRd rb l r W) => rest_any W h)
  unfold RdK at HR
  generalize hr0 : r.rest l = r0 at hb hp hop HR ⊢
  have HT1 := Lib.hid (fun W (h : IsRd rb l r0 W) => take_any (t := ⟨#[33]⟩) W h)
  change Hid (∀ W, IsRd rb l r0 W → Calls _ _ _ _ fun e w' => e = .returned (.bool (takeC l [33] r0).1) ∧ IsRd rb l (takeC l [33] r0).2 w' ∧ Keeps W.heap.size (fun k => k = rb) W w') at HT1
  rw [hb] at HT1
  generalize (takeC l [33] r0).2 = r1' at HT1 hp hop ⊢
  have HT2 := Lib.hid (fun W (h : IsRd rb l r1' W) => take_any (t := ⟨#[40]⟩) W h)
  change Hid (∀ W, IsRd rb l r1' W → Calls _ _ _ _ fun e w' => e = .returned (.bool (takeC l [40] r1').1) ∧ IsRd rb l (takeC l [40] r1').2 w' ∧ Keeps W.heap.size (fun k => k = rb) W w') at HT2
  rw [hp] at HT2
  generalize (takeC l [40] r1').2 = r1 at HT2 hop ⊢
  have HWr := Lib.hid (fun W (h : IsRd rb l r1 W) => wrong_any 5 (by decide) r0.at' W h)
  have HU : Hid (∀ w v, RdK rb l (r1.wrong 5 r0.at') v w = fun e w' => e = .returned v ∧ IsRd rb l (r1.wrong 5 r0.at') w' ∧ Keeps w.heap.size (fun k => k = rb) w w') := Lib.hid (fun w v => rfl)
  generalize r1.wrong 5 r0.at' = q at HWr HU ⊢
  unfold RdK at HWr
  rw [HU.out]
  clear h hb hp HU hr0
  go_enter Tryz.func71, Tryz.ntmps71
  have p0 := HJ0.out.ptr
  have HR0 := Lib.hid (HR.out _ HJ0.out.rd)
  go_wp2_with fail
  go_at_call 40
  refine HR0.out.mono ?_
  rintro e w1 ⟨rfl, hi1, hk1⟩
  have hJ1 := HJ0.out.step (Nat.le_refl _) HLT.out hi1 hk1
  have p1 := hJ1.ptr
  have d1 : w1.cell? ⟨rb, 1, none⟩ = some (.int .i64 ((r0.at' : Nat) : Int)) := Lib.cell_of_heap hi1.cells 1
  have HT1' := Lib.hid (HT1.out _ hi1)
  have HJ1 := Lib.hid hJ1
  clear hi1 hk1 hJ1
  go_wp2_with fail
  go_at_call 52
  refine HT1'.out.mono ?_
  rintro e w1' ⟨rfl, hi2, hk2⟩
  have hJ2 := HJ1.out.step (Nat.le_refl _) HLT.out hi2 hk2
  have p1' := hJ2.ptr
  have HT2' := Lib.hid (HT2.out _ hi2)
  have HJ2' := Lib.hid hJ2
  clear hi2 hk2 hJ2
  go_wp2_with fail
  go_at_call 52
  refine HT2'.out.mono ?_
  rintro e w2 ⟨rfl, hi2, hk2⟩
  have hJ2 := HJ2'.out.step (Nat.le_refl _) HLT.out hi2 hk2
  have p2 := hJ2.ptr
  have o2 : w2.cell? ⟨rb, 2, none⟩ = some (.int .i64 32) := by have h : w2.cell? ⟨rb, 2, none⟩ = some (.int .i64 ((r1.op : Nat) : Int)) := Lib.cell_of_heap hi2.cells 2; rw [hop] at h; exact h
  have HWr2 := Lib.hid (HWr.out _ hi2)
  have HJ2 := Lib.hid hJ2
  clear hi2 hk2 hJ2 hop
  go_wp2_with fail
  go_at_call 41
  refine HWr2.out.mono ?_
  rintro e w3 ⟨rfl, hi3, hk3⟩
  have HJ3 := Lib.hid (HJ2.out.step (Nat.le_refl _) HLT.out hi3 hk3)
  clear hi3 hk3
  go_wp2
  go_ret
  exact ⟨rfl, HJ3.out.rd, HJ3.out.keeps⟩

set_option maxHeartbeats 4000000 in
set_option maxRecDepth 100000 in
/-- '(' and ways, and ')' -/
theorem partIn_any {rb : Nat} {l : List UInt8} {n : Nat} (HP : WaysOK l n) {r : CR} (w : World) (h : IsRd rb l r w) (hb : (takeC l [33] (r.rest l)).1 = false) (hp : (takeC l [40] (takeC l [33] (r.rest l)).2).1 = true) (hop : (takeC l [40] (takeC l [33] (r.rest l)).2).2.op ≠ 32)
    (x : CX) (r2 : CR) (hx : waysC l n { (takeC l [40] (takeC l [33] (r.rest l)).2).2 with op := (takeC l [40] (takeC l [33] (r.rest l)).2).2.op + 1 } = some (x, r2)) (hq : (takeC l [41] r2).1 = true) :
    Calls Tryz.prog 71 #[.pointer (some ⟨rb, 0, none⟩)] w (RdK rb l { (takeC l [41] r2).2 with op := (takeC l [41] r2).2.op - 1 } (exprV x) w) := by
  have HJ0 := Lib.hid (box_start h)
  have HLT := Lib.hid h.lt
  have HR := Lib.hid (fun W (h : IsRd rb l r W) => rest_any W h)
  unfold RdK at HR
  have ho2 := (reads_op l n).1 _ _ _ hx
  generalize hr0 : r.rest l = r0 at hb hp hop HR hx ho2 ⊢
  have HT1 := Lib.hid (fun W (h : IsRd rb l r0 W) => take_any (t := ⟨#[33]⟩) W h)
  change Hid (∀ W, IsRd rb l r0 W → Calls _ _ _ _ fun e w' => e = .returned (.bool (takeC l [33] r0).1) ∧ IsRd rb l (takeC l [33] r0).2 w' ∧ Keeps W.heap.size (fun k => k = rb) W w') at HT1
  rw [hb] at HT1
  generalize (takeC l [33] r0).2 = r1' at HT1 hp hop hx ho2 ⊢
  have HT2 := Lib.hid (fun W (h : IsRd rb l r1' W) => take_any (t := ⟨#[40]⟩) W h)
  change Hid (∀ W, IsRd rb l r1' W → Calls _ _ _ _ fun e w' => e = .returned (.bool (takeC l [40] r1').1) ∧ IsRd rb l (takeC l [40] r1').2 w' ∧ Keeps W.heap.size (fun k => k = rb) W w') at HT2
  rw [hp] at HT2
  generalize (takeC l [40] r1').2 = r1 at HT2 hop hx ho2 ⊢
  obtain ⟨m, hm⟩ : ∃ m, m = r1.op + 1 := ⟨_, rfl⟩
  rw [← hm] at hx
  have ho3 : 1 ≤ r2.op := by rw [ho2]; show 1 ≤ r1.op + 1; omega
  have HPt := Lib.hid (fun W (h : IsRd rb l { r1 with op := m } W) => HP rb _ W x r2 h hx)
  unfold RdK at HPt
  have HQ := Lib.hid (fun W (h : IsRd rb l r2 W) => take_any (t := ⟨#[41]⟩) W h)
  change Hid (∀ W, IsRd rb l r2 W → Calls _ _ _ _ fun e w' => e = .returned (.bool (takeC l [41] r2).1) ∧ IsRd rb l (takeC l [41] r2).2 w' ∧ Keeps W.heap.size (fun k => k = rb) W w') at HQ
  rw [hq] at HQ
  have ho4 : 1 ≤ (takeC l [41] r2).2.op := by rw [take_op]; exact ho3
  generalize (takeC l [41] r2).2 = r3 at HQ ho4 ⊢
  have HU : Hid (∀ w v, RdK rb l { r3 with op := r3.op - 1 } v w = fun e w' => e = .returned v ∧ IsRd rb l { r3 with op := r3.op - 1 } w' ∧ Keeps w.heap.size (fun k => k = rb) w w') := Lib.hid (fun w v => rfl)
  rw [HU.out]
  generalize exprV x = xv at HPt ⊢
  have HO4 := Lib.hid ho4
  have hmf : ∀ (fn : Fn) (first cap : Array Value) (w : World), (Instr.makeFunc fn first cap).run Tryz.prog w = .ok (.func fn first cap) w := fun _ _ _ _ => rfl
  clear h hb hp hq HU hr0 hx ho2 ho3 ho4
  go_enter_defers Tryz.func71, Tryz.ntmps71
  have p0 := HJ0.out.ptr
  have HR0 := Lib.hid (HR.out _ HJ0.out.rd)
  go_wp2_with fail
  go_at_call 40
  refine HR0.out.mono ?_
  rintro e w1 ⟨rfl, hi1, hk1⟩
  have hJ1 := HJ0.out.step (Nat.le_refl _) HLT.out hi1 hk1
  have p1 := hJ1.ptr
  have d1 : w1.cell? ⟨rb, 1, none⟩ = some (.int .i64 ((r0.at' : Nat) : Int)) := Lib.cell_of_heap hi1.cells 1
  have HT1' := Lib.hid (HT1.out _ hi1)
  have HJ1 := Lib.hid hJ1
  clear hi1 hk1 hJ1
  go_wp2_with fail
  go_at_call 52
  refine HT1'.out.mono ?_
  rintro e w1' ⟨rfl, hi2, hk2⟩
  have hJ2 := HJ1.out.step (Nat.le_refl _) HLT.out hi2 hk2
  have p1' := hJ2.ptr
  have HT2' := Lib.hid (HT2.out _ hi2)
  have HJ2' := Lib.hid hJ2
  clear hi2 hk2 hJ2
  go_wp2_with fail
  go_at_call 52
  refine HT2'.out.mono ?_
  rintro e w2 ⟨rfl, hi2, hk2⟩
  have hJ2 := HJ2'.out.step (Nat.le_refl _) HLT.out hi2 hk2
  have p2 := hJ2.ptr
  have o2 : w2.cell? ⟨rb, 2, none⟩ = some (.int .i64 ((r1.op : Nat) : Int)) := Lib.cell_of_heap hi2.cells 2
  have f2 : w2.frozen? ⟨rb, 2, none⟩ = false := Lib.frozen_of_heap hi2.cells 2
  have hop2 : (((r1.op : Nat) : Int) == 32) = false := beq_eq_false_iff_ne.2 (by omega)
  have hople := hi2.op_le
  have hwr : IntKind.i64.wrap (((r1.op : Nat) : Int) + 1) = (m : Int) := by rw [IntKind.wrap_i64]; omega
  have hJ3 := hJ2.setOp (Nat.le_refl _) HLT.out m (by omega)
  have p3 := hJ3.ptr
  have HP3 := Lib.hid (HPt.out _ hJ3.rd)
  have HJ3 := Lib.hid hJ3
  clear hi2 hk2 hJ2 hop hople hm hJ3
  go_wp2_with fail
  go_at_call 38
  refine HP3.out.mono ?_
  rintro e w4 ⟨rfl, hi4, hk4⟩
  have hJ4 := HJ3.out.step (Nat.le_refl _) HLT.out hi4 hk4
  have p4 := hJ4.ptr
  have HQ4 := Lib.hid (HQ.out _ hi4)
  have HJ4 := Lib.hid hJ4
  clear hi4 hk4 hJ4
  go_wp2_with fail
  go_at_call 52
  refine HQ4.out.mono ?_
  rintro e w5 ⟨rfl, hi5, hk5⟩
  have HJ5 := Lib.hid (HJ4.out.step (Nat.le_refl _) HLT.out hi5 hk5)
  have p5 := HJ5.out.ptr
  clear hi5 hk5
  go_wp2
  refine leaves_cons (f := 97) (args := #[.pointer (some ⟨w.heap.size, 0, none⟩)]) (by simp) (by simp [go_sem]) ?_
  refine (less_any _ HJ5.out HO4.out).mono ?_
  rintro e u' w'' ⟨rfl, rfl, rfl⟩
  have hJ6 := HJ5.out.setOp (Nat.le_refl _) HLT.out (r3.op - 1) (by have := HJ5.out.rd.op_le; omega)
  exact ⟨_, results_tmp rfl _ _ _, rfl, hJ6.rd, hJ6.keeps⟩

set_option maxHeartbeats 4000000 in
set_option maxRecDepth 100000 in
/-- '(' and ways, and no ')' -/
theorem partCut_any {rb : Nat} {l : List UInt8} {n : Nat} (HP : WaysOK l n) {r : CR} (w : World) (h : IsRd rb l r w) (hb : (takeC l [33] (r.rest l)).1 = false) (hp : (takeC l [40] (takeC l [33] (r.rest l)).2).1 = true) (hop : (takeC l [40] (takeC l [33] (r.rest l)).2).2.op ≠ 32)
    (x : CX) (r2 : CR) (hx : waysC l n { (takeC l [40] (takeC l [33] (r.rest l)).2).2 with op := (takeC l [40] (takeC l [33] (r.rest l)).2).2.op + 1 } = some (x, r2)) (hq : (takeC l [41] r2).1 = false) :
    Calls Tryz.prog 71 #[.pointer (some ⟨rb, 0, none⟩)] w (RdK rb l { (cutC l (r.rest l).at' ((takeC l [41] r2).2.rest l)).wrong 13 (cutC l (r.rest l).at' ((takeC l [41] r2).2.rest l)).at' with op := (cutC l (r.rest l).at' ((takeC l [41] r2).2.rest l)).op - 1 } (exprV x) w) := by
  have HJ0 := Lib.hid (box_start h)
  have HLT := Lib.hid h.lt
  have HR := Lib.hid (fun W (h : IsRd rb l r W) => rest_any W h)
  unfold RdK at HR
  have ho2 := (reads_op l n).1 _ _ _ hx
  generalize hr0 : r.rest l = r0 at hb hp hop HR hx ho2 ⊢
  have HT1 := Lib.hid (fun W (h : IsRd rb l r0 W) => take_any (t := ⟨#[33]⟩) W h)
  change Hid (∀ W, IsRd rb l r0 W → Calls _ _ _ _ fun e w' => e = .returned (.bool (takeC l [33] r0).1) ∧ IsRd rb l (takeC l [33] r0).2 w' ∧ Keeps W.heap.size (fun k => k = rb) W w') at HT1
  rw [hb] at HT1
  generalize (takeC l [33] r0).2 = r1' at HT1 hp hop hx ho2 ⊢
  have HT2 := Lib.hid (fun W (h : IsRd rb l r1' W) => take_any (t := ⟨#[40]⟩) W h)
  change Hid (∀ W, IsRd rb l r1' W → Calls _ _ _ _ fun e w' => e = .returned (.bool (takeC l [40] r1').1) ∧ IsRd rb l (takeC l [40] r1').2 w' ∧ Keeps W.heap.size (fun k => k = rb) W w') at HT2
  rw [hp] at HT2
  generalize (takeC l [40] r1').2 = r1 at HT2 hop hx ho2 ⊢
  obtain ⟨m, hm⟩ : ∃ m, m = r1.op + 1 := ⟨_, rfl⟩
  rw [← hm] at hx
  have ho3 : 1 ≤ r2.op := by rw [ho2]; show 1 ≤ r1.op + 1; omega
  have HPt := Lib.hid (fun W (h : IsRd rb l { r1 with op := m } W) => HP rb _ W x r2 h hx)
  unfold RdK at HPt
  have HQ := Lib.hid (fun W (h : IsRd rb l r2 W) => take_any (t := ⟨#[41]⟩) W h)
  change Hid (∀ W, IsRd rb l r2 W → Calls _ _ _ _ fun e w' => e = .returned (.bool (takeC l [41] r2).1) ∧ IsRd rb l (takeC l [41] r2).2 w' ∧ Keeps W.heap.size (fun k => k = rb) W w') at HQ
  rw [hq] at HQ
  have ho4 : 1 ≤ (takeC l [41] r2).2.op := by rw [take_op]; exact ho3
  generalize (takeC l [41] r2).2 = r3 at HQ ho4 ⊢
  have HRs := Lib.hid (fun W (h : IsRd rb l r3 W) => rest_any W h)
  unfold RdK at HRs
  change Hid (∀ W, IsRd rb l r3 W → Calls _ _ _ _ fun e w' => e = .returned (.string ⟨(l.drop (r3.rest l).at').toArray⟩) ∧ IsRd rb l (r3.rest l) w' ∧ Keeps W.heap.size (fun k => k = rb) W w') at HRs
  have ho5 : 1 ≤ (r3.rest l).op := ho4
  generalize r3.rest l = r4 at HRs ho5 ⊢
  have hcut : (l.drop r4.at' = [] ∧ (l.drop r4.at').isEmpty = true ∧ cutC l r0.at' r4 = r4.wrong 13 r0.at') ∨ ((l.drop r4.at').isEmpty = false ∧ cutC l r0.at' r4 = r4) := by
    unfold cutC
    by_cases hd : l.drop r4.at' = []
    · left; rw [hd]; exact ⟨rfl, rfl, if_pos rfl⟩
    · right
      refine ⟨?_, if_neg hd⟩
      cases hx : l.drop r4.at' with
      | nil => exact absurd hx hd
      | cons a b => rfl
  have HWr0 := Lib.hid (fun W (h : IsRd rb l r4 W) => wrong_any 13 (by decide) r0.at' W h)
  unfold RdK at HWr0
  have ho6 : 1 ≤ (cutC l r0.at' r4).op := by rcases hcut with ⟨-, -, h⟩ | ⟨-, h⟩ <;> rw [h]; rw [wrong_op]; exact ho5; exact ho5
  generalize l.drop r4.at' = dr at HRs hcut
  generalize hr5 : cutC l r0.at' r4 = r5 at hcut ho6 ⊢
  have HWr1 := Lib.hid (fun W (h : IsRd rb l r5 W) => wrong_any 13 (by decide) r5.at' W h)
  unfold RdK at HWr1
  have ho7 : 1 ≤ (r5.wrong 13 r5.at').op := by rw [wrong_op]; exact ho6
  rw [← wrong_op r5 13 r5.at']
  generalize r5.wrong 13 r5.at' = r6 at HWr1 ho7 ⊢
  have HU : Hid (∀ w v, RdK rb l { r6 with op := r6.op - 1 } v w = fun e w' => e = .returned v ∧ IsRd rb l { r6 with op := r6.op - 1 } w' ∧ Keeps w.heap.size (fun k => k = rb) w w') := Lib.hid (fun w v => rfl)
  rw [HU.out]
  generalize exprV x = xv at HPt ⊢
  have HO7 := Lib.hid ho7
  have hmf : ∀ (fn : Fn) (first cap : Array Value) (w : World), (Instr.makeFunc fn first cap).run Tryz.prog w = .ok (.func fn first cap) w := fun _ _ _ _ => rfl
  clear h hb hp hq HU hr0 hx ho2 ho3 ho4 ho5 ho6 ho7 hr5
  go_enter_defers Tryz.func71, Tryz.ntmps71
  have p0 := HJ0.out.ptr
  have HR0 := Lib.hid (HR.out _ HJ0.out.rd)
  go_wp2_with fail
  go_at_call 40
  refine HR0.out.mono ?_
  rintro e w1 ⟨rfl, hi1, hk1⟩
  have hJ1 := HJ0.out.step (Nat.le_refl _) HLT.out hi1 hk1
  have p1 := hJ1.ptr
  have d1 : w1.cell? ⟨rb, 1, none⟩ = some (.int .i64 ((r0.at' : Nat) : Int)) := Lib.cell_of_heap hi1.cells 1
  have HT1' := Lib.hid (HT1.out _ hi1)
  have HJ1 := Lib.hid hJ1
  clear hi1 hk1 hJ1
  go_wp2_with fail
  go_at_call 52
  refine HT1'.out.mono ?_
  rintro e w1' ⟨rfl, hi2, hk2⟩
  have hJ2 := HJ1.out.step (Nat.le_refl _) HLT.out hi2 hk2
  have p1' := hJ2.ptr
  have HT2' := Lib.hid (HT2.out _ hi2)
  have HJ2' := Lib.hid hJ2
  clear hi2 hk2 hJ2
  go_wp2_with fail
  go_at_call 52
  refine HT2'.out.mono ?_
  rintro e w2 ⟨rfl, hi2, hk2⟩
  have hJ2 := HJ2'.out.step (Nat.le_refl _) HLT.out hi2 hk2
  have p2 := hJ2.ptr
  have o2 : w2.cell? ⟨rb, 2, none⟩ = some (.int .i64 ((r1.op : Nat) : Int)) := Lib.cell_of_heap hi2.cells 2
  have f2 : w2.frozen? ⟨rb, 2, none⟩ = false := Lib.frozen_of_heap hi2.cells 2
  have hop2 : (((r1.op : Nat) : Int) == 32) = false := beq_eq_false_iff_ne.2 (by omega)
  have hople := hi2.op_le
  have hwr : IntKind.i64.wrap (((r1.op : Nat) : Int) + 1) = (m : Int) := by rw [IntKind.wrap_i64]; omega
  have hJ3 := hJ2.setOp (Nat.le_refl _) HLT.out m (by omega)
  have p3 := hJ3.ptr
  have HP3 := Lib.hid (HPt.out _ hJ3.rd)
  have HJ3 := Lib.hid hJ3
  clear hi2 hk2 hJ2 hop hople hm hJ3
  go_wp2_with fail
  go_at_call 38
  refine HP3.out.mono ?_
  rintro e w4 ⟨rfl, hi4, hk4⟩
  have hJ4 := HJ3.out.step (Nat.le_refl _) HLT.out hi4 hk4
  have p4 := hJ4.ptr
  have HQ4 := Lib.hid (HQ.out _ hi4)
  have HJ4 := Lib.hid hJ4
  clear hi4 hk4 hJ4
  go_wp2_with fail
  go_at_call 52
  refine HQ4.out.mono ?_
  rintro e w5 ⟨rfl, hi5, hk5⟩
  have hJ5 := HJ4.out.step (Nat.le_refl _) HLT.out hi5 hk5
  have p5 := hJ5.ptr
  have HRs5 := Lib.hid (HRs.out _ hi5)
  have HJ5 := Lib.hid hJ5
  clear hi5 hk5 hJ5
  go_wp2_with fail
  go_at_call 40
  refine HRs5.out.mono ?_
  rintro e w6 ⟨rfl, hi6, hk6⟩
  have hJ6 := HJ5.out.step (Nat.le_refl _) HLT.out hi6 hk6
  have p6 := hJ6.ptr
  rcases hcut with ⟨rfl, -, h5⟩ | ⟨hcut, h5⟩
  · subst h5
    have HW6 := Lib.hid (HWr0.out _ hi6)
    have HJ6 := Lib.hid hJ6
    clear hi6 hk6 hJ6
    go_wp2_with fail
    go_at_call 41
    refine HW6.out.mono ?_
    rintro e w7 ⟨rfl, hi7, hk7⟩
    have hJ7 := HJ6.out.step (Nat.le_refl _) HLT.out hi7 hk7
    have p7 := hJ7.ptr
    have d7 : w7.drew.cell? ⟨rb, 1, none⟩ = some (.int .i64 (((r4.wrong 13 r0.at').at' : Nat) : Int)) := Lib.cell_of_heap (w := w7) hi7.cells 1
    have p7' : w7.drew.cell? ⟨w.heap.size, 0, none⟩ = some (.pointer (some ⟨rb, 0, none⟩)) := Lib.cell_of_heap (w := w7) hJ7.box 0
    have HW7 := Lib.hid (HWr1.out w7.drew (hi7.keep rfl))
    have HJ7 : Hid (SdJ rb w.heap.size (boxObj rb) l w (r4.wrong 13 r0.at') w7.drew) := Lib.hid ⟨hJ7.rd.keep rfl, hJ7.keeps.drew, hJ7.box⟩
    clear hi7 hk7 hJ7
    generalize r4.wrong 13 r0.at' = r5 at HWr1 HJ7 HW7 d7
    go_wp2_with fail
    go_still_tail 5, (by kernel_rfl)
    change wpList _ _ _ _ _ w7.drew
    go_wp2_with fail
    go_at_call 41
    refine HW7.out.mono ?_
    rintro e w8 ⟨rfl, hi8, hk8⟩
    have HJ8 := Lib.hid (HJ7.out.step (Nat.le_refl _) HLT.out hi8 hk8)
    clear hi8 hk8
    go_wp2
    refine leaves_cons (f := 97) (args := #[.pointer (some ⟨w.heap.size, 0, none⟩)]) (by simp) (by simp [go_sem]) ?_
    refine (less_any _ HJ8.out HO7.out).mono ?_
    rintro e u' w'' ⟨rfl, rfl, rfl⟩
    have hJ9 := HJ8.out.setOp (Nat.le_refl _) HLT.out (r6.op - 1) (by have := HJ8.out.rd.op_le; omega)
    exact ⟨_, results_tmp rfl _ _ _, rfl, hJ9.rd, hJ9.keeps⟩
  · rw [← h5] at hi6
    rw [← h5] at hJ6
    clear h5
    have d6 : w6.drew.cell? ⟨rb, 1, none⟩ = some (.int .i64 ((r5.at' : Nat) : Int)) := Lib.cell_of_heap (w := w6) hi6.cells 1
    have p6' : w6.drew.cell? ⟨w.heap.size, 0, none⟩ = some (.pointer (some ⟨rb, 0, none⟩)) := Lib.cell_of_heap (w := w6) hJ6.box 0
    have HW6 := Lib.hid (HWr1.out w6.drew (hi6.keep rfl))
    have HJ6 : Hid (SdJ rb w.heap.size (boxObj rb) l w r5 w6.drew) := Lib.hid ⟨hJ6.rd.keep rfl, hJ6.keeps.drew, hJ6.box⟩
    clear hi6 hk6 hJ6
    go_wp2_with fail
    go_still_tail 5, (by kernel_rfl)
    change wpList _ _ _ _ _ w6.drew
    go_wp2_with fail
    go_at_call 41
    refine HW6.out.mono ?_
    rintro e w8 ⟨rfl, hi8, hk8⟩
    have HJ8 := Lib.hid (HJ6.out.step (Nat.le_refl _) HLT.out hi8 hk8)
    clear hi8 hk8
    go_wp2
    refine leaves_cons (f := 97) (args := #[.pointer (some ⟨w.heap.size, 0, none⟩)]) (by simp) (by simp [go_sem]) ?_
    refine (less_any _ HJ8.out HO7.out).mono ?_
    rintro e u' w'' ⟨rfl, rfl, rfl⟩
    have hJ9 := HJ8.out.setOp (Nat.le_refl _) HLT.out (r6.op - 1) (by have := HJ8.out.rd.op_le; omega)
    exact ⟨_, results_tmp rfl _ _ _, rfl, hJ9.rd, hJ9.keeps⟩

end Go.Proofs.YtpjmccajkcmmaaaGreatDoor
