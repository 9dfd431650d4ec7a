/- cond.reader: side. cond.reader: test. cond.reader: test, of sides. cond.reader: part, parts, ways. -/
import Derived.Test.YtpjmccajkcmmaaaGreatDoorTk
import Derived.Test.YtpjmccajkcmmaaaGreatDoorShelf2
import Derived.Defers
namespace Go.Proofs.YtpjmccajkcmmaaaGreatDoor
open Go.RowKit

/-- a reader at rb, since w; and the block b holds o -/
structure SdJ (rb b : Nat) (o : Obj) (l : List UInt8) (w : World) (r : CR) (W : World) : Prop where
  rd : IsRd rb l r W
  keeps : Keeps w.heap.size (fun k => k = rb) w W
  box : W.heap[b]? = some o
theorem SdJ.step {rb b : Nat} {o : Obj} {l : List UInt8} {w W W' : World} {r r' : CR} (h : SdJ rb b o l w r W) (hb : w.heap.size ≤ b) (hlt : rb < w.heap.size) (hi : IsRd rb l r' W') (hk : Keeps W.heap.size (fun k => k = rb) W W') : SdJ rb b o l w r' W' :=
  ⟨hi, h.keeps.trans (hk.mono h.keeps.size (fun _ _ h => h)), (hk.block b (Array.getElem?_eq_some_iff.1 h.box).1 (by omega)).trans h.box⟩

theorem untilGo_in (l stops : List UInt8) (n i : Nat) (hi : i ≤ l.length) : i ≤ (untilGo l stops n i).1 ∧ (untilGo l stops n i).1 ≤ l.length ∧ ((untilGo l stops n i).2.1 = true → (untilGo l stops n i).1 < l.length) := by
  induction n generalizing i with
  | zero => exact ⟨Nat.le_refl _, hi, fun h => by cases h⟩
  | succ n ih =>
    rw [untilGo]
    by_cases hlt : i < l.length
    · rw [List.getElem?_eq_getElem hlt]
      simp only
      split
      · exact ⟨Nat.le_refl _, hi, fun _ => hlt⟩
      · split
        · split
          · exact ⟨Nat.le_refl _, hi, fun h => by cases h⟩
          · have hw := wholeS_le (l.drop i)
            rw [List.length_drop] at hw
            have := ih (i + wholeS (l.drop i)) (by omega)
            exact ⟨by omega, this.2⟩
        · have := ih (i + 1) (by omega)
          exact ⟨by omega, this.2⟩
    · rw [List.getElem?_eq_none (by omega)]
      exact ⟨Nat.le_refl _, hi, fun h => by cases h⟩
/-- where a reader stands behind what 'until' read -/
theorem untilC_in (l stops : List UInt8) (r : CR) (h : r.at' ≤ l.length) : (untilC l stops r).2.2.at' = r.at' ∧ r.at' + (untilC l stops r).1.length ≤ l.length ∧ ((untilC l stops r).2.1 = true → r.at' + (untilC l stops r).1.length < l.length) := by
  have hg := untilGo_in l stops (l.length + 1) r.at' h
  have hw : ∀ i, (r.wrong 13 i).at' = r.at' := fun i => by unfold CR.wrong; cases r.flt <;> rfl
  unfold untilC
  generalize untilGo l stops (l.length + 1) r.at' = q at hg
  obtain ⟨i, b, x⟩ := q
  cases x with
  | some y => exact ⟨hw y, by simpa using h, by simp⟩
  | none =>
    cases b with
    | true =>
      simp only at hg ⊢
      have := hg.2.2 (by trivial)
      simp only [List.length_take, List.length_drop]
      exact ⟨by trivial, by omega, fun _ => by omega⟩
    | false =>
      simp only [List.length_drop]
      exact ⟨by trivial, by omega, by simp⟩
theorem take_pos (l t : List UInt8) (r : CR) (h : (takeC l t r).1 = true) : t.length ≤ (takeC l t r).2.at' := by
  unfold takeC at h ⊢
  cases hf : r.flt with
  | some x => rw [hf] at h; simp at h
  | none =>
    rw [hf] at h
    simp only at h ⊢
    split
    · show _ ≤ skipAt l r.at' + t.length; omega
    · rename_i hp; rw [if_neg hp] at h; simp at h
theorem wrong_at (r : CR) (e : Int) (a : Nat) : (r.wrong e a).at' = r.at' := by unfold CR.wrong; cases r.flt <;> rfl
theorem IsRd.go {rb : Nat} {l : List UInt8} {r : CR} {w : World} (h : IsRd rb l r w) (n : Nat) (hn : n ≤ l.length) : IsRd rb l { r with at' := n } (w.setCell ⟨rb, 1, none⟩ (.int .i64 (n : Int))) := ⟨heap_set h.cells 1 _, hn, h.len, h.flt, h.op_le⟩
theorem SdJ.go {rb b : Nat} {o : Obj} {l : List UInt8} {w W : World} {r : CR} (h : SdJ rb b o l w r W) (hb : w.heap.size ≤ b) (hlt : rb < w.heap.size) (n : Nat) (hn : n ≤ l.length) : SdJ rb b o l w { r with at' := n } (W.setCell ⟨rb, 1, none⟩ (.int .i64 (n : Int))) :=
  ⟨h.rd.go n hn, h.keeps.setCell (p := ⟨rb, 1, none⟩) (.inr rfl) _, (Below.heap_setCell W ⟨rb, 1, none⟩ _ b (by show b ≠ rb; omega)).trans h.box⟩
theorem results_side {fn : Func} {p : Tmp} (h : fn.results = #[.cell p 124]) (tmps : Array Value) (w : World) (g : Nat) (x y : Value)
    (hp : tmps.getD p undef = .pointer (some ⟨g, 0, none⟩)) (hg : w.heap[g]? = some (.cells #[x, y] 124 (0, 0))) :
    (results fn tmps).run Tryz.prog w = .ok (.agg #[x, y]) w :=
  results_cell_row (P := Tryz.prog) h tmps w g 124 #[x, y] (0, 0) _ hp hg Tryz.underlying124 rfl (by kernel_rfl)
theorem set2 {w : World} {b : Nat} {x y : Value} {T : TypeId} (h : w.heap[b]? = some (.cells #[x, y] T (0, 0))) (x' y' : Value) :
    ((w.setCell ⟨b, 0, none⟩ x').setCell ⟨b, 1, none⟩ y').heap[b]? = some (.cells #[x', y'] T (0, 0)) := heap_set (heap_set h 0 _) 1 _
/-- the end: the block of one's own is written; the reader stands -/
theorem SdJ.out {rb b : Nat} {x y : Value} {T : TypeId} {l : List UInt8} {w W : World} {r : CR} (h : SdJ rb b (.cells #[x, y] T (0, 0)) l w r W) (hb : w.heap.size ≤ b) (hlt : rb < w.heap.size) (x' y' : Value) :
    IsRd rb l r ((W.setCell ⟨b, 0, none⟩ x').setCell ⟨b, 1, none⟩ y') ∧ Keeps w.heap.size (fun k => k = rb) w ((W.setCell ⟨b, 0, none⟩ x').setCell ⟨b, 1, none⟩ y') :=
  ⟨h.rd.keep ((Below.heap_setCell _ ⟨b, 1, none⟩ _ rb (by show rb ≠ b; omega)).trans (Below.heap_setCell _ ⟨b, 0, none⟩ _ rb (by show rb ≠ b; omega))), (h.keeps.setCell (p := ⟨b, 0, none⟩) (.inl hb) _).setCell (p := ⟨b, 1, none⟩) (.inl hb) _⟩
def sideV (x : List UInt8) (q : Bool) : Value := .agg #[.string ⟨x.toArray⟩, .bool q]

set_option maxHeartbeats 4000000 in
set_option maxRecDepth 100000 in
theorem side_any {rb : Nat} {l : List UInt8} {r : CR} (w : World) (h : IsRd rb l r w) :
    Calls Tryz.prog 121 #[.pointer (some ⟨rb, 0, none⟩)] w (RdK rb l (sideC l r).2.2 (sideV (sideC l r).1 (sideC l r).2.1) w) := by
  obtain ⟨B, hB⟩ : ∃ B, B = w.heap.size := ⟨_, rfl⟩
  have hlt : rb < w.heap.size := h.lt
  have HLT := Lib.hid hlt
  have hll := h.len
  obtain ⟨w0, hw0⟩ : ∃ w0, w0 = w.alloc (.cells #[.string ⟨#[]⟩, .bool false] 124) := ⟨_, rfl⟩
  have hJ0 : SdJ rb w.heap.size (.cells #[.string ⟨#[]⟩, .bool false] 124 (0, 0)) l w r w0 := by
    rw [hw0]
    exact ⟨h.below ((Below.refl _ _).alloc (Nat.le_refl _) _), Keeps.of ((Below.refl _ _).alloc (Nat.le_refl _) _) _, heap_alloc_new w _⟩
  have hT := take_any (t := ⟨#[34]⟩) w0 hJ0.rd
  change Calls _ _ _ _ (RdK rb l (takeC l [34] r).2 (.bool (takeC l [34] r).1) w0) at hT
  have hpos := take_pos l [34] r
  have hS : sideC l r = if (takeC l [34] r).1 then
    (match untilC l [34] (takeC l [34] r).2 with
    | (x, true, r2) => (x, true, { r2 with at' := r2.at' + (x.length + 1) })
    | (_, false, r2) => ([], false, r2.wrong 13 (r2.at' - 1)))
  else
    (match untilC l stopsC ((takeC l [34] r).2.rest l) with
    | (x, _, r2) => (x, false, { (if x = [] then r2.wrong 13 r2.at' else r2) with at' := r2.at' + x.length })) := rfl
  have HU : Hid (∀ w v, RdK rb l (sideC l r).2.2 v w = fun e w' => e = .returned v ∧ IsRd rb l (sideC l r).2.2 w' ∧ Keeps w.heap.size (fun k => k = rb) w w') := Lib.hid (fun w v => rfl)
  generalize sideC l r = q at HU hS
  rw [HU.out]
  generalize takeC l [34] r = tk at hT hpos hS
  obtain ⟨b, r1⟩ := tk
  simp only at hT hpos hS
  unfold RdK at hT
  have HT := Lib.hid hT
  have HJ0 := Lib.hid hJ0
  clear h hJ0 hT HU
  subst hw0
  cases b with
  | true =>
    simp only [if_true] at hS
    have hU := fun W (h : IsRd rb l r1 W) => until_any [34] W h
    have hin := untilC_in l [34] r1
    have hp := hpos (by trivial)
    unfold UntilQ at hU
    generalize untilC l [34] r1 = u at hU hS hin
    obtain ⟨x, ub, r2⟩ := u
    simp only at hU hin
    have HUn := Lib.hid hU
    clear hU hpos
    cases ub with
    | true =>
      simp only at hS
      go_enter Tryz.func121, Tryz.ntmps121
      go_wp2_with fail
      go_at_call 52
      refine HT.out.mono ?_
      rintro e w1 ⟨rfl, hi1, hk1⟩
      have hJ1 := HJ0.out.step (Nat.le_refl _) HLT.out hi1 hk1
      have hin1 := hin hi1.at_le
      have HUn1 := Lib.hid (HUn.out w1 hi1)
      have HJ1 := Lib.hid hJ1
      clear hi1 hk1 hJ1
      go_wp2_with fail
      go_at_call 120
      refine HUn1.out.mono ?_
      rintro e w2 ⟨rfl, hi2, hk2⟩
      have hJ2 := HJ1.out.step (Nat.le_refl _) HLT.out hi2 hk2
      have hxl : (⟨x.toArray⟩ : ByteArray).size = x.length := by show x.toArray.size = _; simp
      have hb3 := hin1.2.2 (by trivial)
      have hwr1 : IntKind.i64.wrap (((x.length : Nat) : Int) + 1) = ((x.length + 1 : Nat) : Int) := by rw [IntKind.wrap_i64]; omega
      obtain ⟨m, hm⟩ : ∃ m, m = r2.at' + (x.length + 1) := ⟨_, rfl⟩
      have hwr2 : IntKind.i64.wrap (((r2.at' : Nat) : Int) + (((x.length : Nat) : Int) + 1)) = (m : Int) := by rw [IntKind.wrap_i64]; omega
      have d1 : w2.cell? ⟨rb, 1, none⟩ = some (.int .i64 ((r2.at' : Nat) : Int)) := Lib.cell_of_heap hi2.cells 1
      have f1 : w2.frozen? ⟨rb, 1, none⟩ = false := Lib.frozen_of_heap hi2.cells 1
      have hJ3 := hJ2.go (Nat.le_refl _) HLT.out m (by omega)
      have e0 : (w2.setCell ⟨rb, 1, none⟩ (.int .i64 (m : Int))).cell? ⟨w.heap.size, 0, none⟩ = some (.string ⟨#[]⟩) := Lib.cell_of_heap hJ3.box 0
      have e1 : (w2.setCell ⟨rb, 1, none⟩ (.int .i64 (m : Int))).cell? ⟨w.heap.size, 1, none⟩ = some (.bool false) := Lib.cell_of_heap hJ3.box 1
      have k0 : (w2.setCell ⟨rb, 1, none⟩ (.int .i64 (m : Int))).frozen? ⟨w.heap.size, 0, none⟩ = false := Lib.frozen_of_heap hJ3.box 0
      have k1 : (w2.setCell ⟨rb, 1, none⟩ (.int .i64 (m : Int))).frozen? ⟨w.heap.size, 1, none⟩ = false := Lib.frozen_of_heap hJ3.box 1
      have HRT := Lib.hid (set2 hJ3.box (.string ⟨x.toArray⟩) (.bool true))
      have HF := Lib.hid (hJ3.out (Nat.le_refl _) HLT.out (.string ⟨x.toArray⟩) (.bool true))
      rw [← hm] at hS
      have HS := Lib.hid hS
      clear hi2 hk2 hJ2 hJ3 hin hin1 hb3 hS hm
      go_wp2
      refine bodyPost_ret (results_side rfl _ _ _ _ _ rfl HRT.out) rfl ?_
      exact ⟨by rw [HS.out]; rfl, by rw [HS.out]; exact HF.out.1, HF.out.2⟩
    | false =>
      simp only at hS
      have hWr := fun W (h : IsRd rb l r2 W) => wrong_any 13 (by decide) (r2.at' - 1) W h
      unfold RdK at hWr
      have HWr := Lib.hid hWr
      clear hWr
      go_enter Tryz.func121, Tryz.ntmps121
      go_wp2_with fail
      go_at_call 52
      refine HT.out.mono ?_
      rintro e w1 ⟨rfl, hi1, hk1⟩
      have hJ1 := HJ0.out.step (Nat.le_refl _) HLT.out hi1 hk1
      have hin1 := hin hi1.at_le
      have HUn1 := Lib.hid (HUn.out w1 hi1)
      have HJ1 := Lib.hid hJ1
      clear hi1 hk1 hJ1
      go_wp2_with fail
      go_at_call 120
      refine HUn1.out.mono ?_
      rintro e w2 ⟨rfl, hi2, hk2⟩
      have hJ2 := HJ1.out.step (Nat.le_refl _) HLT.out hi2 hk2
      have hp2 : [34].length ≤ r2.at' := by rw [hin1.1]; exact hp
      simp only [List.length_singleton] at hp2
      have hwr1 : IntKind.i64.wrap (((r2.at' : Nat) : Int) - 1) = ((r2.at' - 1 : Nat) : Int) := by rw [IntKind.wrap_i64]; omega
      have d1 : w2.cell? ⟨rb, 1, none⟩ = some (.int .i64 ((r2.at' : Nat) : Int)) := Lib.cell_of_heap hi2.cells 1
      have HWr1 := Lib.hid (HWr.out w2 hi2)
      have HJ2 := Lib.hid hJ2
      have HS := Lib.hid hS
      clear hi2 hk2 hJ2 hin hin1 hp2 hS
      go_wp2_with fail
      go_at_call 41
      refine HWr1.out.mono ?_
      rintro e w3 ⟨rfl, hi3, hk3⟩
      have hJ3 := HJ2.out.step (Nat.le_refl _) HLT.out hi3 hk3
      have e0 : w3.cell? ⟨w.heap.size, 0, none⟩ = some (.string ⟨#[]⟩) := Lib.cell_of_heap hJ3.box 0
      have e1 : w3.cell? ⟨w.heap.size, 1, none⟩ = some (.bool false) := Lib.cell_of_heap hJ3.box 1
      have k0 : w3.frozen? ⟨w.heap.size, 0, none⟩ = false := Lib.frozen_of_heap hJ3.box 0
      have k1 : w3.frozen? ⟨w.heap.size, 1, none⟩ = false := Lib.frozen_of_heap hJ3.box 1
      have HRT := Lib.hid (set2 hJ3.box (.string ⟨#[]⟩) (.bool false))
      have HF := Lib.hid (hJ3.out (Nat.le_refl _) HLT.out (.string ⟨#[]⟩) (.bool false))
      clear hi3 hk3 hJ3
      go_wp2
      refine bodyPost_ret (results_side rfl _ _ _ _ _ rfl HRT.out) rfl ?_
      exact ⟨by rw [HS.out]; rfl, by rw [HS.out]; exact HF.out.1, HF.out.2⟩
  | false =>
    have hS2 : q = match untilC l stopsC (r1.rest l) with
      | (x, _, r2) => (x, false, { (if x = [] then r2.wrong 13 r2.at' else r2) with at' := r2.at' + x.length }) := hS
    have hR := fun W (h : IsRd rb l r1 W) => rest_any W h
    unfold RdK at hR
    have HR := Lib.hid hR
    have hU := fun W (h : IsRd rb l (r1.rest l) W) => until_any stopsC W h
    have hin := untilC_in l stopsC (r1.rest l)
    unfold UntilQ at hU
    generalize untilC l stopsC (r1.rest l) = u at hU hS2 hin
    obtain ⟨x, ub, r2⟩ := u
    simp only at hU hin hS2
    have HUn := Lib.hid hU
    have hxl : (⟨x.toArray⟩ : ByteArray).size = x.length := by show x.toArray.size = _; simp
    have hWr := fun W (h : IsRd rb l r2 W) => wrong_any 13 (by decide) r2.at' W h
    unfold RdK at hWr
    have HWr := Lib.hid hWr
    clear hU hS hpos hWr hR
    go_enter Tryz.func121, Tryz.ntmps121
    go_wp2_with fail
    go_at_call 52
    refine HT.out.mono ?_
    rintro e w1 ⟨rfl, hi1, hk1⟩
    have hJ1 := HJ0.out.step (Nat.le_refl _) HLT.out hi1 hk1
    have HR1 := Lib.hid (HR.out w1 hi1)
    have HJ1 := Lib.hid hJ1
    clear hi1 hk1 hJ1
    go_wp2_with fail
    go_at_call 40
    refine HR1.out.mono ?_
    rintro e w2 ⟨rfl, hi2, hk2⟩
    have hJ2 := HJ1.out.step (Nat.le_refl _) HLT.out hi2 hk2
    have hin1 := hin hi2.at_le
    have HUn1 := Lib.hid (HUn.out w2 hi2)
    have HJ2 := Lib.hid hJ2
    clear hi2 hk2 hJ2
    go_wp2_with fail
    go_at_call 120
    refine HUn1.out.mono ?_
    rintro e w3 ⟨rfl, hi3, hk3⟩
    have hJ3 := HJ2.out.step (Nat.le_refl _) HLT.out hi3 hk3
    have d1 : w3.cell? ⟨rb, 1, none⟩ = some (.int .i64 ((r2.at' : Nat) : Int)) := Lib.cell_of_heap hi3.cells 1
    obtain ⟨m, hm⟩ : ∃ m, m = r2.at' + x.length := ⟨_, rfl⟩
    have hwr2 : IntKind.i64.wrap (((r2.at' : Nat) : Int) + ((x.length : Nat) : Int)) = (m : Int) := by rw [IntKind.wrap_i64]; omega
    by_cases hx : x = []
    · have hxe : x.isEmpty = true := by subst hx; rfl
      rw [if_pos hx] at hS2
      have HWr1 := Lib.hid (HWr.out w3 hi3)
      have HJ3 := Lib.hid hJ3
      rw [← hm] at hS2
      have HS := Lib.hid hS2
      have hw2 : r2.at' = (r2.wrong 13 r2.at').at' := (wrong_at r2 13 r2.at').symm
      generalize r2.wrong 13 r2.at' = r3 at HWr1 HS hw2
      have hbd : m ≤ l.length := by omega
      have HBD := Lib.hid hbd
      have HW2 := Lib.hid hw2
      clear hi3 hk3 hJ3 hin hin1 hS2 hx hw2 hbd hm
      go_wp2_with fail
      go_at_call 41
      refine HWr1.out.mono ?_
      rintro e w4 ⟨rfl, hi4, hk4⟩
      have hJ4 := HJ3.out.step (Nat.le_refl _) HLT.out hi4 hk4
      have d1 : w4.cell? ⟨rb, 1, none⟩ = some (.int .i64 ((r2.at' : Nat) : Int)) := by rw [HW2.out]; exact Lib.cell_of_heap hi4.cells 1
      have f1 : w4.frozen? ⟨rb, 1, none⟩ = false := Lib.frozen_of_heap hi4.cells 1
      have hJ5 := hJ4.go (Nat.le_refl _) HLT.out m HBD.out
      have e0 : (w4.setCell ⟨rb, 1, none⟩ (.int .i64 (m : Int))).cell? ⟨w.heap.size, 0, none⟩ = some (.string ⟨#[]⟩) := Lib.cell_of_heap hJ5.box 0
      have e1 : (w4.setCell ⟨rb, 1, none⟩ (.int .i64 (m : Int))).cell? ⟨w.heap.size, 1, none⟩ = some (.bool false) := Lib.cell_of_heap hJ5.box 1
      have k0 : (w4.setCell ⟨rb, 1, none⟩ (.int .i64 (m : Int))).frozen? ⟨w.heap.size, 0, none⟩ = false := Lib.frozen_of_heap hJ5.box 0
      have k1 : (w4.setCell ⟨rb, 1, none⟩ (.int .i64 (m : Int))).frozen? ⟨w.heap.size, 1, none⟩ = false := Lib.frozen_of_heap hJ5.box 1
      have HRT := Lib.hid (set2 hJ5.box (.string ⟨x.toArray⟩) (.bool false))
      have HF := Lib.hid (hJ5.out (Nat.le_refl _) HLT.out (.string ⟨x.toArray⟩) (.bool false))
      clear hi4 hk4 hJ4 hJ5
      go_wp2
      refine bodyPost_ret (results_side rfl _ _ _ _ _ rfl HRT.out) rfl ?_
      exact ⟨by rw [HS.out]; rfl, by rw [HS.out]; exact HF.out.1, HF.out.2⟩
    · have hxe : x.isEmpty = false := by cases x with | nil => exact absurd rfl hx | cons a b => rfl
      rw [if_neg hx, ← hm] at hS2
      have HS := Lib.hid hS2
      have f1 : w3.frozen? ⟨rb, 1, none⟩ = false := Lib.frozen_of_heap hi3.cells 1
      have hJ5 := hJ3.go (Nat.le_refl _) HLT.out m (by omega)
      have e0 : (w3.setCell ⟨rb, 1, none⟩ (.int .i64 (m : Int))).cell? ⟨w.heap.size, 0, none⟩ = some (.string ⟨#[]⟩) := Lib.cell_of_heap hJ5.box 0
      have e1 : (w3.setCell ⟨rb, 1, none⟩ (.int .i64 (m : Int))).cell? ⟨w.heap.size, 1, none⟩ = some (.bool false) := Lib.cell_of_heap hJ5.box 1
      have k0 : (w3.setCell ⟨rb, 1, none⟩ (.int .i64 (m : Int))).frozen? ⟨w.heap.size, 0, none⟩ = false := Lib.frozen_of_heap hJ5.box 0
      have k1 : (w3.setCell ⟨rb, 1, none⟩ (.int .i64 (m : Int))).frozen? ⟨w.heap.size, 1, none⟩ = false := Lib.frozen_of_heap hJ5.box 1
      have HRT := Lib.hid (set2 hJ5.box (.string ⟨x.toArray⟩) (.bool false))
      have HF := Lib.hid (hJ5.out (Nat.le_refl _) HLT.out (.string ⟨x.toArray⟩) (.bool false))
      clear hi3 hk3 hJ3 hJ5 hin hin1 hS2 hx hm
      go_wp2
      refine bodyPost_ret (results_side rfl _ _ _ _ _ rfl HRT.out) rfl ?_
      exact ⟨by rw [HS.out]; rfl, by rw [HS.out]; exact HF.out.1, HF.out.2⟩
end Go.Proofs.YtpjmccajkcmmaaaGreatDoor

namespace Go.Proofs.YtpjmccajkcmmaaaGreatDoor
open Go.RowKit

/-- a part, as it lies in an interface -/
def exprV : CX → Value
  | .nothing => .nilIface
  | .either a b => .iface 116 (.agg #[exprV a, exprV b])
  | .all a b => .iface 117 (.agg #[exprV a, exprV b])
  | .neg x => .iface 119 (.agg #[exprV x])
  | .call w x a => .iface 121 (.agg #[.string ⟨w.toArray⟩, .string ⟨x.toArray⟩, .int .i64 a])
  | .cmp op a aq b bq t => .iface 126 (.agg #[.string ⟨op.toArray⟩, .string ⟨a.toArray⟩, .bool aq, .string ⟨b.toArray⟩, .bool bq, .int .i64 t])
theorem trimAll_any (s : ByteArray) (hs : s.size ≤ 65536) (w : World) : Calls Tryz.prog 54 #[.string s, .string ⟨#[32, 9]⟩] w fun e w' => e = .returned (.string ⟨(trimB s.data.toList).toArray⟩) ∧ Below w.heap.size w w' := by
  refine (Any.strings_Trim_ascii Tryz.lays160 (fun w => (Tryz.zeroValue153 w).trans (by kernel_rfl)) (by kernel_rfl) s ⟨#[32, 9]⟩ w (by omega) (by decide) ?_)
  intro j b hj
  match j, hj with
  | 0, hj => cases hj; decide
  | 1, hj => cases hj; decide
/-- a reader at rb, since w -/
structure RdJ (rb : Nat) (l : List UInt8) (w : World) (r : CR) (W : World) : Prop where
  rd : IsRd rb l r W
  keeps : Keeps w.heap.size (fun k => k = rb) w W
theorem RdJ.step {rb : Nat} {l : List UInt8} {w W W' : World} {r r' : CR} (h : RdJ rb l w r W) (hi : IsRd rb l r' W') (hk : Keeps W.heap.size (fun k => k = rb) W W') : RdJ rb l w r' W' :=
  ⟨hi, h.keeps.trans (hk.mono h.keeps.size (fun _ _ h => h))⟩
theorem RdJ.go {rb : Nat} {l : List UInt8} {w W : World} {r : CR} (h : RdJ rb l w r W) (n : Nat) (hn : n ≤ l.length) : RdJ rb l w { r with at' := n } (W.setCell ⟨rb, 1, none⟩ (.int .i64 (n : Int))) :=
  ⟨h.rd.go n hn, h.keeps.setCell (p := ⟨rb, 1, none⟩) (.inr rfl) _⟩
theorem RdJ.below {rb : Nat} {l : List UInt8} {w W W' : World} {r : CR} (h : RdJ rb l w r W) (hb : Below W.heap.size W W') : RdJ rb l w r W' := h.step (h.rd.below hb) (Keeps.of hb _)
theorem RdJ.refl {rb : Nat} {l : List UInt8} {r : CR} {w : World} (h : IsRd rb l r w) : RdJ rb l w r w := ⟨h, Keeps.refl _ _ _⟩

theorem take_ge (l t : List UInt8) (r : CR) : r.at' ≤ (takeC l t r).2.at' := by
  unfold takeC
  cases r.flt with
  | some x => exact Nat.le_refl _
  | none =>
    simp only
    split
    · show _ ≤ skipAt l r.at' + t.length; unfold skipAt; omega
    · show _ ≤ skipAt l r.at'; unfold skipAt; omega
theorem find_ok (l : List UInt8) (r : CR) (p : List UInt8) (L : List (List UInt8)) (h : L.find? (wordOk l r) = some p) : p.isPrefixOf (l.drop r.at') = true := by
  have := List.find?_some h
  unfold wordOk at this
  simp only [Bool.and_eq_true] at this
  exact this.1
theorem word_in (l : List UInt8) (r : CR) (h : r.at' ≤ l.length) : r.at' + (wordC l r).length ≤ l.length := by
  rw [wordC_eq]
  cases hf : condWords.find? (wordOk l r) with
  | none => simpa using h
  | some p =>
    have := (List.isPrefixOf_iff_prefix.1 (find_ok l r p _ hf)).length_le
    rw [List.length_drop] at this
    simp only [Option.getD_some]
    omega
set_option maxHeartbeats 4000000 in
set_option maxRecDepth 100000 in
/-- a test with a word -/
theorem testWord_any {rb : Nat} {l : List UInt8} {r : CR} (at' : Nat) (w : World) (h : IsRd rb l r w) (hw : wordC l r ≠ []) (hf : r.flt = none) :
    Calls Tryz.prog 96 #[.pointer (some ⟨rb, 0, none⟩), .int .i64 at'] w (RdK rb l (testC l at' r).2 (exprV (testC l at' r).1) w) := by
  have hll := h.len
  have hS : testC l at' r = (match untilC l [41] (takeC l [40] { r with at' := r.at' + (wordC l r).length }).2 with
    | (x, true, r2) => (.call (wordC l r) (trimB x) at', { r2 with at' := r2.at' + (x.length + 1) })
    | (_, false, r2) => (.nothing, r2.wrong 13 (r2.at' - 1))) := by unfold testC; rw [if_pos ⟨hw, hf⟩]; rfl
  have HU : Hid (∀ w v, RdK rb l (testC l at' r).2 v w = fun e w' => e = .returned v ∧ IsRd rb l (testC l at' r).2 w' ∧ Keeps w.heap.size (fun k => k = rb) w w') := Lib.hid (fun w v => rfl)
  generalize testC l at' r = q at HU hS
  rw [HU.out]
  have hWd := word_any w h
  unfold WordQ at hWd
  have hin := word_in l r h.at_le
  have hne : (wordC l r).isEmpty = false := by cases hx : wordC l r with | nil => exact absurd hx hw | cons a b => rfl
  have hpos : 1 ≤ (wordC l r).length := by cases hx : wordC l r with | nil => exact absurd hx hw | cons a b => simp
  generalize wordC l r = wd at hS hWd hin hne hpos
  have HWd := Lib.hid hWd
  have H := Lib.hid h
  obtain ⟨m, hm⟩ : ∃ m, m = r.at' + wd.length := ⟨_, rfl⟩
  have hwr1 : IntKind.i64.wrap (((r.at' : Nat) : Int) + ((wd.length : Nat) : Int)) = (m : Int) := by rw [IntKind.wrap_i64]; omega
  rw [← hm] at hS hin
  have hge := take_ge l [40] { r with at' := m }
  simp only at hge
  have hT := fun W (h : IsRd rb l { r with at' := m } W) => take_any (t := ⟨#[40]⟩) W h
  change ∀ W, IsRd rb l { r with at' := m } W → Calls _ _ _ _ (RdK rb l (takeC l [40] { r with at' := m }).2 (.bool (takeC l [40] { r with at' := m }).1) W) at hT
  generalize takeC l [40] { r with at' := m } = tk at hT hge hS
  obtain ⟨tb, r1⟩ := tk
  simp only at hT hge hS
  unfold RdK at hT
  have hUn := fun W (h : IsRd rb l r1 W) => until_any [41] W h
  have hui := untilC_in l [41] r1
  unfold UntilQ at hUn
  generalize untilC l [41] r1 = u at hUn hS hui
  obtain ⟨x, ub, r2⟩ := u
  simp only at hUn hui
  have HT := Lib.hid hT
  have HUn := Lib.hid hUn
  have HM : Hid (m ≤ l.length) := Lib.hid hin
  have hm1 : 1 ≤ r1.at' := by omega
  have c1 : ∀ W, Below w.heap.size w W → W.cell? ⟨rb, 1, none⟩ = some (.int .i64 ((r.at' : Nat) : Int)) := fun W hb => Lib.cell_of_heap (H.out.below hb).cells 1
  have C1 := Lib.hid c1
  have hWl := fun W (h : IsRd rb l r W) => well_any W h
  rw [hf] at hWl
  have HWl := Lib.hid hWl
  clear h hWd hT hUn HU hw hf hpos hge hin c1 hm hWl
  cases ub with
  | true =>
    simp only at hS
    have hxl : (⟨x.toArray⟩ : ByteArray).size = x.length := by show x.toArray.size = _; simp
    have HS := Lib.hid hS
    clear hS
    go_enter Tryz.func96, Tryz.ntmps96
    go_wp2_with fail
    go_at_call 119
    refine HWd.out.mono ?_
    rintro e w1 ⟨rfl, hb1⟩
    have hJ1 := (RdJ.refl H.out).below hb1
    have HWl1 := Lib.hid (HWl.out w1 hJ1.rd)
    have HJ1 := Lib.hid hJ1
    clear hb1 hJ1
    go_wp2_with fail
    go_at_call 39
    refine HWl1.out.mono ?_
    rintro e w1' ⟨rfl, rfl⟩
    have d1 : w1.cell? ⟨rb, 1, none⟩ = some (.int .i64 ((r.at' : Nat) : Int)) := Lib.cell_of_heap HJ1.out.rd.cells 1
    have f1 : w1.frozen? ⟨rb, 1, none⟩ = false := Lib.frozen_of_heap HJ1.out.rd.cells 1
    have hJ2 := HJ1.out.go m HM.out
    have HT2 := Lib.hid (HT.out _ hJ2.rd)
    have HJ2 := Lib.hid hJ2
    clear hJ2
    simp only [Option.isNone_none]
    go_wp2_with fail
    go_at_call 52
    refine HT2.out.mono ?_
    rintro e w3 ⟨rfl, hi3, hk3⟩
    have hJ3 := HJ2.out.step hi3 hk3
    have HU3 := Lib.hid (HUn.out w3 hi3)
    have hui3 := hui hi3.at_le
    have HJ3 := Lib.hid hJ3
    clear hi3 hk3 hJ3
    go_wp2_with fail
    go_at_call 120
    refine HU3.out.mono ?_
    rintro e w4 ⟨rfl, hi4, hk4⟩
    have hJ4 := HJ3.out.step hi4 hk4
    have hb3 := hui3.2.2 (by trivial)
    obtain ⟨k, hk⟩ : ∃ k, k = r2.at' + (x.length + 1) := ⟨_, rfl⟩
    have HS2 : Hid (q = (.call wd (trimB x) at', { r2 with at' := k })) := Lib.hid (by rw [hk]; exact HS.out)
    have hwr3 : IntKind.i64.wrap (((x.length : Nat) : Int) + 1) = ((x.length + 1 : Nat) : Int) := by rw [IntKind.wrap_i64]; omega
    have hwr4 : IntKind.i64.wrap (((r2.at' : Nat) : Int) + (((x.length : Nat) : Int) + 1)) = (k : Int) := by rw [IntKind.wrap_i64]; omega
    have d4 : w4.cell? ⟨rb, 1, none⟩ = some (.int .i64 ((r2.at' : Nat) : Int)) := Lib.cell_of_heap hi4.cells 1
    have f4 : w4.frozen? ⟨rb, 1, none⟩ = false := Lib.frozen_of_heap hi4.cells 1
    have HJ5 := Lib.hid (hJ4.go k (by omega))
    have HTr := Lib.hid (fun W => trimAll_any ⟨x.toArray⟩ (by rw [hxl]; omega) W)
    change Hid (∀ W, Calls _ _ _ _ fun e w' => e = .returned (.string ⟨(trimB x).toArray⟩) ∧ Below W.heap.size W w') at HTr
    clear hi4 hk4 hJ4 hb3 hui3 hui hk hm1
    generalize trimB x = tx at HTr HS2
    go_wp2_with fail
    go_at_call 54
    refine (HTr.out _).mono ?_
    rintro e w6 ⟨rfl, hb6⟩
    have HJ6 := Lib.hid (HJ5.out.below hb6)
    clear hb6
    go_wp2
    go_ret
    exact ⟨by rw [HS2.out]; rfl, by rw [HS2.out]; exact HJ6.out.rd, HJ6.out.keeps⟩
  | false =>
    simp only at hS
    have HS := Lib.hid hS
    have hWr := fun W (h : IsRd rb l r2 W) => wrong_any 13 (by decide) (r2.at' - 1) W h
    unfold RdK at hWr
    have HWr := Lib.hid hWr
    clear hS hWr
    go_enter Tryz.func96, Tryz.ntmps96
    go_wp2_with fail
    go_at_call 119
    refine HWd.out.mono ?_
    rintro e w1 ⟨rfl, hb1⟩
    have hJ1 := (RdJ.refl H.out).below hb1
    have HWl1 := Lib.hid (HWl.out w1 hJ1.rd)
    have HJ1 := Lib.hid hJ1
    clear hb1 hJ1
    go_wp2_with fail
    go_at_call 39
    refine HWl1.out.mono ?_
    rintro e w1' ⟨rfl, rfl⟩
    have d1 : w1.cell? ⟨rb, 1, none⟩ = some (.int .i64 ((r.at' : Nat) : Int)) := Lib.cell_of_heap HJ1.out.rd.cells 1
    have f1 : w1.frozen? ⟨rb, 1, none⟩ = false := Lib.frozen_of_heap HJ1.out.rd.cells 1
    have hJ2 := HJ1.out.go m HM.out
    have HT2 := Lib.hid (HT.out _ hJ2.rd)
    have HJ2 := Lib.hid hJ2
    clear hJ2
    simp only [Option.isNone_none]
    go_wp2_with fail
    go_at_call 52
    refine HT2.out.mono ?_
    rintro e w3 ⟨rfl, hi3, hk3⟩
    have hJ3 := HJ2.out.step hi3 hk3
    have HU3 := Lib.hid (HUn.out w3 hi3)
    have hui3 := hui hi3.at_le
    have HJ3 := Lib.hid hJ3
    clear hi3 hk3 hJ3
    go_wp2_with fail
    go_at_call 120
    refine HU3.out.mono ?_
    rintro e w4 ⟨rfl, hi4, hk4⟩
    have hJ4 := HJ3.out.step hi4 hk4
    have hp2 : 1 ≤ r2.at' := by rw [hui3.1]; exact hm1
    have hwr3 : IntKind.i64.wrap (((r2.at' : Nat) : Int) - 1) = ((r2.at' - 1 : Nat) : Int) := by rw [IntKind.wrap_i64]; omega
    have d4 : w4.cell? ⟨rb, 1, none⟩ = some (.int .i64 ((r2.at' : Nat) : Int)) := Lib.cell_of_heap hi4.cells 1
    have HWr4 := Lib.hid (HWr.out w4 hi4)
    have HJ4 := Lib.hid hJ4
    clear hi4 hk4 hJ4 hui3 hui hp2 hm1
    go_wp2_with fail
    go_at_call 41
    refine HWr4.out.mono ?_
    rintro e w5 ⟨rfl, hi5, hk5⟩
    have HJ5 := Lib.hid (HJ4.out.step hi5 hk5)
    clear hi5 hk5
    go_wp2
    go_ret
    exact ⟨by rw [HS.out]; rfl, by rw [HS.out]; exact HJ5.out.rd, HJ5.out.keeps⟩
end Go.Proofs.YtpjmccajkcmmaaaGreatDoor

namespace Go.Proofs.YtpjmccajkcmmaaaGreatDoor
open Go.RowKit

def cmpObj (op a : List UInt8) (aq : Bool) (b : List UInt8) (bq : Bool) (t : Nat) : Obj := .cells #[.string ⟨op.toArray⟩, .string ⟨a.toArray⟩, .bool aq, .string ⟨b.toArray⟩, .bool bq, .int .i64 t] 126 (0, 0)
def opsObj : Obj := .cells #[.string ⟨#[61, 61]⟩, .string ⟨#[33, 61]⟩, .string ⟨#[60, 61]⟩, .string ⟨#[62, 61]⟩, .string ⟨#[60]⟩, .string ⟨#[62]⟩] 9 (0, 0)
structure TsJ (rb b : Nat) (l a : List UInt8) (aq : Bool) (t : Nat) (w : World) (r : CR) (W : World) : Prop where
  j : SdJ rb b (cmpObj [] a aq [] false t) l w r W
  ops : W.heap[b + 1]? = some opsObj
theorem TsJ.step {rb b : Nat} {l a : List UInt8} {aq : Bool} {t : Nat} {w W W' : World} {r r' : CR} (h : TsJ rb b l a aq t w r W) (hb : w.heap.size ≤ b) (hlt : rb < w.heap.size) (hi : IsRd rb l r' W') (hk : Keeps W.heap.size (fun k => k = rb) W W') : TsJ rb b l a aq t w r' W' :=
  ⟨h.j.step hb hlt hi hk, (hk.block (b + 1) (Array.getElem?_eq_some_iff.1 h.ops).1 (by omega)).trans h.ops⟩
theorem TsJ.op {rb b : Nat} {l a : List UInt8} {aq : Bool} {t : Nat} {w W : World} {r : CR} (h : TsJ rb b l a aq t w r W) (i : Nat) (hi : i < 6) : W.cell? ⟨b + 1, i, none⟩ = some (.string ⟨(condOps.getD i []).toArray⟩) := by
  have hW := h.ops
  unfold opsObj at hW
  match i, hi with
  | 0, _ => exact Lib.cell_of_heap hW 0
  | 1, _ => exact Lib.cell_of_heap hW 1
  | 2, _ => exact Lib.cell_of_heap hW 2
  | 3, _ => exact Lib.cell_of_heap hW 3
  | 4, _ => exact Lib.cell_of_heap hW 4
  | 5, _ => exact Lib.cell_of_heap hW 5
theorem cells6 {w : World} {b : Nat} {a0 a1 a2 a3 a4 a5 : Value} {T : TypeId} (h : w.heap[b]? = some (.cells #[a0, a1, a2, a3, a4, a5] T (0, 0))) :
    (w.cell? ⟨b, 0, none⟩ = some a0 ∧ w.cell? ⟨b, 1, none⟩ = some a1 ∧ w.cell? ⟨b, 2, none⟩ = some a2 ∧ w.cell? ⟨b, 3, none⟩ = some a3 ∧ w.cell? ⟨b, 4, none⟩ = some a4 ∧ w.cell? ⟨b, 5, none⟩ = some a5) ∧
    (w.frozen? ⟨b, 0, none⟩ = false ∧ w.frozen? ⟨b, 1, none⟩ = false ∧ w.frozen? ⟨b, 2, none⟩ = false ∧ w.frozen? ⟨b, 3, none⟩ = false ∧ w.frozen? ⟨b, 4, none⟩ = false ∧ w.frozen? ⟨b, 5, none⟩ = false) :=
  ⟨⟨Lib.cell_of_heap h 0, Lib.cell_of_heap h 1, Lib.cell_of_heap h 2, Lib.cell_of_heap h 3, Lib.cell_of_heap h 4, Lib.cell_of_heap h 5⟩, Lib.frozen_of_heap h 0, Lib.frozen_of_heap h 1, Lib.frozen_of_heap h 2, Lib.frozen_of_heap h 3, Lib.frozen_of_heap h 4, Lib.frozen_of_heap h 5⟩

set_option maxHeartbeats 4000000 in
set_option maxRecDepth 100000 in
/-- a test of sides -/
theorem testSide_any {rb : Nat} {l : List UInt8} {r : CR} (at' : Nat) (w : World) (h : IsRd rb l r w) (hw : ¬ (wordC l r ≠ [] ∧ r.flt = none)) :
    Calls Tryz.prog 96 #[.pointer (some ⟨rb, 0, none⟩), .int .i64 at'] w (RdK rb l (testC l at' r).2 (exprV (testC l at' r).1) w) := by
  have hS : testC l at' r = opC l (sideC l r).1 (sideC l r).2.1 at' condOps (sideC l r).2.2 := by unfold testC; rw [if_neg hw]
  have HU : Hid (∀ w v, RdK rb l (testC l at' r).2 v w = fun e w' => e = .returned v ∧ IsRd rb l (testC l at' r).2 w' ∧ Keeps w.heap.size (fun k => k = rb) w w') := Lib.hid (fun w v => rfl)
  generalize testC l at' r = q at HU hS
  rw [HU.out]
  have hWd := word_any w h
  unfold WordQ at hWd
  have H := Lib.hid h
  have hWl := fun W (h : IsRd rb l r W) => well_any W h
  have hb : (wordC l r).isEmpty = true ∨ ((wordC l r).isEmpty = false ∧ r.flt.isNone = false) := by
    by_cases h1 : wordC l r = []
    · left; rw [h1]; rfl
    · right
      refine ⟨by cases hx : wordC l r with | nil => exact absurd hx h1 | cons a b => rfl, ?_⟩
      cases hf : r.flt with
      | none => exact absurd ⟨h1, hf⟩ hw
      | some x => rfl
  generalize wordC l r = wd at hWd hb
  have hSd := fun W (h : IsRd rb l r W) => side_any W h
  unfold RdK at hSd
  generalize sideC l r = sd at hSd hS
  obtain ⟨a, aq, r1⟩ := sd
  simp only [sideV] at hSd hS
  have HS : Hid (q = opC l a aq at' condOps r1) := Lib.hid hS
  have HWd := Lib.hid hWd
  have HWl := Lib.hid hWl
  have HSd := Lib.hid hSd
  have HTk := Lib.hid (fun (t : List UInt8) (r : CR) W (h : IsRd rb l r W) => take_any (t := ⟨t.toArray⟩) W h)
  change Hid (∀ (t : List UInt8) (r : CR) W, IsRd rb l r W → Calls _ _ _ _ fun e w' => e = .returned (.bool (takeC l t r).1) ∧ IsRd rb l (takeC l t r).2 w' ∧ Keeps W.heap.size (fun k => k = rb) W w') at HTk
  have HSi := Lib.hid (fun (r : CR) W (h : IsRd rb l r W) => side_any W h)
  change Hid (∀ (r : CR) W, IsRd rb l r W → Calls _ _ _ _ fun e w' => e = .returned (.agg #[.string ⟨(sideC l r).1.toArray⟩, .bool (sideC l r).2.1]) ∧ IsRd rb l (sideC l r).2.2 w' ∧ Keeps W.heap.size (fun k => k = rb) W w') at HSi
  have hG : ∀ (W2 : World) (hJ2 : RdJ rb l w r1 W2), TsJ rb W2.heap.size l a aq at' W2 r1 ((W2.alloc (.cells #[.string ⟨#[]⟩, .string ⟨a.toArray⟩, .bool aq, .string ⟨#[]⟩, .bool false, .int .i64 at'] 126)).alloc (.cells #[.string ⟨#[61, 61]⟩, .string ⟨#[33, 61]⟩, .string ⟨#[60, 61]⟩, .string ⟨#[62, 61]⟩, .string ⟨#[60]⟩, .string ⟨#[62]⟩] 9)) := fun W2 hJ2 => by
    have hB : Below W2.heap.size W2 ((W2.alloc (.cells #[.string ⟨#[]⟩, .string ⟨a.toArray⟩, .bool aq, .string ⟨#[]⟩, .bool false, .int .i64 at'] 126)).alloc (.cells #[.string ⟨#[61, 61]⟩, .string ⟨#[33, 61]⟩, .string ⟨#[60, 61]⟩, .string ⟨#[62, 61]⟩, .string ⟨#[60]⟩, .string ⟨#[62]⟩] 9)) := ((Below.refl _ _).alloc (Nat.le_refl _) _).alloc (by simp) _
    exact ⟨⟨hJ2.rd.below hB, Keeps.of hB _, heap_alloc2_old W2 _ _⟩, heap_alloc2_new W2 _ _⟩
  have HG := Lib.hid hG
  clear h hw hWd hWl hSd hS HU hG
  go_enter Tryz.func96, Tryz.ntmps96
  go_wp2_with fail
  go_at_call 119
  refine HWd.out.mono ?_
  rintro e w1 ⟨rfl, hb1⟩
  have hJ1 := (RdJ.refl H.out).below hb1
  have HSd1 := Lib.hid (HSd.out w1 hJ1.rd)
  have HWl1 := Lib.hid (HWl.out w1 hJ1.rd)
  have HJ1 := Lib.hid hJ1
  clear hb1 hJ1
  rcases hb with hb | ⟨hb, hfl⟩
  case' inr =>
    rw [hfl] at HWl1
    clear hfl
    go_wp2_with fail
    go_at_call 39
    refine HWl1.out.mono ?_
    rintro e w1' ⟨rfl, rfl⟩
  all_goals
    go_wp2_with fail
    go_at_call 121
    refine HSd1.out.mono ?_
    rintro e w2 ⟨rfl, hi2, hk2⟩
    have hJ2 := HJ1.out.step hi2 hk2
    have HG2 := Lib.hid (HG.out w2 hJ2)
    have HJ2 := Lib.hid hJ2
    have HL2 := Lib.hid hi2.lt
    clear hi2 hk2 hJ2
    go_wp2
    go_loopw [66] (fun v66 wr => ∃ (i : Nat) (r' : CR), v66 = .int .i64 i ∧ i ≤ 6 ∧ Hid (q = opC l a aq at' (condOps.drop i) r') ∧ Hid (TsJ rb w2.heap.size l a aq at' w2 r' wr)) (fun v66 _ => 7 - (intOf v66).toNat)
    case atStart => exact ⟨0, r1, rfl, by omega, HS, HG2⟩
    case round =>
      obtain ⟨i, r', rfl, hi, HF, HJ⟩ := hrel
      by_cases hlt : i < 6
      · have hc := HJ.out.op i hlt
        have hcw : condOps.drop i = condOps.getD i [] :: condOps.drop (i + 1) := by
          match i, hlt with
          | 0, _ => rfl
          | 1, _ => rfl
          | 2, _ => rfl
          | 3, _ => rfl
          | 4, _ => rfl
          | 5, _ => rfl
        generalize condOps.getD i [] = p at hc hcw
        have hop : opC l a aq at' (condOps.drop i) r' = if (takeC l p r').1 then (match sideC l (takeC l p r').2 with | (b, bq, r2) => (.cmp p a aq b bq at', r2)) else opC l a aq at' (condOps.drop (i + 1)) (takeC l p r').2 := by rw [hcw]; rfl
        have hT := HTk.out p r' wr HJ.out.j.rd
        generalize takeC l p r' = tk at hT hop
        obtain ⟨tb, r3⟩ := tk
        simp only at hT hop
        have HT := Lib.hid hT
        clear hT hcw
        cases tb with
        | false =>
          have HF2 : Hid (q = opC l a aq at' (condOps.drop (i + 1)) r3) := Lib.hid (by rw [HF.out, hop]; rfl)
          clear hop
          go_wp2_with fail
          go_at_call 52
          refine HT.out.mono ?_
          rintro e w3 ⟨rfl, hi3, hk3⟩
          have HJ3 := Lib.hid (HJ.out.step (Nat.le_refl _) HL2.out hi3 hk3)
          clear hi3 hk3
          go_wp2
          go_roundw
          case rel => exact ⟨i + 1, r3, by go_num, by omega, HF2, HJ3⟩
          case measure => simp [intOf]; omega
        | true =>
          have HF2 : Hid (q = (match sideC l r3 with | (b, bq, r2) => (.cmp p a aq b bq at', r2))) := Lib.hid (by rw [HF.out, hop]; rfl)
          clear hop
          go_wp2_with fail
          go_at_call 52
          refine HT.out.mono ?_
          rintro e w3 ⟨rfl, hi3, hk3⟩
          have hJ3 := (HJ.out.step (Nat.le_refl _) HL2.out hi3 hk3).j
          have hbx := hJ3.box
          unfold cmpObj at hbx
          obtain ⟨-, f0, -⟩ := cells6 hbx
          have c0 : w3.cell? ⟨w2.heap.size, 0, none⟩ = some (.string ⟨#[]⟩) := Lib.cell_of_heap hbx 0
          have hJ4 : SdJ rb w2.heap.size (cmpObj p a aq [] false at') l w2 r3 (w3.setCell ⟨w2.heap.size, 0, none⟩ (.string ⟨p.toArray⟩)) :=
            ⟨hJ3.rd.keep (Below.heap_setCell _ ⟨w2.heap.size, 0, none⟩ _ rb (by show rb ≠ w2.heap.size; have := HL2.out; omega)), hJ3.keeps.setCell (p := ⟨w2.heap.size, 0, none⟩) (.inl (Nat.le_refl _)) _, heap_set hbx 0 _⟩
          have hSi := HSi.out r3 _ hJ4.rd
          generalize sideC l r3 = sd at hSi HF2
          obtain ⟨b, bq, r5⟩ := sd
          simp only at hSi HF2
          have HSi4 := Lib.hid hSi
          have HJ4 := Lib.hid hJ4
          clear hSi hJ4 hJ3 hbx hi3 hk3
          go_wp2_with fail
          go_at_call 121
          refine HSi4.out.mono ?_
          rintro e w5 ⟨rfl, hi5, hk5⟩
          have hJ5 := HJ4.out.step (Nat.le_refl _) HL2.out hi5 hk5
          have hbx := hJ5.box
          unfold cmpObj at hbx
          obtain ⟨⟨-, -, -, c3, c4, -⟩, ⟨-, -, -, f3, f4, -⟩⟩ := cells6 hbx
          have hb6 : ((w5.setCell ⟨w2.heap.size, 3, none⟩ (.string ⟨b.toArray⟩)).setCell ⟨w2.heap.size, 4, none⟩ (.bool bq)).heap[w2.heap.size]? = some (.cells #[.string ⟨p.toArray⟩, .string ⟨a.toArray⟩, .bool aq, .string ⟨b.toArray⟩, .bool bq, .int .i64 at'] 126 (0, 0)) := heap_set (heap_set hbx 3 _) 4 _
          obtain ⟨⟨d0, d1, d2, d3, d4, d5⟩, -⟩ := cells6 hb6
          have HR6 := Lib.hid (hJ5.rd.keep ((Below.heap_setCell (w5.setCell ⟨w2.heap.size, 3, none⟩ (.string ⟨b.toArray⟩)) ⟨w2.heap.size, 4, none⟩ (.bool bq) rb (by show rb ≠ w2.heap.size; have := HL2.out; omega)).trans (Below.heap_setCell w5 ⟨w2.heap.size, 3, none⟩ (.string ⟨b.toArray⟩) rb (by show rb ≠ w2.heap.size; have := HL2.out; omega))))
          have HK6 := Lib.hid (HJ2.out.keeps.trans (((hJ5.keeps.setCell (p := ⟨w2.heap.size, 3, none⟩) (.inl (Nat.le_refl _)) (.string ⟨b.toArray⟩)).setCell (p := ⟨w2.heap.size, 4, none⟩) (.inl (Nat.le_refl _)) (.bool bq)).mono HJ2.out.keeps.size (fun _ _ h => h)))
          clear hJ5 hbx hi5 hk5 hb6
          go_wp2
          go_ret
          exact ⟨by rw [HF2.out]; rfl, by rw [HF2.out]; exact HR6.out, HK6.out⟩
      · have HF2 : Hid (q = (.cmp [] a aq [] false at', r')) := Lib.hid (by
          rw [HF.out, List.drop_of_length_le (by show 6 ≤ i; omega)]
          rfl)
        have hbx := HJ.out.j.box
        unfold cmpObj at hbx
        obtain ⟨⟨d0, d1, d2, d3, d4, d5⟩, -⟩ := cells6 hbx
        have HK6 := Lib.hid (HJ2.out.keeps.trans (HJ.out.j.keeps.mono HJ2.out.keeps.size (fun _ _ h => h)))
        clear hbx
        go_wp2
        go_ret
        exact ⟨by rw [HF2.out]; rfl, by rw [HF2.out]; exact HJ.out.j.rd, HK6.out⟩

theorem test_any {rb : Nat} {l : List UInt8} {r : CR} (at' : Nat) (w : World) (h : IsRd rb l r w) :
    Calls Tryz.prog 96 #[.pointer (some ⟨rb, 0, none⟩), .int .i64 at'] w (RdK rb l (testC l at' r).2 (exprV (testC l at' r).1) w) := by
  by_cases hw : wordC l r ≠ [] ∧ r.flt = none
  · exact testWord_any at' w h hw.1 hw.2
  · exact testSide_any at' w h hw
end Go.Proofs.YtpjmccajkcmmaaaGreatDoor

namespace Go.Proofs.YtpjmccajkcmmaaaGreatDoor
open Go.RowKit

theorem take_op (l t : List UInt8) (r : CR) : (takeC l t r).2.op = r.op := by
  unfold takeC
  cases r.flt with
  | some x => rfl
  | none => simp only; split <;> rfl
theorem wrong_op (r : CR) (e : Int) (a : Nat) : (r.wrong e a).op = r.op := by unfold CR.wrong; cases r.flt <;> rfl
theorem rest_op (l : List UInt8) (r : CR) : (r.rest l).op = r.op := rfl
theorem until_op (l t : List UInt8) (r : CR) : (untilC l t r).2.2.op = r.op := by
  unfold untilC
  generalize untilGo l t (l.length + 1) r.at' = q
  obtain ⟨i, b, x⟩ := q
  cases x with
  | some y => exact wrong_op r 13 y
  | none => cases b <;> rfl
theorem side_op (l : List UInt8) (r : CR) : (sideC l r).2.2.op = r.op := by
  unfold sideC
  split
  · have h := until_op l [34] (takeC l [34] r).2
    rw [take_op] at h
    generalize untilC l [34] (takeC l [34] r).2 = u at h
    obtain ⟨x, b, r2⟩ := u
    cases b with
    | true => exact h
    | false => exact (wrong_op _ _ _).trans h
  · have h := until_op l stopsC ((takeC l [34] r).2.rest l)
    rw [rest_op, take_op] at h
    generalize untilC l stopsC ((takeC l [34] r).2.rest l) = u at h
    obtain ⟨x, b, r2⟩ := u
    show (if x = [] then r2.wrong 13 r2.at' else r2).op = _
    split
    · exact (wrong_op _ _ _).trans h
    · exact h
theorem opC_op (l a : List UInt8) (aq : Bool) (t : Nat) (os : List (List UInt8)) (r : CR) : (opC l a aq t os r).2.op = r.op := by
  induction os generalizing r with
  | nil => rfl
  | cons o os ih =>
    unfold opC
    split
    · exact (side_op l (takeC l o r).2).trans (take_op l o r)
    · exact (ih _).trans (take_op l o r)
theorem test_op (l : List UInt8) (t : Nat) (r : CR) : (testC l t r).2.op = r.op := by
  unfold testC
  split
  · have h := until_op l [41] (takeC l [40] { r with at' := r.at' + (wordC l r).length }).2
    rw [take_op] at h
    generalize untilC l [41] (takeC l [40] { r with at' := r.at' + (wordC l r).length }).2 = u at h
    obtain ⟨x, b, r2⟩ := u
    cases b with
    | true => exact h
    | false => exact (wrong_op _ _ _).trans h
  · exact (opC_op _ _ _ _ _ _).trans (side_op l r)

theorem reads_op (l : List UInt8) (n : Nat) :
    (∀ r x r2, waysC l n r = some (x, r2) → r2.op = r.op) ∧ (∀ y r x r2, waysGo l n y r = some (x, r2) → r2.op = r.op) ∧
    (∀ r x r2, partsC l n r = some (x, r2) → r2.op = r.op) ∧ (∀ y r x r2, partsGo l n y r = some (x, r2) → r2.op = r.op) ∧
    (∀ r x r2, partC l n r = some (x, r2) → r2.op = r.op) := by
  induction n with
  | zero => exact ⟨by simp [waysC], by simp [waysGo], by simp [partsC], by simp [partsGo], by simp [partC]⟩
  | succ n ih =>
    obtain ⟨i1, i2, i3, i4, i5⟩ := ih
    refine ⟨?_, ?_, ?_, ?_, ?_⟩
    · intro r x r2 h
      unfold waysC at h
      cases hp : partsC l n r with
      | none => rw [hp] at h; simp at h
      | some q =>
        obtain ⟨y, r1⟩ := q
        rw [hp] at h
        exact (i2 y r1 x r2 h).trans (i3 r y r1 hp)
    · intro y r x r2 h
      unfold waysGo at h
      split at h
      · cases hp : partsC l n (takeC l [124, 124] r).2 with
        | none => rw [hp] at h; simp at h
        | some q =>
          obtain ⟨z, r1⟩ := q
          rw [hp] at h
          exact ((i2 _ r1 x r2 h).trans (i3 _ z r1 hp)).trans (take_op l _ r)
      · cases h; exact take_op l _ r
    · intro r x r2 h
      unfold partsC at h
      cases hp : partC l n r with
      | none => rw [hp] at h; simp at h
      | some q =>
        obtain ⟨y, r1⟩ := q
        rw [hp] at h
        exact (i4 y r1 x r2 h).trans (i5 r y r1 hp)
    · intro y r x r2 h
      unfold partsGo at h
      split at h
      · cases hp : partC l n (takeC l [38, 38] r).2 with
        | none => rw [hp] at h; simp at h
        | some q =>
          obtain ⟨z, r1⟩ := q
          rw [hp] at h
          exact ((i4 _ r1 x r2 h).trans (i5 _ z r1 hp)).trans (take_op l _ r)
      · cases h; exact take_op l _ r
    · intro r x r2 h
      unfold partC at h
      simp only at h
      have h0 : (takeC l [33] (r.rest l)).2.op = r.op := take_op l _ _
      split at h
      · split at h
        · cases h; exact (wrong_op _ _ _).trans h0
        · cases hp : partC l n { (takeC l [33] (r.rest l)).2 with op := (takeC l [33] (r.rest l)).2.op + 1 } with
          | none => rw [hp] at h; simp at h
          | some q =>
            obtain ⟨y, r1⟩ := q
            rw [hp] at h
            cases h
            have := i5 _ _ _ hp
            show r1.op - 1 = _
            rw [this]
            show (takeC l [33] (r.rest l)).2.op + 1 - 1 = _
            rw [h0]; rfl
      · have h1 : (takeC l [40] (takeC l [33] (r.rest l)).2).2.op = r.op := (take_op l _ _).trans h0
        split at h
        · split at h
          · cases h; exact (wrong_op _ _ _).trans h1
          · cases hp : waysC l n { (takeC l [40] (takeC l [33] (r.rest l)).2).2 with op := (takeC l [40] (takeC l [33] (r.rest l)).2).2.op + 1 } with
            | none => rw [hp] at h; simp at h
            | some q =>
              obtain ⟨y, r1⟩ := q
              rw [hp] at h
              have h2 := i1 _ _ _ hp
              simp only at h2
              rw [h1] at h2
              simp only at h
              split at h
              · cases h
                show (takeC l [41] r1).2.op - 1 = _
                rw [take_op, h2]; rfl
              · cases h
                show (if l.drop ((takeC l [41] r1).2.rest l).at' = [] then ((takeC l [41] r1).2.rest l).wrong 13 (r.rest l).at' else (takeC l [41] r1).2.rest l).op - 1 = _
                split
                · rw [wrong_op, rest_op, take_op, h2]; rfl
                · rw [rest_op, take_op, h2]; rfl
        · exact (congrArg (fun q : CX × CR => q.2.op) (Option.some.inj h)).symm.trans ((test_op _ _ _).trans h1)
end Go.Proofs.YtpjmccajkcmmaaaGreatDoor
