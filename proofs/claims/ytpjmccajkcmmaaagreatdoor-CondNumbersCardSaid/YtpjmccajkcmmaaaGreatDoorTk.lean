/- cond.reader: well, wrong, rest, take. cond.reader: until, word. cond.reader: word. -/
import Derived.Test.YtpjmccajkcmmaaaGreatDoorTi
import Derived.Test.YtpjmccajkcmmaaaGreatDoorTb
import Derived.Laws.StructEq
namespace Go.Proofs.YtpjmccajkcmmaaaGreatDoor
open Go.RowKit

def CR.why (r : CR) : Int := match r.flt with | none => 0 | some x => x.1
def CR.fat (r : CR) : Nat := match r.flt with | none => 0 | some x => x.2
/-- a reader lies at block rb -/
structure IsRd (rb : Nat) (l : List UInt8) (r : CR) (w : World) : Prop where
  cells : w.heap[rb]? = some (.cells #[.string ⟨l.toArray⟩, .int .i64 r.at', .int .i64 r.op, .int .i64 r.why, .int .i64 r.fat] 111 (0, 0))
  at_le : r.at' ≤ l.length
  len : l.length ≤ 65536
  flt : ∀ x, r.flt = some x → x.1 ≠ 0
  op_le : r.op ≤ 32
theorem IsRd.keep {rb : Nat} {l : List UInt8} {r : CR} {w w' : World} (h : IsRd rb l r w) (hk : w'.heap[rb]? = w.heap[rb]?) : IsRd rb l r w' := ⟨hk.trans h.cells, h.at_le, h.len, h.flt, h.op_le⟩
theorem IsRd.lt {rb : Nat} {l : List UInt8} {r : CR} {w : World} (h : IsRd rb l r w) : rb < w.heap.size := (Array.getElem?_eq_some_iff.1 h.cells).1
theorem IsRd.below {rb : Nat} {l : List UInt8} {r : CR} {w w' : World} (h : IsRd rb l r w) (hb : Below w.heap.size w w') : IsRd rb l r w' := h.keep (hb.block rb h.lt)
def RdK (rb : Nat) (l : List UInt8) (r : CR) (v : Value) (w : World) (e : Ending) (w' : World) : Prop := e = .returned v ∧ IsRd rb l r w' ∧ Keeps w.heap.size (fun k => k = rb) w w'

theorem fault_eq (e a : Int) (W : World) : (binOp .eql 40 (.agg #[.int .i64 e, .int .i64 a]) (.agg #[.int .i64 0, .int .i64 0])).run Tryz.prog W = .ok (.bool ((e == 0) && (a == 0))) W := by
  have u3 := Tryz.underlying3
  have u38 := Tryz.underlying38
  have a3 := Tryz.isAgg3
  have a38 := Tryz.isAgg38
  have z3 := Tryz.sizeOf3
  have z38 := Tryz.sizeOf38
  have hS : Tryz.prog.underlying 40 = some (.struct (Tryz.prog.fieldsOf 40)) := by kernel_rfl
  have hp : Tryz.prog.stoodInHeld 40 = false := by kernel_rfl
  rw [run_eql_struct, show (10000 : Nat) = 9999 + 1 from rfl, run_equalIn_agg W 9999 40 _ _ hS hp]
  simp only [Program.fieldsOf, Tryz.underlying40]
  go_simp
  by_cases h1 : e = 0 <;> by_cases h2 : a = 0 <;> simp [h1, h2]

set_option maxHeartbeats 1000000 in
set_option maxRecDepth 100000 in
theorem well_any {rb : Nat} {l : List UInt8} {r : CR} (w : World) (h : IsRd rb l r w) :
    Calls Tryz.prog 39 #[.pointer (some ⟨rb, 0, none⟩)] w fun e w' => e = .returned (.bool r.flt.isNone) ∧ w = w' := by
  have c3 : w.cell? ⟨rb, 3, none⟩ = some (.int .i64 r.why) := Lib.cell_of_heap h.cells 3
  have c4 : w.cell? ⟨rb, 4, none⟩ = some (.int .i64 r.fat) := Lib.cell_of_heap h.cells 4
  have hq := fun W => fault_eq r.why r.fat W
  have hb : Hid ((((r.why == 0) && ((r.fat : Int) == 0)) = r.flt.isNone)) := Lib.hid (by
    unfold CR.why CR.fat
    cases hf : r.flt with
    | none => rfl
    | some x =>
      have := h.flt x hf
      simp [this])
  clear h
  go_enter Tryz.func39, Tryz.ntmps39
  go_wp2
  go_ret
  exact ⟨by rw [← hb.out]; rfl, rfl⟩

theorem skip_drop (l : List UInt8) (i : Nat) : l.drop (skipAt l i) = (l.drop i).dropWhile blankB := by
  unfold skipAt
  rw [← List.drop_drop]
  have h := List.takeWhile_append_dropWhile (p := blankB) (l := l.drop i)
  generalize (l.drop i).takeWhile blankB = a at h ⊢
  generalize (l.drop i).dropWhile blankB = b at h ⊢
  rw [← h, List.drop_left]
theorem skip_len (l : List UInt8) (i : Nat) (h : i ≤ l.length) : skipAt l i + ((l.drop i).dropWhile blankB).length = l.length := by
  have h1 := List.takeWhile_append_dropWhile (p := blankB) (l := l.drop i)
  have h2 := congrArg List.length h1
  rw [List.length_append, List.length_drop] at h2
  unfold skipAt
  omega
theorem rest_at (l : List UInt8) (r : CR) (h : r.at' ≤ l.length) : (r.rest l).at' ≤ l.length := by
  have := skip_len l r.at' h
  show skipAt l r.at' ≤ _
  omega

set_option maxHeartbeats 2000000 in
set_option maxRecDepth 100000 in
theorem rest_any {rb : Nat} {l : List UInt8} {r : CR} (w : World) (h : IsRd rb l r w) :
    Calls Tryz.prog 40 #[.pointer (some ⟨rb, 0, none⟩)] w (RdK rb l (r.rest l) (.string ⟨(l.drop (skipAt l r.at')).toArray⟩) w) := by
  have hle := h.at_le
  have hll := h.len
  have c0 : w.drew.cell? ⟨rb, 0, none⟩ = some (.string ⟨l.toArray⟩) := Lib.cell_of_heap (w := w) h.cells 0
  have c1 : w.drew.cell? ⟨rb, 1, none⟩ = some (.int .i64 r.at') := Lib.cell_of_heap (w := w) h.cells 1
  obtain ⟨u, hu⟩ : ∃ u : ByteArray, u = (⟨l.toArray⟩ : ByteArray).extract r.at' (⟨l.toArray⟩ : ByteArray).size := ⟨_, rfl⟩
  have hul : u.data.toList = l.drop r.at' := by rw [hu, tail_list]
  have hsl : ∀ W : World, (Instr.slice 9 (.string ⟨l.toArray⟩) (some (.int .i64 r.at')) none none).run Tryz.prog W = .ok (.string u) W := fun W => by
    have := run_slice_string_l W 9 ⟨l.toArray⟩ Tryz.underlying9 .i64 (r.at' : Int) (by omega) (by show (r.at' : Int) ≤ (l.toArray.size : Int); simp; omega)
    rw [this, hu]
    congr 2
  have HT : Hid (Calls Tryz.prog 53 #[.string u, .string ⟨#[32, 9]⟩] w.drew fun e w' => e = .returned (.string ⟨(l.drop (skipAt l r.at')).toArray⟩) ∧ Below w.heap.size w w') := Lib.hid (by
    refine (trim_any u w.drew).mono ?_
    rintro e w' ⟨rfl, hb⟩
    refine ⟨by rw [hul, skip_drop], ?_⟩
    have h0 : Below w.heap.size w w.drew := ⟨rfl, rfl, rfl, Nat.le_refl _, fun _ _ => rfl⟩
    exact h0.trans hb)
  have hsk := skip_len l r.at' hle
  rw [← skip_drop] at hsk
  have hnew : Hid ((((l.length : Int) - ((l.drop (skipAt l r.at')).length : Int))) = ((r.rest l).at' : Int)) := Lib.hid (by show _ = ((skipAt l r.at' : Nat) : Int); omega)
  have hwr : IntKind.i64.wrap ((l.length : Int) - ((l.drop (skipAt l r.at')).length : Int)) = ((r.rest l).at' : Int) := by rw [hnew.out, IntKind.wrap_i64]; have := rest_at l r hle; omega
  have H := Lib.hid h
  have HAt := Lib.hid (rest_at l r hle)
  generalize l.drop (skipAt l r.at') = x at HT hwr hnew ⊢
  clear h hle hu hul hsk
  go_enter Tryz.func40, Tryz.ntmps40
  go_wp2_with fail
  go_region_with (go_at_call 53; refine HT.out.mono ?_; rintro e w1 ⟨rfl, hb1⟩; replace hb1 := Lib.hid hb1)
  all_goals
    have hI := H.out.below hb1.out
    have d0 : w1.cell? ⟨rb, 0, none⟩ = some (.string ⟨l.toArray⟩) := Lib.cell_of_heap hI.cells 0
    have d1 : w1.cell? ⟨rb, 1, none⟩ = some (.int .i64 r.at') := Lib.cell_of_heap hI.cells 1
    have f1 : w1.frozen? ⟨rb, 1, none⟩ = false := Lib.frozen_of_heap hI.cells 1
    have HF : Hid (IsRd rb l (r.rest l) (w1.setCell ⟨rb, 1, none⟩ (.int .i64 ((r.rest l).at' : Int))) ∧ Keeps w.heap.size (fun k => k = rb) w (w1.setCell ⟨rb, 1, none⟩ (.int .i64 ((r.rest l).at' : Int)))) := Lib.hid ⟨⟨heap_set hI.cells 1 _, HAt.out, hI.len, hI.flt, hI.op_le⟩, (Keeps.of hb1.out (fun k => k = rb)).setCell (p := ⟨rb, 1, none⟩) (.inr rfl) _⟩
    clear hI
    go_wp2
    go_ret
    exact ⟨rfl, HF.out.1, HF.out.2⟩

set_option maxHeartbeats 1000000 in
set_option maxRecDepth 100000 in
theorem wrong_any {rb : Nat} {l : List UInt8} {r : CR} (e : Int) (he : e ≠ 0) (a : Nat) (w : World) (h : IsRd rb l r w) :
    Calls Tryz.prog 41 #[.pointer (some ⟨rb, 0, none⟩), .int .i64 e, .int .i64 a] w (RdK rb l (r.wrong e a) (.tuple #[]) w) := by
  have c3 : w.cell? ⟨rb, 3, none⟩ = some (.int .i64 r.why) := Lib.cell_of_heap h.cells 3
  have c4 : w.cell? ⟨rb, 4, none⟩ = some (.int .i64 r.fat) := Lib.cell_of_heap h.cells 4
  have f3 : w.frozen? ⟨rb, 3, none⟩ = false := Lib.frozen_of_heap h.cells 3
  have f4 : w.frozen? ⟨rb, 4, none⟩ = false := Lib.frozen_of_heap h.cells 4
  have hq := fun W => fault_eq r.why r.fat W
  cases hf : r.flt with
  | none =>
    have hR : Hid (r.wrong e a = { r with flt := some (e, a) }) := Lib.hid (by unfold CR.wrong; rw [hf])
    have hwy : r.why = 0 := by unfold CR.why; rw [hf]
    have hfa : r.fat = 0 := by unfold CR.fat; rw [hf]
    rw [hwy, hfa] at hq
    rw [hwy] at c3
    rw [hfa] at c4
    have HF : Hid (IsRd rb l { r with flt := some (e, a) } ((w.setCell ⟨rb, 3, none⟩ (.int .i64 e)).setCell ⟨rb, 4, none⟩ (.int .i64 a)) ∧ Keeps w.heap.size (fun k => k = rb) w ((w.setCell ⟨rb, 3, none⟩ (.int .i64 e)).setCell ⟨rb, 4, none⟩ (.int .i64 a))) := Lib.hid ⟨⟨heap_set (heap_set h.cells 3 _) 4 _, h.at_le, h.len, fun x hx => by cases hx; exact he, h.op_le⟩, ((Keeps.refl w.heap.size (fun k => k = rb) w).setCell (p := ⟨rb, 3, none⟩) (.inr rfl) _).setCell (p := ⟨rb, 4, none⟩) (.inr rfl) _⟩
    clear h hf hwy hfa
    go_enter Tryz.func41, Tryz.ntmps41
    go_wp2
    go_end0
    exact ⟨rfl, by rw [hR.out]; exact HF.out.1, HF.out.2⟩
  | some x =>
    have hR : Hid (r.wrong e a = r) := Lib.hid (by unfold CR.wrong; rw [hf])
    have hwy : (r.why == 0) = false := by unfold CR.why; rw [hf]; simpa using h.flt x hf
    have H := Lib.hid h
    clear h hf
    go_enter Tryz.func41, Tryz.ntmps41
    go_wp2
    (first | go_end0 | refine bodyPost_ret (results_none rfl _ _ _) rfl ?_)
    exact ⟨rfl, by rw [hR.out]; exact H.out, Keeps.refl _ _ _⟩

theorem take_at (l t : List UInt8) (r : CR) (h : r.at' ≤ l.length) : (takeC l t r).2.at' ≤ l.length := by
  unfold takeC
  cases r.flt with
  | some x => exact h
  | none =>
    simp only
    split
    · rename_i hp
      have h1 := (List.isPrefixOf_iff_prefix.1 hp).length_le
      have h2 := skip_len l r.at' h
      rw [← skip_drop] at h2
      show skipAt l r.at' + t.length ≤ _
      omega
    · exact rest_at l r h

set_option maxHeartbeats 1000000 in
set_option maxRecDepth 100000 in
theorem take_any {rb : Nat} {l : List UInt8} {r : CR} (t : ByteArray) (w : World) (h : IsRd rb l r w) :
    Calls Tryz.prog 52 #[.pointer (some ⟨rb, 0, none⟩), .string t] w (RdK rb l (takeC l t.data.toList r).2 (.bool (takeC l t.data.toList r).1) w) := by
  have HW := Lib.hid (well_any w h)
  have hat := take_at l t.data.toList r h.at_le
  cases hf : r.flt with
  | some x =>
    have hT : takeC l t.data.toList r = (false, r) := by unfold takeC; rw [hf]
    rw [hf] at HW
    rw [hT]
    have H := Lib.hid h
    clear h hf hat hT
    go_enter Tryz.func52, Tryz.ntmps52
    go_wp2_with fail
    go_at_call 39
    refine HW.out.mono ?_
    rintro e w1 ⟨rfl, rfl⟩
    simp only [Option.isNone_some]
    go_wp2
    go_ret
    exact ⟨rfl, H.out, Keeps.refl _ _ _⟩
  | none =>
    have hR := rest_any w h
    have hP := fun W => Tryz.strings_HasPrefix ⟨(l.drop (skipAt l r.at')).toArray⟩ t W
    have hT : takeC l t.data.toList r = if t.data.toList.isPrefixOf (l.drop (skipAt l r.at')) then (true, { r with at' := skipAt l r.at' + t.data.toList.length }) else (false, r.rest l) := by unfold takeC; rw [hf]
    change ∀ W, Calls _ _ _ _ fun e w' => e = .returned (.bool (t.data.toList.isPrefixOf (l.drop (skipAt l r.at')))) ∧ w' = W at hP
    rw [hT] at hat ⊢
    rw [hf] at HW
    generalize t.data.toList.isPrefixOf (l.drop (skipAt l r.at')) = b at hP hat ⊢
    generalize l.drop (skipAt l r.at') = x at hR hP
    unfold RdK at hR
    have HR := Lib.hid hR
    have HP := Lib.hid hP
    have hll := h.len
    have htl : t.data.toList.length = t.size := by simp
    have H := Lib.hid h
    clear h hR hP hT hf
    cases b with
    | false =>
      clear hat htl
      go_enter Tryz.func52, Tryz.ntmps52
      go_wp2_with fail
      go_at_call 39
      refine HW.out.mono ?_
      rintro e w1 ⟨rfl, rfl⟩
      simp only [Option.isNone_none]
      go_wp2_with fail
      go_at_call 40
      refine HR.out.mono ?_
      rintro e w2 ⟨rfl, hi2, hk2⟩
      have HI2 := Lib.hid hi2
      have HK2 := Lib.hid hk2
      clear hi2 hk2
      go_wp2_with fail
      go_at_call 72
      refine (HP.out _).mono ?_
      rintro e w3 ⟨rfl, rfl⟩
      go_wp2
      go_ret
      exact ⟨rfl, HI2.out, HK2.out⟩
    | true =>
      simp only [if_true] at hat ⊢
      have hwr : IntKind.i64.wrap (((skipAt l r.at' : Nat) : Int) + (t.size : Int)) = ((skipAt l r.at' + t.data.toList.length : Nat) : Int) := by rw [IntKind.wrap_i64, htl]; omega
      have HAt := Lib.hid hat
      clear hat htl
      go_enter Tryz.func52, Tryz.ntmps52
      go_wp2_with fail
      go_at_call 39
      refine HW.out.mono ?_
      rintro e w1 ⟨rfl, rfl⟩
      simp only [Option.isNone_none]
      go_wp2_with fail
      go_at_call 40
      refine HR.out.mono ?_
      rintro e w2 ⟨rfl, hi2, hk2⟩
      have d1 : w2.cell? ⟨rb, 1, none⟩ = some (.int .i64 ((skipAt l r.at' : Nat) : Int)) := Lib.cell_of_heap hi2.cells 1
      have f1 : w2.frozen? ⟨rb, 1, none⟩ = false := Lib.frozen_of_heap hi2.cells 1
      have HF : Hid (IsRd rb l { r with at' := skipAt l r.at' + t.data.toList.length } (w2.setCell ⟨rb, 1, none⟩ (.int .i64 ((skipAt l r.at' + t.data.toList.length : Nat) : Int))) ∧ Keeps w.heap.size (fun k => k = rb) w (w2.setCell ⟨rb, 1, none⟩ (.int .i64 ((skipAt l r.at' + t.data.toList.length : Nat) : Int)))) := Lib.hid ⟨⟨heap_set hi2.cells 1 _, HAt.out, hi2.len, hi2.flt, hi2.op_le⟩, hk2.setCell (p := ⟨rb, 1, none⟩) (.inr rfl) _⟩
      clear hi2 hk2
      go_wp2_with fail
      go_at_call 72
      refine (HP.out _).mono ?_
      rintro e w3 ⟨rfl, rfl⟩
      go_wp2
      go_ret
      exact ⟨rfl, HF.out.1, HF.out.2⟩
end Go.Proofs.YtpjmccajkcmmaaaGreatDoor

namespace Go.Proofs.YtpjmccajkcmmaaaGreatDoor
open Go.RowKit

def UntilQ (rb : Nat) (l stops : List UInt8) (r : CR) (w : World) (e : Ending) (w' : World) : Prop := e = .returned (.tuple #[.string ⟨(untilC l stops r).1.toArray⟩, .bool (untilC l stops r).2.1]) ∧ IsRd rb l (untilC l stops r).2.2 w' ∧ Keeps w.heap.size (fun k => k = rb) w w'

theorem list_at {l : List UInt8} {i : Nat} (h : i < (⟨l.toArray⟩ : ByteArray).size) : ((⟨l.toArray⟩ : ByteArray)[i]'h) = l.getD i 0 := byte_at ⟨l.toArray⟩ i h

set_option maxHeartbeats 2000000 in
set_option maxRecDepth 100000 in
theorem until_any {rb : Nat} {l : List UInt8} {r : CR} (stops : List UInt8) (w : World) (h : IsRd rb l r w) :
    Calls Tryz.prog 120 #[.pointer (some ⟨rb, 0, none⟩), .string ⟨stops.toArray⟩] w (UntilQ rb l stops r w) := by
  have hle := h.at_le
  have hll := h.len
  have hsz : (⟨l.toArray⟩ : ByteArray).size = l.length := by show l.toArray.size = _; simp
  have c1 : w.cell? ⟨rb, 1, none⟩ = some (.int .i64 r.at') := Lib.cell_of_heap h.cells 1
  have H := Lib.hid h
  have HU : Hid (∀ w, UntilQ rb l stops r w = fun e w' => e = .returned (.tuple #[.string ⟨(untilC l stops r).1.toArray⟩, .bool (untilC l stops r).2.1]) ∧ IsRd rb l (untilC l stops r).2.2 w' ∧ Keeps w.heap.size (fun k => k = rb) w w') := Lib.hid (fun w => rfl)
  have HC : Hid (untilC l stops r = match untilGo l stops (l.length + 1) r.at' with
    | (_, _, some i) => ([], false, r.wrong 13 i)
    | (i, true, none) => ((l.drop r.at').take (i - r.at'), true, r)
    | (_, false, none) => (l.drop r.at', false, r)) := Lib.hid rfl
  generalize untilC l stops r = q at HU HC
  rw [HU.out]
  have HSz := Lib.hid hsz
  clear h HU
  go_enter Tryz.func120, Tryz.ntmps120
  go_wp2
  go_loopw [6] (fun v6 wr => ∃ (i n : Nat), v6 = .int .i64 i ∧ r.at' ≤ i ∧ i ≤ l.length ∧ l.length + 1 ≤ i + n ∧ Hid (untilGo l stops (l.length + 1) r.at' = untilGo l stops n i) ∧ Hid (Below w.heap.size w wr)) (fun v6 _ => l.length + 1 - (intOf v6).toNat)
  case atStart => exact ⟨r.at', l.length + 1, rfl, Nat.le_refl _, hle, by omega, Lib.hid rfl, Lib.hid (Below.refl _ _)⟩
  case round =>
    obtain ⟨i, n, rfl, hai, hi, hn, HG, HB⟩ := hrel
    have hI := H.out.below HB.out
    have d0 : wr.cell? ⟨rb, 0, none⟩ = some (.string ⟨l.toArray⟩) := Lib.cell_of_heap hI.cells 0
    have d1 : wr.cell? ⟨rb, 1, none⟩ = some (.int .i64 r.at') := Lib.cell_of_heap hI.cells 1
    have HI := Lib.hid hI
    obtain ⟨m, rfl⟩ : ∃ m, n = m + 1 := ⟨n - 1, by omega⟩
    by_cases hlt : i < l.length
    · have hlt2 : i < (⟨l.toArray⟩ : ByteArray).size := by rw [HSz.out]; exact hlt
      have hx : l[i]? = some (l.getD i 0) := by rw [List.getD_eq_getElem?_getD, List.getElem?_eq_getElem hlt]; rfl
      have hgo : untilGo l stops (m + 1) i = if stops.contains (l.getD i 0) then (i, true, none) else if l.getD i 0 = 36 then (if wholeS (l.drop i) = 0 then (i, false, some i) else untilGo l stops m (i + wholeS (l.drop i))) else untilGo l stops m (i + 1) := by
        rw [untilGo, hx]
      have hin := index_in stops (l.getD i 0)
      have hIx : ∀ W, Calls Tryz.prog 111 #[.string ⟨stops.toArray⟩, .int .u8 (((⟨l.toArray⟩ : ByteArray)[i]'hlt2).toNat : Int)] W fun e w' => e = .returned (.int .i64 (Lib.indexByte stops (l.getD i 0))) ∧ W = w' := fun W => by
        rw [list_at]
        exact index_any ⟨stops.toArray⟩ (l.getD i 0) W
      generalize Lib.indexByte stops (l.getD i 0) = k at hin hIx
      have HIx := Lib.hid hIx
      have e36 := byte_eq ⟨l.toArray⟩ i hlt2 36 36 rfl
      have hget : (⟨l.toArray⟩ : ByteArray).data.toList = l := by simp
      rw [hget] at e36
      by_cases hcon : stops.contains (l.getD i 0) = true
      · have hk : 0 ≤ k := hin.2 hcon
        have hsl : ∀ W : World, (Instr.slice 9 (.string ⟨l.toArray⟩) (some (.int .i64 r.at')) (some (.int .i64 (i : Int))) none).run Tryz.prog W = .ok (.string ((⟨l.toArray⟩ : ByteArray).extract r.at' i)) W := fun W => by
          have := run_slice_string W 9 ⟨l.toArray⟩ .i64 .i64 (r.at' : Int) (i : Int) Tryz.underlying9 (by omega) (by omega) (by rw [HSz.out]; omega)
          rw [this]
          congr 2
        have HF : Hid (q = ((l.drop r.at').take (i - r.at'), true, r)) := Lib.hid (by rw [HC.out, HG.out, hgo, if_pos hcon])
        have hes : (⟨l.toArray⟩ : ByteArray).extract r.at' i = ⟨((l.drop r.at').take (i - r.at')).toArray⟩ := ext_str ⟨l.toArray⟩ r.at' i _ (by simp)
        have HES := Lib.hid hes
        clear hgo hIx e36 hcon hin hx hI hget hes
        go_wp2_with fail
        go_at_call 111
        refine (HIx.out _).mono ?_
        rintro e w1 ⟨rfl, rfl⟩
        go_wp2
        go_quiet (fail)
        go_wp2
        go_ret2
        refine ⟨by rw [HF.out, ← HES.out]; rfl, by rw [HF.out]; exact HI.out.keep rfl, Keeps.of (HB.out.trans ((belowN wr _).mono HB.out.size)) _⟩
      · have hk : decide (0 ≤ k) = false := decide_eq_false (fun h => hcon (hin.1 h))
        by_cases h36 : l.getD i 0 = 36
        · rw [h36] at e36
          replace e36 : (((((⟨l.toArray⟩ : ByteArray)[i]'hlt2)).toNat : Int) == 36) = true := e36
          have hsl : ∀ W : World, (Instr.slice 9 (.string ⟨l.toArray⟩) (some (.int .i64 (i : Int))) none none).run Tryz.prog W = .ok (.string ((⟨l.toArray⟩ : ByteArray).extract i (⟨l.toArray⟩ : ByteArray).size)) W := fun W => by
            have := run_slice_string_l W 9 ⟨l.toArray⟩ Tryz.underlying9 .i64 (i : Int) (by omega) (by rw [HSz.out]; omega)
            rw [this]
            congr 2
          have hul : ((⟨l.toArray⟩ : ByteArray).extract i (⟨l.toArray⟩ : ByteArray).size).data.toList = l.drop i := by rw [tail_list]
          have hus : ((⟨l.toArray⟩ : ByteArray).extract i (⟨l.toArray⟩ : ByteArray).size).size = l.length - i := by rw [ByteArray.size_extract, HSz.out]; omega
          have hdr := drop_at (l := l) (i := i) hlt
          generalize (⟨l.toArray⟩ : ByteArray).extract i (⟨l.toArray⟩ : ByteArray).size = u at hsl hul hus
          have hUse := fun W => use_any u (by omega) (by omega) (by rw [hul, hdr, h36]; rfl) W
          rw [hul] at hUse
          have hwl := wholeS_le (l.drop i)
          rw [List.length_drop] at hwl
          rw [if_neg hcon, if_pos h36] at hgo
          generalize wholeS (l.drop i) = ws at hUse hwl hgo
          have HUse := Lib.hid hUse
          by_cases hz : ws = 0
          · have hzb : ((ws : Int) == 0) = true := by rw [hz]; rfl
            have HF : Hid (q = ([], false, r.wrong 13 i)) := Lib.hid (by rw [HC.out, HG.out, hgo, if_pos hz])
            clear hgo hIx hcon hin hx hI hget h36 hul hus hdr hUse hwl hz
            go_wp2_with fail
            go_at_call 111
            refine (HIx.out _).mono ?_
            rintro e w1 ⟨rfl, rfl⟩
            go_wp2_with fail
            go_at_call 146
            refine (HUse.out _).mono ?_
            rintro e w1 ⟨rfl, hb1⟩
            have HB1 := Lib.hid (HB.out.trans (hb1.mono HB.out.size))
            have hWr := wrong_any 13 (by decide) i w1 (H.out.below HB1.out)
            unfold RdK at hWr
            have HWr := Lib.hid hWr
            clear hb1 hWr
            go_wp2_with fail
            go_at_call 41
            refine HWr.out.mono ?_
            rintro e w2 ⟨rfl, hi2, hk2⟩
            have HF2 : Hid (IsRd rb l (r.wrong 13 i) w2 ∧ Keeps w.heap.size (fun k => k = rb) w w2) := Lib.hid ⟨hi2, (Keeps.of HB1.out _).trans (hk2.mono HB1.out.size (fun _ _ h => h))⟩
            clear hi2 hk2
            go_wp2
            go_ret2
            exact ⟨by rw [HF.out]; rfl, by rw [HF.out]; exact HF2.out.1, HF2.out.2⟩
          · have hzb : ((ws : Int) == 0) = false := beq_eq_false_iff_ne.2 (by omega)
            have HG2 : Hid (untilGo l stops (l.length + 1) r.at' = untilGo l stops m (i + ws)) := Lib.hid (by rw [HG.out, hgo, if_neg hz])
            clear hgo hIx hcon hin hx hI hget h36 hul hus hdr hUse
            go_wp2_with fail
            go_at_call 111
            refine (HIx.out _).mono ?_
            rintro e w1 ⟨rfl, rfl⟩
            go_wp2_with fail
            go_at_call 146
            refine (HUse.out _).mono ?_
            rintro e w1 ⟨rfl, hb1⟩
            have HB1 := Lib.hid (HB.out.trans (hb1.mono HB.out.size))
            clear hb1
            go_wp2
            go_roundw
            case rel => exact ⟨i + ws, m, by go_num, by omega, by omega, by omega, HG2, HB1⟩
            case measure => simp [intOf]; omega
        · replace e36 : (((((⟨l.toArray⟩ : ByteArray)[i]'hlt2)).toNat : Int) == 36) = false := e36.trans (beq_eq_false_iff_ne.2 h36)
          have HG2 : Hid (untilGo l stops (l.length + 1) r.at' = untilGo l stops m (i + 1)) := Lib.hid (by rw [HG.out, hgo, if_neg hcon, if_neg h36])
          clear hgo hIx hcon hin hx hI hget h36
          go_wp2_with fail
          go_at_call 111
          refine (HIx.out _).mono ?_
          rintro e w1 ⟨rfl, rfl⟩
          go_wp2
          go_roundw
          case rel => exact ⟨i + 1, m, by go_num, by omega, by omega, by omega, HG2, HB⟩
          case measure => simp [intOf]; omega
    · have hx : l[i]? = none := List.getElem?_eq_none (by omega)
      have HF : Hid (q = (l.drop r.at', false, r)) := Lib.hid (by rw [HC.out, HG.out, untilGo, hx])
      have hsl : ∀ W : World, (Instr.slice 9 (.string ⟨l.toArray⟩) (some (.int .i64 r.at')) none none).run Tryz.prog W = .ok (.string ((⟨l.toArray⟩ : ByteArray).extract r.at' (⟨l.toArray⟩ : ByteArray).size)) W := fun W => by
        have := run_slice_string_l W 9 ⟨l.toArray⟩ Tryz.underlying9 .i64 (r.at' : Int) (by omega) (by rw [HSz.out]; omega)
        rw [this]
        congr 2
      have hes : (⟨l.toArray⟩ : ByteArray).extract r.at' (⟨l.toArray⟩ : ByteArray).size = ⟨(l.drop r.at').toArray⟩ := by
        apply bs_ext
        rw [tail_list]
      have HES := Lib.hid hes
      clear hx hI hes
      go_wp2
      go_quiet (fail)
      go_wp2
      go_ret2
      refine ⟨by rw [HF.out, ← HES.out]; rfl, by rw [HF.out]; exact HI.out.keep rfl, Keeps.of (HB.out.trans ((belowN wr _).mono HB.out.size)) _⟩
end Go.Proofs.YtpjmccajkcmmaaaGreatDoor

namespace Go.Proofs.YtpjmccajkcmmaaaGreatDoor
open Go.RowKit

def wordOk (l : List UInt8) (r : CR) (p : List UInt8) : Bool := p.isPrefixOf (l.drop r.at') && (((l.drop r.at').drop p.length).dropWhile blankB).head? == some 40
theorem wordC_eq (l : List UInt8) (r : CR) : wordC l r = (condWords.find? (wordOk l r)).getD [] := rfl
theorem head_paren (x : List UInt8) : Lib.hasPrefix x [40] = (x.head? == some 40) := by
  cases x with
  | nil => rfl
  | cons c r =>
    by_cases h : c = 40
    · subst h; rfl
    · have e1 : (40 == c) = false := beq_eq_false_iff_ne.2 (Ne.symm h)
      have e2 : ((c :: r).head? == some 40) = false := beq_eq_false_iff_ne.2 (fun e => h (Option.some.inj e))
      rw [e2]
      show ((40 == c) && _) = false
      rw [e1]
      rfl
def WordQ (l : List UInt8) (r : CR) (w : World) (e : Ending) (w' : World) : Prop := e = .returned (.string ⟨(wordC l r).toArray⟩) ∧ Below w.heap.size w w'

set_option maxHeartbeats 2000000 in
set_option maxRecDepth 100000 in
theorem word_any {rb : Nat} {l : List UInt8} {r : CR} (w : World) (h : IsRd rb l r w) :
    Calls Tryz.prog 119 #[.pointer (some ⟨rb, 0, none⟩)] w (WordQ l r w) := by
  have hle := h.at_le
  have hll := h.len
  have hsz : (⟨l.toArray⟩ : ByteArray).size = l.length := by show l.toArray.size = _; simp
  have HR : Hid (∀ w, WordQ l r w = fun e w' => e = .returned (.string ⟨(wordC l r).toArray⟩) ∧ Below w.heap.size w w') := Lib.hid (fun w => rfl)
  have HW := Lib.hid (wordC_eq l r)
  generalize wordC l r = q at HR HW
  rw [HR.out]
  obtain ⟨o, ho⟩ : ∃ o, o = Obj.cells #[.string ⟨#[100, 101, 102, 105, 110, 101, 100]⟩, .string ⟨#[101, 109, 112, 116, 121]⟩, .string ⟨#[109, 97, 107, 101]⟩, .string ⟨#[116, 97, 114, 103, 101, 116]⟩, .string ⟨#[99, 111, 109, 109, 97, 110, 100, 115]⟩, .string ⟨#[101, 120, 105, 115, 116, 115]⟩] 9 := ⟨_, rfl⟩
  have HX : Hid (∀ W : World, W.heap[w.heap.size]? = some o → ∀ i, i < 6 → W.cell? ⟨w.heap.size, i, none⟩ = some (.string ⟨(condWords.getD i []).toArray⟩)) := Lib.hid (fun W hW i hi => by
    rw [ho] at hW
    match i, hi with
    | 0, _ => exact Lib.cell_of_heap hW 0
    | 1, _ => exact Lib.cell_of_heap hW 1
    | 2, _ => exact Lib.cell_of_heap hW 2
    | 3, _ => exact Lib.cell_of_heap hW 3
    | 4, _ => exact Lib.cell_of_heap hW 4
    | 5, _ => exact Lib.cell_of_heap hW 5)
  have HO0 := Lib.hid (heap_alloc_new w o)
  have HB0 := Lib.hid ((Below.refl w.heap.size w).alloc (Nat.le_refl _) o)
  have H := Lib.hid h
  have HSz := Lib.hid hsz
  obtain ⟨u, hu⟩ : ∃ u : ByteArray, u = (⟨l.toArray⟩ : ByteArray).extract r.at' (⟨l.toArray⟩ : ByteArray).size := ⟨_, rfl⟩
  have hul : u.data.toList = l.drop r.at' := by rw [hu, tail_list]
  have hsl : ∀ W : World, (Instr.slice 9 (.string ⟨l.toArray⟩) (some (.int .i64 r.at')) none none).run Tryz.prog W = .ok (.string u) W := fun W => by
    have := run_slice_string_l W 9 ⟨l.toArray⟩ Tryz.underlying9 .i64 (r.at' : Int) (by omega) (by rw [hsz]; omega)
    rw [this, hu]
    congr 2
  have HUL := Lib.hid hul
  clear h hu hul
  subst ho
  go_enter Tryz.func119, Tryz.ntmps119
  go_wp2
  go_loopw [9] (fun v9 wr => ∃ i : Nat, v9 = .int .i64 i ∧ i ≤ 6 ∧ Hid (q = ((condWords.drop i).find? (wordOk l r)).getD []) ∧ Hid (wr.heap[w.heap.size]? = some (.cells #[.string ⟨#[100, 101, 102, 105, 110, 101, 100]⟩, .string ⟨#[101, 109, 112, 116, 121]⟩, .string ⟨#[109, 97, 107, 101]⟩, .string ⟨#[116, 97, 114, 103, 101, 116]⟩, .string ⟨#[99, 111, 109, 109, 97, 110, 100, 115]⟩, .string ⟨#[101, 120, 105, 115, 116, 115]⟩] 9 (0, 0))) ∧ Hid (Below w.heap.size w wr)) (fun v9 _ => 7 - (intOf v9).toNat)
  case atStart => exact ⟨0, rfl, by omega, HW, HO0, HB0⟩
  case round =>
    obtain ⟨i, rfl, hi, HF, HO, HB⟩ := hrel
    by_cases hlt : i < 6
    · have hI := H.out.below HB.out
      have d0 : ∀ n, (wr.drewN n).cell? ⟨rb, 0, none⟩ = some (.string ⟨l.toArray⟩) := fun n => Lib.cell_of_heap (w := wr) hI.cells 0
      have d1 : ∀ n, (wr.drewN n).cell? ⟨rb, 1, none⟩ = some (.int .i64 r.at') := fun n => Lib.cell_of_heap (w := wr) hI.cells 1
      have hc := HX.out wr HO.out i hlt
      have hcw : condWords.drop i = condWords.getD i [] :: condWords.drop (i + 1) := by
        match i, hlt with
        | 0, _ => rfl
        | 1, _ => rfl
        | 2, _ => rfl
        | 3, _ => rfl
        | 4, _ => rfl
        | 5, _ => rfl
      generalize condWords.getD i [] = p at hc hcw
      have hfd : ((condWords.drop i).find? (wordOk l r)).getD [] = if wordOk l r p = true then p else ((condWords.drop (i + 1)).find? (wordOk l r)).getD [] := by
        rw [hcw, List.find?_cons]
        cases wordOk l r p <;> simp
      have hP : ∀ W, Calls Tryz.prog 83 #[.string u, .string ⟨p.toArray⟩] W fun e w' => e = .returned (.tuple #[.string ⟨(Lib.trimPrefix (l.drop r.at') p).toArray⟩, .bool (p.isPrefixOf (l.drop r.at'))]) ∧ w' = W := fun W => by
        refine (Tryz.strings_CutPrefix u ⟨p.toArray⟩ W).mono ?_
        rintro e w' ⟨rfl, rfl⟩
        rw [HUL.out]
        exact ⟨rfl, rfl⟩
      have hok : wordOk l r p = (p.isPrefixOf (l.drop r.at') && (((l.drop r.at').drop p.length).dropWhile blankB).head? == some 40) := rfl
      have htp : p.isPrefixOf (l.drop r.at') = true → Lib.trimPrefix (l.drop r.at') p = (l.drop r.at').drop p.length := fun h => by
        unfold Lib.trimPrefix Lib.hasPrefix
        rw [if_pos h]
      generalize Lib.trimPrefix (l.drop r.at') p = tr at hP htp
      generalize p.isPrefixOf (l.drop r.at') = b at hP hok htp
      have HP := Lib.hid hP
      clear hP hcw hI
      cases b with
      | false =>
        have HF2 : Hid (q = ((condWords.drop (i + 1)).find? (wordOk l r)).getD []) := Lib.hid (by rw [HF.out, hfd, hok]; rfl)
        clear hfd hok htp
        have HOn : ∀ n, Hid ((wr.drewN n).heap[w.heap.size]? = some (.cells #[.string ⟨#[100, 101, 102, 105, 110, 101, 100]⟩, .string ⟨#[101, 109, 112, 116, 121]⟩, .string ⟨#[109, 97, 107, 101]⟩, .string ⟨#[116, 97, 114, 103, 101, 116]⟩, .string ⟨#[99, 111, 109, 109, 97, 110, 100, 115]⟩, .string ⟨#[101, 120, 105, 115, 116, 115]⟩] 9 (0, 0))) := fun n => HO
        go_wp2
        go_quiet (exact Calls.quiet_of_same (HP.out _))
        go_wp2
        go_roundw
        case rel => exact ⟨i + 1, by go_num, by omega, HF2, HOn _, Lib.hid (HB.out.trans ((belowN wr _).mono HB.out.size))⟩
        case measure => simp [intOf]; omega
      | true =>
        have htr := htp rfl
        have hT := fun n => trim_any ⟨tr.toArray⟩ (wr.drewN n)
        change ∀ n, Calls _ _ _ _ fun e w' => e = .returned (.string ⟨(tr.dropWhile blankB).toArray⟩) ∧ Below (wr.drewN n).heap.size (wr.drewN n) w' at hT
        rw [htr] at hT
        have hH := fun W => Tryz.strings_HasPrefix ⟨(((l.drop r.at').drop p.length).dropWhile blankB).toArray⟩ ⟨#[40]⟩ W
        change ∀ W, Calls _ _ _ _ fun e w' => e = .returned (.bool (Lib.hasPrefix (((l.drop r.at').drop p.length).dropWhile blankB) [40])) ∧ w' = W at hH
        rw [head_paren] at hH
        rw [htr] at HP
        simp only [Bool.true_and] at hok
        rw [hok] at hfd
        generalize ((((l.drop r.at').drop p.length).dropWhile blankB).head? == some 40) = b2 at hH hfd
        generalize ((l.drop r.at').drop p.length).dropWhile blankB = y at hT hH
        generalize (l.drop r.at').drop p.length = z at hT HP
        have HT := Lib.hid hT
        have HH := Lib.hid hH
        clear hT hH hok htp htr
        cases b2 with
        | true =>
          have HF2 : Hid (q = p) := Lib.hid (by rw [HF.out, hfd]; rfl)
          clear hfd
          go_wp2
          go_quiet (exact Calls.quiet_of_same (HP.out _))
          go_wp2_with fail
          go_at_call 53
          refine (HT.out _).mono ?_
          rintro e w2 ⟨rfl, hb2⟩
          have HB2 := Lib.hid ((HB.out.trans ((belowN wr _).mono HB.out.size)).trans (hb2.mono HB.out.size))
          clear hb2
          go_wp2_with fail
          go_at_call 72
          refine (HH.out _).mono ?_
          rintro e w3 ⟨rfl, rfl⟩
          go_wp2
          go_ret
          exact ⟨by rw [HF2.out]; rfl, HB2.out⟩
        | false =>
          have HF2 : Hid (q = ((condWords.drop (i + 1)).find? (wordOk l r)).getD []) := Lib.hid (by rw [HF.out, hfd]; rfl)
          clear hfd
          have hblt : w.heap.size < wr.heap.size := (Array.getElem?_eq_some_iff.1 HO.out).1
          have HBlt := Lib.hid hblt
          clear hblt
          go_wp2
          go_quiet (exact Calls.quiet_of_same (HP.out _))
          go_wp2_with fail
          go_at_call 53
          refine (HT.out _).mono ?_
          rintro e w2 ⟨rfl, hb2⟩
          have HO2 := Lib.hid ((hb2.block w.heap.size HBlt.out).trans HO.out)
          have HB2 := Lib.hid ((HB.out.trans ((belowN wr _).mono HB.out.size)).trans (hb2.mono HB.out.size))
          clear hb2
          go_wp2_with fail
          go_at_call 72
          refine (HH.out _).mono ?_
          rintro e w3 ⟨rfl, rfl⟩
          go_wp2
          go_roundw
          case rel => exact ⟨i + 1, by go_num, by omega, HF2, HO2, HB2⟩
          case measure => simp [intOf]; omega
    · have HF2 : Hid (q = []) := Lib.hid (by
        rw [HF.out, List.drop_of_length_le (by show 6 ≤ i; omega)]
        rfl)
      go_wp2
      go_ret
      exact ⟨by rw [HF2.out]; rfl, HB.out⟩
end Go.Proofs.YtpjmccajkcmmaaaGreatDoor
