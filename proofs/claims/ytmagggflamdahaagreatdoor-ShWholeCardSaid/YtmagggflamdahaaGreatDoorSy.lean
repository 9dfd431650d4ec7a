/- bobstayref03.Store: Write: that it ends, and what stays. Printed by wip/genrefwr.py. bobstaylaw17.far and bobstaylaw17.stores of any files. Files among the arguments, opened. -/
import Derived.Test.YtmagggflamdahaaGreatDoorSn
import Derived.Test.YtmagggflamdahaaGreatDoorSo
import Derived.Deep.SlicePairs
import Derived.ChangeArms
namespace Go.Proofs.YtmagggflamdahaaGreatDoor
open Go.RowKit

/-- how much the document's store holds -/
def usedR (l : List RFile) : Int := l.foldl (fun n f => IntKind.i64.wrap (n + f.text.size)) 0

set_option maxHeartbeats 2000000 in
set_option maxRecDepth 100000 in
theorem refUsed_same {B rb : Nat} {l : List RFile} (w : World) (h : RefAt B rb l w) : Calls Tryz.prog 55 #[.pointer (some ⟨rb, 0, none⟩)] w fun e w' => e = .returned (.int .i64 (usedR l)) ∧ w = w' := by
  obtain ⟨room, now, lv, h1, h2⟩ := h.cells
  have hfew := h.few
  have c2 : w.cell? ⟨rb, 2, none⟩ = some lv := Lib.cell_of_heap h1 2
  have HX : Hid (∀ i f, l[i]? = some f → ∃ g cap, lv = .slice (some ⟨g, 0, none⟩) l.length cap ∧ w.cell? ⟨g, i * 4 + 1, none⟩ = some (.string f.text)) := Lib.hid (fun i f hx => by
    have hi : i < l.length := (List.getElem?_eq_some_iff.1 hx).1
    obtain ⟨g, cap, rfl, hg, hgl, hcap⟩ := ownsRow_ne0 h2 (by omega)
    refine ⟨g, cap, rfl, ?_⟩
    have := h2.cellAt (i * 4 + 1) (by omega)
    rw [rcells_get l i 1 f hx (by omega)] at this
    exact this)
  obtain ⟨a, cap, rfl⟩ := ownsRow_slice h2
  clear h h1 h2
  go_enter Tryz.func55, Tryz.ntmps55
  go_wp2
  go_loop [3, 4] (fun v3 v4 => ∃ (i : Nat) (n : Int), v3 = .int .i64 n ∧ v4 = .int .i64 i ∧ i ≤ l.length ∧ Hid (n = usedR (l.take i))) (fun _ v4 => l.length + 1 - (intOf v4).toNat)
  case atStart => exact ⟨0, 0, rfl, rfl, by omega, Lib.hid rfl⟩
  case round =>
    obtain ⟨i, n, rfl, rfl, hi, HN⟩ := hrel
    by_cases hlt : i < l.length
    · obtain ⟨f, hx⟩ : ∃ f, l[i]? = some f := ⟨l[i], List.getElem?_eq_getElem hlt⟩
      obtain ⟨g, cap', he, hc⟩ := HX.out i f hx
      simp only [Value.slice.injEq] at he
      obtain ⟨rfl, -, rfl⟩ := he
      obtain ⟨m, hm⟩ : ∃ m, IntKind.i64.wrap (n + (f.text.size : Int)) = m := ⟨_, rfl⟩
      have HN2 : Hid (m = usedR (l.take (i + 1))) := Lib.hid (by
        rw [List.take_add_one, hx, ← hm, HN.out]
        simp [usedR, List.foldl_append])
      clear hx
      go_wp2
      go_round
      case rel => exact ⟨i + 1, _, rfl, by go_num, by omega, HN2⟩
      case measure => simp [intOf]; omega
    · have HF : Hid (n = usedR l) := Lib.hid (by rw [HN.out, List.take_of_length_le (by omega)])
      go_wp2
      go_ret
      exact ⟨by rw [HF.out]; rfl, rfl⟩

set_option maxHeartbeats 8000000 in
set_option maxRecDepth 100000 in
theorem refWrite_any {B rb : Nat} {l : List RFile} (p tx : ByteArray) (hp : p.size ≤ 1073740000) (w : World) (hB : B ≤ w.heap.size) (h : RefAt B rb l w) :
    Calls Tryz.prog 33 #[.pointer (some ⟨rb, 0, none⟩), .string p, .string tx] w (RefQ B rb w) := by
  have HW := Lib.hid (refWhere_any p hp w)
  have HR := Lib.hid h
  clear h
  go_enter Tryz.func33, Tryz.ntmps33
  go_wp2_with fail
  go_at_call 51
  refine HW.out.mono ?_
  rintro e w1 ⟨t, b, rfl, ht, hb⟩
  have h1 := HR.out.below hb
  have HR1 := Lib.hid h1
  have HB1 : Hid (Below B w w1) := Lib.hid (hb.mono hB)
  have HS1 : Hid (B ≤ w1.heap.size) := Lib.hid (Nat.le_trans hB hb.size)
  clear hb h1
  cases b with
  | false =>
    go_wp2
    go_ret
    exact ⟨⟨_, rfl⟩, ⟨_, HR1.out⟩, HB1.out⟩
  | true =>
    have HH := Lib.hid (refHome_any t (by omega) w1 HR1.out)
    go_wp2_with fail
    go_at_call 53
    refine HH.out.mono ?_
    rintro e w2 ⟨k, rfl, hb2⟩
    have h2 := HR1.out.below hb2
    have HR2 := Lib.hid h2
    have HB2 : Hid (Below B w w2) := Lib.hid (HB1.out.trans (hb2.mono HS1.out))
    have HS2 : Hid (B ≤ w2.heap.size) := Lib.hid (Nat.le_trans HS1.out hb2.size)
    have HA := Lib.hid (refAt_any t w2 HR2.out)
    clear h2 hb2
    go_wp2_with fail
    go_at_call 52
    refine HA.out.mono ?_
    rintro e w3 ⟨i, rfl, hi, rfl⟩
    have HUs : Hid (∀ n, Calls Tryz.prog 55 #[.pointer (some ⟨rb, 0, none⟩)] (w2.drewN n) fun e w' => e = .returned (.int .i64 (usedR l)) ∧ w2.drewN n = w') := Lib.hid (fun n => refUsed_same (w2.drewN n) (HR2.out.keep (fun _ _ _ => rfl)))
    generalize usedR l = u at HUs
    obtain ⟨room, now, lv, q1, q2⟩ := HR2.out.cells
    have c2 : w2.cell? ⟨rb, 2, none⟩ = some lv := Lib.cell_of_heap q1 2
    have c0 : w2.cell? ⟨rb, 0, none⟩ = some (.int .i64 room) := Lib.cell_of_heap q1 0
    obtain ⟨rm, hrm⟩ : ∃ rm, IntKind.i64.wrap (room - (tx.size : Int)) = rm := ⟨_, rfl⟩
    have HX : Hid (∀ j f, l[j]? = some f → ∃ g cap, lv = .slice (some ⟨g, 0, none⟩) l.length cap ∧ w2.cell? ⟨g, j * 4 + 3, none⟩ = some (.bool f.dir) ∧ w2.cell? ⟨g, j * 4 + 1, none⟩ = some (.string f.text)) := Lib.hid (fun j f hx => by
      have hj : j < l.length := (List.getElem?_eq_some_iff.1 hx).1
      obtain ⟨g, cap, rfl, hg, hgl, hcap⟩ := ownsRow_ne0 q2 (by omega)
      refine ⟨g, cap, rfl, ?_, ?_⟩
      · have := q2.cellAt (j * 4 + 3) (by omega)
        rw [rcells_get l j 3 f hx (by omega)] at this
        exact this
      · have := q2.cellAt (j * 4 + 1) (by omega)
        rw [rcells_get l j 1 f hx (by omega)] at this
        exact this)
    rcases hi with ⟨rfl, hno⟩ | ⟨j, f', rfl, hj, hfp⟩
    · obtain ⟨a, cp, rfl⟩ := ownsRow_slice q2
      clear hno q1 q2 HX
      cases hk : (k != 0) with
      | true =>
        go_wp2
        go_ret
        exact ⟨⟨_, rfl⟩, ⟨_, HR2.out⟩, HB2.out⟩
      | false =>
        by_cases hbig : 65536 < (tx.size : Int)
        · go_wp2
          go_ret
          exact ⟨⟨_, rfl⟩, ⟨_, HR2.out⟩, HB2.out⟩
        · obtain ⟨uu, huu⟩ : ∃ uu, IntKind.i64.wrap u = uu := ⟨_, rfl⟩
          have huu0 : IntKind.i64.wrap (u - 0) = uu := by rw [Int.sub_zero]; exact huu
          by_cases hf : rm < uu
          · go_wp2
            go_quiet (exact Calls.quiet_of_same ((HUs.out _).mono fun _ _ ⟨h, k⟩ => ⟨h, k.symm⟩))
            go_wp2
            go_ret
            exact ⟨⟨_, rfl⟩, ⟨_, HR2.out.keep (fun _ _ _ => rfl)⟩, HB2.out.trans ((belowN w2 _).mono HS2.out)⟩
          · have hfd : decide (rm < uu) = false := decide_eq_false hf
            by_cases h512 : 512 ≤ (l.length : Int)
            · go_wp2
              go_quiet (exact Calls.quiet_of_same ((HUs.out _).mono fun _ _ ⟨h, k⟩ => ⟨h, k.symm⟩))
              go_wp2
              go_ret
              exact ⟨⟨_, rfl⟩, ⟨_, HR2.out.keep (fun _ _ _ => rfl)⟩, HB2.out.trans ((belowN w2 _).mono HS2.out)⟩
            · have h5d : decide (512 ≤ (l.length : Int)) = false := decide_eq_false h512
              have HSe : Hid (∀ n, Calls Tryz.prog 54 #[.pointer (some ⟨rb, 0, none⟩), .agg #[.string t, .string tx, .int .i64 0, .bool false]] (w2.drewN n) fun e w' => e = .returned (.tuple #[]) ∧ (∃ l', RefAt B rb l' w') ∧ Below B (w2.drewN n) w') := Lib.hid (fun n => refSet_any (B := B) (rb := rb) (l := l) ⟨t, tx, 0, false⟩ (w2.drewN n) HS2.out (HR2.out.keep (fun _ _ _ => rfl)) (.inl (by omega)))
              clear h512 hf
              go_wp2
              go_quiet (exact Calls.quiet_of_same ((HUs.out _).mono fun _ _ ⟨h, k⟩ => ⟨h, k.symm⟩))
              go_wp2_with fail
              go_at_call 54
              refine (HSe.out nq).mono ?_
              rintro e w3 ⟨rfl, ⟨l3, hr3⟩, hb3⟩
              have HR3 := Lib.hid hr3
              have HB3 : Hid (Below B w w3) := Lib.hid ((HB2.out.trans ((belowN w2 _).mono HS2.out)).trans hb3)
              clear hr3 hb3
              go_wp2_with fail
              go_at_call 56
              refine (refNote_any 2 t w3 HR3.out).mono ?_
              rintro e w4 ⟨rfl, rfl⟩
              go_wp2
              go_ret
              exact ⟨⟨_, rfl⟩, ⟨_, HR3.out⟩, HB3.out⟩
    · obtain ⟨g, cap, rfl, hd3, hd1⟩ := HX.out j f' hj
      have hjl : j < l.length := (List.getElem?_eq_some_iff.1 hj).1
      have HJ : Hid (l[j]? = some f' ∧ f'.path = t) := Lib.hid ⟨hj, hfp⟩
      obtain ⟨fp, ft, fm, fd⟩ := f'
      simp only at hd3 hd1
      have hj0 : 0 ≤ (j : Int) := by omega
      have hj1 : ¬ (j : Int) < 0 := by omega
      have hj2 : (j : Int) < l.length := by omega
      have hfw := HR2.out.few
      clear hj hfp q1 q2 HX
      cases fd with
      | true =>
        go_wp2
        go_ret
        exact ⟨⟨_, rfl⟩, ⟨_, HR2.out⟩, HB2.out⟩
      | false =>
        cases hk : (k != 0) with
        | true =>
          go_wp2
          go_ret
          exact ⟨⟨_, rfl⟩, ⟨_, HR2.out⟩, HB2.out⟩
        | false =>
          by_cases hbig : 65536 < (tx.size : Int)
          · go_wp2
            go_ret
            exact ⟨⟨_, rfl⟩, ⟨_, HR2.out⟩, HB2.out⟩
          · obtain ⟨uu, huu⟩ : ∃ uu, IntKind.i64.wrap (u - (ft.size : Int)) = uu := ⟨_, rfl⟩
            by_cases hf : rm < uu
            · go_wp2
              go_quiet (exact Calls.quiet_of_same ((HUs.out _).mono fun _ _ ⟨h, k⟩ => ⟨h, k.symm⟩))
              go_wp2
              go_ret
              exact ⟨⟨_, rfl⟩, ⟨_, HR2.out.keep (fun _ _ _ => rfl)⟩, HB2.out.trans ((belowN w2 _).mono HS2.out)⟩
            · have hfd : decide (rm < uu) = false := decide_eq_false hf
              have HSe : Hid (∀ n, Calls Tryz.prog 54 #[.pointer (some ⟨rb, 0, none⟩), .agg #[.string t, .string tx, .int .i64 0, .bool false]] (w2.drewN n) fun e w' => e = .returned (.tuple #[]) ∧ (∃ l', RefAt B rb l' w') ∧ Below B (w2.drewN n) w') := Lib.hid (fun n => refSet_any (B := B) (rb := rb) (l := l) ⟨t, tx, 0, false⟩ (w2.drewN n) HS2.out (HR2.out.keep (fun _ _ _ => rfl)) (.inr ⟨_, List.mem_of_getElem? HJ.out.1, HJ.out.2⟩))
              have hjd : decide ((j : Int) < 0) = false := decide_eq_false hj1
              clear hf hj1
              go_wp2
              go_quiet (exact Calls.quiet_of_same ((HUs.out _).mono fun _ _ ⟨h, k⟩ => ⟨h, k.symm⟩))
              go_wp2_with fail
              go_at_call 54
              refine (HSe.out nq).mono ?_
              rintro e w3 ⟨rfl, ⟨l3, hr3⟩, hb3⟩
              have HR3 := Lib.hid hr3
              have HB3 : Hid (Below B w w3) := Lib.hid ((HB2.out.trans ((belowN w2 _).mono HS2.out)).trans hb3)
              clear hr3 hb3
              go_wp2_with fail
              go_at_call 56
              refine (refNote_any 2 t w3 HR3.out).mono ?_
              rintro e w4 ⟨rfl, rfl⟩
              go_wp2
              go_ret
              exact ⟨⟨_, rfl⟩, ⟨_, HR3.out⟩, HB3.out⟩
end Go.Proofs.YtmagggflamdahaaGreatDoor

namespace Go.Proofs.YtmagggflamdahaaGreatDoor
open Go.RowKit

/-- files that came in: their paths and texts -/
def FilesAt (w : World) (a : Option Addr) (cap : Nat) (l : List (List UInt8 × List UInt8)) : Prop :=
  l.length ≤ cap ∧ ∀ i f, l[i]? = some f → ∃ x, a = some x ∧ x.block < w.heap.size ∧ w.cell? (x.add (i * 2)) = some (.string ⟨f.1.toArray⟩) ∧ w.cell? (x.add (i * 2 + 1)) = some (.string ⟨f.2.toArray⟩)
theorem add_block (x : Addr) (n : Nat) : (x.add n).block = x.block := by unfold Addr.add; split <;> rfl
theorem FilesAt.below {w w' : World} {a : Option Addr} {cap : Nat} {l : List (List UInt8 × List UInt8)} (h : FilesAt w a cap l) (hb : Below w.heap.size w w') : FilesAt w' a cap l := by
  refine ⟨h.1, fun i f hi => ?_⟩
  obtain ⟨x, h1, h2, h3, h4⟩ := h.2 i f hi
  exact ⟨x, h1, Nat.lt_of_lt_of_le h2 hb.size, (hb.cell (by rw [add_block]; exact h2)).trans h3, (hb.cell (by rw [add_block]; exact h2)).trans h4⟩

/-- no file is long, nor are they many -/
def ShortF (n : Nat) (l : List (List UInt8 × List UInt8)) : Prop := n ≤ 600 ∧ l.length ≤ 20 ∧ ∀ f ∈ l, f.1.length ≤ 600 ∧ f.2.length ≤ 600
def FarQ (n : Nat) (l : List (List UInt8 × List UInt8)) (w : World) (e : Ending) (w' : World) : Prop := (∃ b, e = .returned (.bool b) ∧ (b = false → ShortF n l)) ∧ Below w.heap.size w w'

set_option maxHeartbeats 2000000 in
set_option maxRecDepth 100000 in
theorem far_any (s : ByteArray) (hs : s.size ≤ 140737488351232) (a : Option Addr) (cap : Nat) (l : List (List UInt8 × List UInt8)) (w : World) (h : FilesAt w a cap l) :
    Calls Tryz.prog 18 #[.string s, .slice a l.length cap] w (FarQ s.size l w) := by
  obtain ⟨m, hm⟩ : ∃ m : Nat, (m : Int) = min (l.length : Int) 20 := ⟨(min (l.length : Int) 20).toNat, by omega⟩
  have hm20 : m ≤ 20 ∧ m ≤ l.length ∧ (l.length ≤ 20 → m = l.length) := by omega
  have hlc := h.1
  have hsl : ∀ W, (Instr.slice 55 (.slice a l.length cap) none (some (.int .i64 (m : Int))) none).run Tryz.prog W = .ok (.slice a m cap) W := fun W => by
    have he : Tryz.prog.elem 55 = 80 := by kernel_rfl
    rw [run_slice_h W 55 a l.length cap (by rw [he]; exact Tryz.underlying55) .i64 (m : Int) (by omega) (by omega), he, Tryz.sizeOf80 W]
    simp only [Result.andThen, sliced]
    cases a <;> simp [Addr.add]
  have HF := Lib.hid h
  have HM := Lib.hid hm20
  have HMM := Lib.hid hm
  have hmc : min (l.length : Int) 20 = (m : Int) := hm.symm
  clear h hm hm20 hlc
  go_enter Tryz.func18, Tryz.ntmps18
  go_wp2
  go_loopw [5, 16] (fun v5 v16 wr => ∃ (i : Nat) (n : Int), v5 = .int .i64 n ∧ v16 = .int .i64 i ∧ i ≤ m ∧ Hid ((s.size : Int) ≤ n ∧ ∀ j f, j < i → l[j]? = some f → (f.1.length : Int) ≤ n ∧ (f.2.length : Int) ≤ n) ∧ Hid (Below w.heap.size w wr)) (fun _ v16 _ => m + 1 - (intOf v16).toNat)
  case atStart => exact ⟨0, s.size, rfl, rfl, by omega, Lib.hid ⟨Int.le_refl _, fun j f h => by omega⟩, Lib.hid (Below.refl _ _)⟩
  case round =>
    obtain ⟨i, n, rfl, rfl, hi, HN, HB⟩ := hrel
    by_cases hlt : i < m
    · obtain ⟨⟨p, t⟩, hx⟩ : ∃ f, l[i]? = some f := ⟨l[i]'(by have := HM.out; omega), List.getElem?_eq_getElem (by have := HM.out; omega)⟩
      obtain ⟨x, rfl, hxb, h1, h2⟩ := (HF.out.below HB.out).2 i _ hx
      simp only at h1 h2
      have h3 : wr.cell? ⟨(x.add (i * 2)).block, (x.add (i * 2)).off + 1, none⟩ = some (.string ⟨t.toArray⟩) := by
        have : wr.cell? ((x.add (i * 2)).add 1) = some (.string ⟨t.toArray⟩) := by rw [Go.Deep.add_add]; exact h2
        exact this
      have hbox := heap_alloc_new wr (.cells #[.string ⟨p.toArray⟩, .string ⟨t.toArray⟩] 80)
      have z0 : (wr.alloc (.cells #[.string ⟨p.toArray⟩, .string ⟨t.toArray⟩] 80)).cell? ⟨wr.heap.size, 0, none⟩ = some (.string ⟨p.toArray⟩) := Lib.cell_of_heap hbox 0
      have z1 : (wr.alloc (.cells #[.string ⟨p.toArray⟩, .string ⟨t.toArray⟩] 80)).cell? ⟨wr.heap.size, 1, none⟩ = some (.string ⟨t.toArray⟩) := Lib.cell_of_heap hbox 1
      have HB2 := Lib.hid (HB.out.alloc HB.out.size (.cells #[.string ⟨p.toArray⟩, .string ⟨t.toArray⟩] 80))
      have HX := Lib.hid hx
      obtain ⟨n2, hn2⟩ : ∃ n2, (if (p.length : Int) > (if (t.length : Int) > n then (t.length : Int) else n) then (p.length : Int) else if (t.length : Int) > n then (t.length : Int) else n) = n2 := ⟨_, rfl⟩
      have hn3 : n ≤ n2 ∧ (t.length : Int) ≤ n2 ∧ (p.length : Int) ≤ n2 := by
        rw [← hn2]
        repeat' split
        all_goals omega
      have HN2 : Hid ((s.size : Int) ≤ n2 ∧ ∀ j f, j < i + 1 → l[j]? = some f → (f.1.length : Int) ≤ n2 ∧ (f.2.length : Int) ≤ n2) := Lib.hid (by
        obtain ⟨q1, q2⟩ := HN.out
        refine ⟨by omega, fun j f hj hf => ?_⟩
        by_cases hji : j = i
        · subst hji
          rw [HX.out] at hf
          cases hf
          simp only
          omega
        · have := q2 j f (by omega) hf
          omega)
      have hmax : ∀ W : World, (Builtin.max_ #[3, 3, 3] 3 #[.int .i64 n, .int .i64 (t.length : Int), .int .i64 (p.length : Int)]).run Tryz.prog W = .ok (.int .i64 n2) W := fun W => by rw [← hn2]; simp [Builtin.max_, Builtin.max2]
      clear hx hbox hn3 hn2
      go_wp2
      go_roundw
      case rel => exact ⟨i + 1, n2, rfl, by go_num, by omega, HN2, HB2⟩
      case measure => simp [intOf]; omega
    · have HE : Hid (n ≤ 600 → l.length ≤ 20 → ShortF s.size l) := Lib.hid (fun h6 h2 => by
        obtain ⟨q1, q2⟩ := HN.out
        refine ⟨by omega, h2, fun f hf => ?_⟩
        obtain ⟨j, hj⟩ := List.getElem?_of_mem hf
        have hjl : j < l.length := (List.getElem?_eq_some_iff.1 hj).1
        have := q2 j f (by have := HM.out; omega) hj
        omega)
      by_cases h6 : 600 < n
      · have h6d : decide (600 < n) = true := decide_eq_true h6
        go_wp2
        go_ret
        exact ⟨⟨_, rfl, fun h => (by simp at h)⟩, HB.out⟩
      · have h6d : decide (600 < n) = false := decide_eq_false h6
        by_cases h2 : 20 < (l.length : Int)
        · have h2d : decide (20 < (l.length : Int)) = true := decide_eq_true h2
          go_wp2
          go_ret
          exact ⟨⟨_, rfl, fun h => (by simp at h)⟩, HB.out⟩
        · have h2d : decide (20 < (l.length : Int)) = false := decide_eq_false h2
          have HSh := Lib.hid (HE.out (by omega) (by omega))
          go_wp2
          go_ret
          exact ⟨⟨_, rfl, fun _ => HSh.out⟩, HB.out⟩

/-- the store of files -/
def stF (l : List (List UInt8 × List UInt8)) : PStore := l.foldl (fun st f => (writeF st f.1 f.2).1) st0

set_option maxHeartbeats 8000000 in
set_option maxRecDepth 100000 in
theorem stores_any (a : Option Addr) (cap : Nat) (l : List (List UInt8 × List UInt8)) (w : World) (h : FilesAt w a cap l) (hl : l.length ≤ 20) (hx : ∀ f ∈ l, f.1.length ≤ 600 ∧ f.2.length ≤ 600) :
    Calls Tryz.prog 11 #[.slice a l.length cap] w (StoresQ (stF l) w) := by
  have HN := Lib.hid (new_store 5000 (by omega) w)
  have HFi := Lib.hid h
  have HSh := Lib.hid (And.intro hl hx)
  clear h hl hx
  go_enter Tryz.func11, Tryz.ntmps11
  go_wp2_with fail
  go_at_call 28
  refine HN.out.mono ?_
  rintro e w1 ⟨pb, mb, rfl, hs1, hb1, hpb, hmb⟩
  have HS1 := Lib.hid hs1
  have HB1 := Lib.hid hb1
  have HRN := Lib.hid (refNew_any w1)
  clear hs1 hb1
  go_wp2_with fail
  go_at_call 29
  refine HRN.out.mono ?_
  rintro e w2 ⟨lv, rfl, hr2, hb2⟩
  obtain ⟨ra, rc, rfl⟩ := ownsRow_slice hr2
  have hl1 := HS1.out.ltp
  have hl2 := HS1.out.ltm
  have hz1 := HB1.out.size
  have hs2 := HS1.out.below hb2
  obtain ⟨o, ho⟩ : ∃ o, o = Obj.cells #[.int .i64 5000, .int .i64 0, .slice ra 1 rc, .bool false, .slice none 0 0] 75 := ⟨_, rfl⟩
  have hb3 : Below w2.heap.size w2 (w2.alloc o) := (Below.refl _ _).alloc (Nat.le_refl _) _
  have hs3 := hs2.below hb3
  have hr3 : RefAt w1.heap.size w2.heap.size [⟨⟨#[47]⟩, ⟨#[]⟩, 0, true⟩] (w2.alloc o) := ⟨⟨5000, 0, .slice ra 1 rc, by rw [ho]; exact heap_alloc_new w2 _, hr2.alloc o⟩, hb2.size, by simp, by simp⟩
  have hb13 : Below w.heap.size w (w2.alloc o) := (HB1.out.trans (hb2.mono hz1)).trans (hb3.mono (Nat.le_trans hz1 hb2.size))
  have HMk := Lib.hid (mkdir_store pb mb (newS 5000) ⟨#[47, 100]⟩ (by show 2 ≤ _; omega) (w2.alloc o) hs3)
  have HR3 := Lib.hid hr3
  have HB3 := Lib.hid hb13
  have HZ : Hid (w1.heap.size ≤ (w2.alloc o).heap.size) := Lib.hid (Nat.le_trans hb2.size hb3.size)
  clear hs2 hs3 hr2 hr3 hb2 hb3 hb13 HRN HS1
  have hne : ((Value.pointer (some ⟨pb, 0, none⟩) : Value) ≠ .pointer none) := by simp
  subst ho
  go_wp2_with fail
  go_at_call 30
  refine HMk.out.mono ?_
  rintro e w4 ⟨rfl, hs4, hk4⟩
  have hr4 := HR3.out.keep (w' := w4) (fun k hk hl => hk4.block k hl (by omega))
  have hb4 : Below w.heap.size w w4 := HB3.out.trans (hk4.mono HB3.out.size (M' := fun _ => False) (fun k hk h => by omega) |>.below (fun _ _ h => h))
  have HS4 : Hid (IsStore pb mb st0 w4) := Lib.hid hs4
  have hz4 : w1.heap.size ≤ w4.heap.size := Nat.le_trans HZ.out hk4.size
  have HRM := Lib.hid (refMkdir_any ⟨#[47, 100]⟩ (by show 2 ≤ _; omega) w4 hz4 hr4)
  have HB4 := Lib.hid hb4
  have HZ4 := Lib.hid hz4
  clear hs4 hk4 hr4 hb4 hz4
  go_wp2_with fail
  go_at_call 31
  refine HRM.out.mono ?_
  rintro e w5 ⟨⟨n, rfl⟩, ⟨l5, hr5⟩, hb5⟩
  have HF : Hid (IsStore pb mb st0 w5 ∧ RefAt w1.heap.size w2.heap.size l5 w5 ∧ Below w.heap.size w w5 ∧ w1.heap.size ≤ w5.heap.size) := Lib.hid ⟨HS4.out.keep (fun k hk => hb5.block k (by omega)), hr5, HB4.out.trans (hb5.mono hz1), Nat.le_trans HZ4.out hb5.size⟩
  clear hr5 hb5
  go_wp2
  go_loopw [25] (fun v25 wr => ∃ (i : Nat) (lr : List RFile), v25 = .int .i64 i ∧ i ≤ l.length ∧ Hid (IsStore pb mb (stF (l.take i)) wr) ∧ Hid (RefAt w1.heap.size w2.heap.size lr wr) ∧ Hid (Below w.heap.size w wr) ∧ Hid (w1.heap.size ≤ wr.heap.size)) (fun v25 _ => l.length + 1 - (intOf v25).toNat)
  case atStart => exact ⟨0, l5, rfl, by omega, Lib.hid HF.out.1, Lib.hid HF.out.2.1, Lib.hid HF.out.2.2.1, Lib.hid HF.out.2.2.2⟩
  case round =>
    obtain ⟨i, lr, rfl, hi, HS, HR, HB, HZr⟩ := hrel
    have hlen := HSh.out.1
    by_cases hlt : i < l.length
    · obtain ⟨⟨p, t⟩, hx⟩ : ∃ f, l[i]? = some f := ⟨l[i], List.getElem?_eq_getElem hlt⟩
      obtain ⟨x, rfl, hxb, h1, h2⟩ := (HFi.out.below HB.out).2 i _ hx
      simp only at h1 h2
      have hpt := HSh.out.2 _ (List.mem_of_getElem? hx)
      simp only at hpt
      have h3 : wr.cell? ⟨(x.add (i * 2)).block, (x.add (i * 2)).off + 1, none⟩ = some (.string ⟨t.toArray⟩) := by
        have : wr.cell? ((x.add (i * 2)).add 1) = some (.string ⟨t.toArray⟩) := by rw [Go.Deep.add_add]; exact h2
        exact this
      have hbox := heap_alloc_new wr (.cells #[.string ⟨p.toArray⟩, .string ⟨t.toArray⟩] 80)
      have z0 : (wr.alloc (.cells #[.string ⟨p.toArray⟩, .string ⟨t.toArray⟩] 80)).cell? ⟨wr.heap.size, 0, none⟩ = some (.string ⟨p.toArray⟩) := Lib.cell_of_heap hbox 0
      have z1 : (wr.alloc (.cells #[.string ⟨p.toArray⟩, .string ⟨t.toArray⟩] 80)).cell? ⟨wr.heap.size, 1, none⟩ = some (.string ⟨t.toArray⟩) := Lib.cell_of_heap hbox 1
      have hba : Below wr.heap.size wr (wr.alloc (.cells #[.string ⟨p.toArray⟩, .string ⟨t.toArray⟩] 80)) := (Below.refl _ _).alloc (Nat.le_refl _) _
      have HBox := Lib.hid hbox
      have HB2 := Lib.hid (HB.out.alloc HB.out.size (.cells #[.string ⟨p.toArray⟩, .string ⟨t.toArray⟩] 80))
      have HR2 := Lib.hid (HR.out.below hba)
      have HPM : Hid (pb < wr.heap.size ∧ mb < wr.heap.size) := Lib.hid ⟨HS.out.ltp, HS.out.ltm⟩
      have HW := write_store pb mb (stF (l.take i)) ⟨p.toArray⟩ ⟨t.toArray⟩ (by show p.toArray.size ≤ _; simp; omega) (by show t.toArray.size ≤ _; simp; omega) _ (HS.out.below hba)
      have hst : (writeF (stF (l.take i)) p t).1 = stF (l.take (i + 1)) := by
        rw [List.take_add_one, hx]
        unfold stF
        rw [List.foldl_append]
        rfl
      change Calls _ _ _ _ fun e w' => e = .returned (.int .i64 (writeF (stF (l.take i)) p t).2) ∧ IsStore pb mb (writeF (stF (l.take i)) p t).1 w' ∧ Keeps (wr.alloc (.cells #[.string ⟨p.toArray⟩, .string ⟨t.toArray⟩] 80)).heap.size (fun k => k = pb ∨ k = mb) (wr.alloc (.cells #[.string ⟨p.toArray⟩, .string ⟨t.toArray⟩] 80)) w' at HW
      rw [hst] at HW
      generalize (writeF (stF (l.take i)) p t).2 = wn at HW
      replace HW := Lib.hid HW
      have HZ2 : Hid (w1.heap.size ≤ (wr.alloc (.cells #[.string ⟨p.toArray⟩, .string ⟨t.toArray⟩] 80)).heap.size) := Lib.hid (by have := HZr.out; simp; omega)
      clear hx hbox hba hst
      go_wp2_with fail
      go_at_call 32
      refine HW.out.mono ?_
      rintro e w6 ⟨rfl, hs6, hk6⟩
      have hbox6 := (hk6.block wr.heap.size (by simp) (by have := HPM.out; omega)).trans HBox.out
      have y0 : w6.cell? ⟨wr.heap.size, 0, none⟩ = some (.string ⟨p.toArray⟩) := Lib.cell_of_heap hbox6 0
      have y1 : w6.cell? ⟨wr.heap.size, 1, none⟩ = some (.string ⟨t.toArray⟩) := Lib.cell_of_heap hbox6 1
      have hr6 := HR2.out.keep (w' := w6) (fun k hk hlt => hk6.block k hlt (by omega))
      have HS6 := Lib.hid hs6
      have HB6 : Hid (Below w.heap.size w w6) := Lib.hid (HB2.out.trans ((hk6.mono HB2.out.size (M' := fun _ => False) (fun k hk e => by omega)).below (fun _ _ h => h)))
      have hz6 := Nat.le_trans HZ2.out hk6.size
      have HRW := Lib.hid (refWrite_any ⟨p.toArray⟩ ⟨t.toArray⟩ (by show p.toArray.size ≤ _; simp; omega) w6 hz6 hr6)
      have HZ6 := Lib.hid hz6
      clear hs6 hk6 hbox6 hr6 hz6 z0 z1 h1 h2 h3
      go_wp2_with fail
      go_at_call 33
      refine HRW.out.mono ?_
      rintro e w7 ⟨⟨n7, rfl⟩, ⟨l7, hr7⟩, hb7⟩
      have HS7 : Hid (IsStore pb mb (stF (l.take (i + 1))) w7) := Lib.hid (HS6.out.keep (fun k hk => hb7.block k (by omega)))
      have HR7 := Lib.hid hr7
      have HB7 : Hid (Below w.heap.size w w7) := Lib.hid (HB6.out.trans (hb7.mono hz1))
      have HZ7 : Hid (w1.heap.size ≤ w7.heap.size) := Lib.hid (Nat.le_trans HZ6.out hb7.size)
      clear hr7 hb7
      go_wp2
      go_roundw
      case rel => exact ⟨i + 1, l7, by go_num, by omega, HS7, HR7, HB7, HZ7⟩
      case measure => simp [intOf]; omega
    · have HS8 : Hid (IsStore pb mb (stF l) wr) := Lib.hid (by have := HS.out; rw [List.take_of_length_le (by omega)] at this; exact this)
      go_wp2
      go_ret2
      exact ⟨pb, mb, _, lr, w1.heap.size, rfl, hpb, hmb, hz1, hl1, hl2, HS8.out, HR.out, HB.out⟩
end Go.Proofs.YtmagggflamdahaaGreatDoor

namespace Go.Proofs.YtmagggflamdahaaGreatDoor
open Go.RowKit Go.ChangeShapes Go.WideShapes

/-- a text's bytes -/
def bytesOf (v : Value) : List UInt8 := match v with | .string s => s.data.toList | _ => []
theorem files_open {H : Type} {enc : TypeId × Value → H} {W : World} {base : Nat} {spare : Nat → Bool} {held : Bool} {fuel : Nat} {cs : List Value} {x : DataW H × List MemPlace}
    (hf : DataW.trod enc Tryz.prog W base spare held fuel 55 cs = some x) {a : Option Addr} {len cap : Nat} (hcs : cs = [.slice a len cap]) : ∃ l, l.length = len ∧ FilesAt W a cap l := by
  rcases Go.Deep.open_slice_pairs Tryz.underlying55 Tryz.underlying80 (by kernel_rfl) rfl rfl (by kernel_rfl) (by kernel_rfl) hf with ⟨h1, _⟩ | ⟨ad, len2, cap2, m, n, V0, V1, D0, D1, P0, P1, h1, _, hlc, _, hm, _, hx⟩
  · rw [h1] at hcs
    simp only [List.cons.injEq, Value.slice.injEq, and_true] at hcs
    obtain ⟨rfl, rfl, rfl⟩ := hcs
    exact ⟨[], rfl, by simp, fun i f hi => by simp at hi⟩
  · rw [h1] at hcs
    simp only [List.cons.injEq, Value.slice.injEq, and_true] at hcs
    obtain ⟨rfl, rfl, rfl⟩ := hcs
    refine ⟨(List.range len2).map (fun i => (bytesOf (V0 i), bytesOf (V1 i))), by simp, by simpa using hlc, fun i f hi => ?_⟩
    have hil : i < len2 := by
      have := (List.getElem?_eq_some_iff.1 hi).1
      simpa using this
    have him : i < m := by rw [hm]; split <;> omega
    obtain ⟨q1, q2, q3, q4⟩ := hx i him
    obtain ⟨s0, e0, _, _⟩ := DataW.trod_string Tryz.underlying9 q3
    obtain ⟨s1, e1, _, _⟩ := DataW.trod_string Tryz.underlying9 q4
    simp only [List.cons.injEq, and_true] at e0 e1
    rw [List.getElem?_map, List.getElem?_range hil] at hi
    simp only [Option.map_some, Option.some.injEq] at hi
    subst hi
    rw [e0] at q1
    rw [e1] at q2
    have hb := World.block_lt_of_cell? W _ q1
    rw [add_block] at hb
    refine ⟨ad, rfl, hb, ?_, ?_⟩
    · rw [q1, e0]; simp [bytesOf]
    · rw [q2, e1]; simp [bytesOf]
end Go.Proofs.YtmagggflamdahaaGreatDoor
