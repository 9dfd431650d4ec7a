/- cond.asker: calls, asks. -/
import Derived.Test.YtpjmccajkcmmaaaGreatDoorAskCM
namespace Go.Proofs.YtpjmccajkcmmaaaGreatDoor
open Go.RowKit

set_option maxHeartbeats 8000000 in
set_option maxRecDepth 100000 in
theorem calls_any (A : AEnv) (hA : A.OK) {kb : Nat} {f : Flt} (wd x : List UInt8) (at' : Nat) (r : Bool) (g : Flt) (hc : callsA A wd x at' f = some (r, g)) (w : World) (h : IsAsk A kb f w) :
    Calls Tryz.prog 42 #[.pointer (some ⟨kb, 0, none⟩), .agg #[.string ⟨wd.toArray⟩, .string ⟨x.toArray⟩, .int .i64 at']] w (AskQ A kb (.bool r) g w) := by
  obtain ⟨post, hpost⟩ : ∃ post, post = AskQ A kb (.bool r) g w := ⟨_, rfl⟩
  rw [← hpost]
  have HPost := Lib.hid hpost
  unfold callsA at hc
  by_cases hw : wd = [100, 101, 102, 105, 110, 101, 100]
  · subst hw
    rw [if_pos rfl] at hc
    have HJ0 := Lib.hid (AskJ.start h #[.string ⟨#[100, 101, 102, 105, 110, 101, 100]⟩, .string ⟨x.toArray⟩, .int .i64 at'] 121)
    cases hm : meansA A f x at' with
    | none => rw [hm] at hc; cases hc
    | some q =>
      obtain ⟨t, f1⟩ := q
      rw [hm] at hc
      simp only at hc
      have HM := Lib.hid (means_any A hA x at' t f1 hm _ HJ0.out.ask)
      have HGet := Lib.hid (fun W (h : IsAsk A kb f1 W) => get_any t W (h.vars hA))
      have HC := Lib.hid hc
      have hge := hA.get
      clear hc hm h hpost
      go_enter Tryz.func42, Tryz.ntmps42
      go_wp2_with fail
      go_at_call 55
      refine HM.out.mono ?_
      rintro e w1 ⟨⟨rfl, hi1, hk1⟩, hta⟩
      have HJ1 := Lib.hid (HJ0.out.step hi1 hk1)
      have HG1 := Lib.hid (HGet.out w1 hi1)
      clear hi1 hk1 HM HJ0 HGet hta
      have hB1 := HJ1.out.box
      have b0 : w1.cell? ⟨w.heap.size, 0, none⟩ = some (.string ⟨#[100, 101, 102, 105, 110, 101, 100]⟩) := Lib.cell_of_heap hB1 0
      obtain ⟨c0, -, c6, c7, -, -⟩ := HJ1.out.ask.at
      have hq := fun W => fault_ne f1.1 f1.2 W
      have hc := HC.out
      unfold noFlt at hc
      clear hB1 HC
      cases hf : (f1.1 == 0 && f1.2 == 0) with
      | false =>
        rw [hf] at hc hq
        rw [if_pos rfl] at hc
        cases hc
        go_wp2
        rw [HPost.out]
        exact ⟨rfl, HJ1.out.ask, HJ1.out.keeps⟩
      | true =>
        rw [hf] at hc hq
        rw [if_neg (by simp)] at hc
        rw [hge] at hc
        unfold GetQ at HG1
        cases hx : getS A.vs t with
        | none =>
          rw [hx] at hc HG1
          cases hc
          unfold getV at HG1
          simp only at HG1
          go_wp2_with fail
          go_at_call 56
          refine HG1.out.mono ?_
          rintro e w2 ⟨rfl, hw2⟩
          subst hw2
          go_wp2
          rw [HPost.out]
          exact ⟨rfl, HJ1.out.ask, HJ1.out.keeps⟩
        | some v =>
          rw [hx] at hc HG1
          cases hc
          unfold getV at HG1
          simp only at HG1
          go_wp2_with fail
          go_at_call 56
          refine HG1.out.mono ?_
          rintro e w2 ⟨rfl, hw2⟩
          subst hw2
          go_wp2
          rw [HPost.out]
          exact ⟨rfl, HJ1.out.ask, HJ1.out.keeps⟩
  · rw [if_neg hw] at hc
    cases hc

theorem as_either_either (v : Value) (w : World) : (Instr.typeAssert (.iface 116 v) 69 116 true).run Tryz.prog w = .ok (.tuple #[v, .bool true]) w := by kernel_rfl
theorem as_all_either (v : Value) (w : World) : (Instr.typeAssert (.iface 117 v) 69 116 true).run Tryz.prog w = .ok (.tuple #[.agg #[.nilIface, .nilIface], .bool false]) w := by kernel_rfl
theorem as_all_all (v : Value) (w : World) : (Instr.typeAssert (.iface 117 v) 69 117 true).run Tryz.prog w = .ok (.tuple #[v, .bool true]) w := by kernel_rfl
theorem as_not_either (v : Value) (w : World) : (Instr.typeAssert (.iface 119 v) 69 116 true).run Tryz.prog w = .ok (.tuple #[.agg #[.nilIface, .nilIface], .bool false]) w := by kernel_rfl
theorem as_not_all (v : Value) (w : World) : (Instr.typeAssert (.iface 119 v) 69 117 true).run Tryz.prog w = .ok (.tuple #[.agg #[.nilIface, .nilIface], .bool false]) w := by kernel_rfl
theorem as_not_not (v : Value) (w : World) : (Instr.typeAssert (.iface 119 v) 69 119 true).run Tryz.prog w = .ok (.tuple #[v, .bool true]) w := by kernel_rfl
theorem as_call_either (v : Value) (w : World) : (Instr.typeAssert (.iface 121 v) 69 116 true).run Tryz.prog w = .ok (.tuple #[.agg #[.nilIface, .nilIface], .bool false]) w := by kernel_rfl
theorem as_call_all (v : Value) (w : World) : (Instr.typeAssert (.iface 121 v) 69 117 true).run Tryz.prog w = .ok (.tuple #[.agg #[.nilIface, .nilIface], .bool false]) w := by kernel_rfl
theorem as_call_not (v : Value) (w : World) : (Instr.typeAssert (.iface 121 v) 69 119 true).run Tryz.prog w = .ok (.tuple #[.agg #[.nilIface], .bool false]) w := by kernel_rfl
theorem as_call_call (v : Value) (w : World) : (Instr.typeAssert (.iface 121 v) 69 121 true).run Tryz.prog w = .ok (.tuple #[v, .bool true]) w := by kernel_rfl
theorem as_compare_either (v : Value) (w : World) : (Instr.typeAssert (.iface 126 v) 69 116 true).run Tryz.prog w = .ok (.tuple #[.agg #[.nilIface, .nilIface], .bool false]) w := by kernel_rfl
theorem as_compare_all (v : Value) (w : World) : (Instr.typeAssert (.iface 126 v) 69 117 true).run Tryz.prog w = .ok (.tuple #[.agg #[.nilIface, .nilIface], .bool false]) w := by kernel_rfl
theorem as_compare_not (v : Value) (w : World) : (Instr.typeAssert (.iface 126 v) 69 119 true).run Tryz.prog w = .ok (.tuple #[.agg #[.nilIface], .bool false]) w := by kernel_rfl
theorem as_compare_call (v : Value) (w : World) : (Instr.typeAssert (.iface 126 v) 69 121 true).run Tryz.prog w = .ok (.tuple #[.agg #[.string ⟨#[]⟩, .string ⟨#[]⟩, .int .i64 0], .bool false]) w := by kernel_rfl
theorem as_compare_compare (v : Value) (w : World) : (Instr.typeAssert (.iface 126 v) 69 126 true).run Tryz.prog w = .ok (.tuple #[v, .bool true]) w := by kernel_rfl
theorem as_nil_either (w : World) : (Instr.typeAssert .nilIface 69 116 true).run Tryz.prog w = .ok (.tuple #[.agg #[.nilIface, .nilIface], .bool false]) w := by kernel_rfl
theorem as_nil_all (w : World) : (Instr.typeAssert .nilIface 69 117 true).run Tryz.prog w = .ok (.tuple #[.agg #[.nilIface, .nilIface], .bool false]) w := by kernel_rfl
theorem as_nil_not (w : World) : (Instr.typeAssert .nilIface 69 119 true).run Tryz.prog w = .ok (.tuple #[.agg #[.nilIface], .bool false]) w := by kernel_rfl
theorem as_nil_call (w : World) : (Instr.typeAssert .nilIface 69 121 true).run Tryz.prog w = .ok (.tuple #[.agg #[.string ⟨#[]⟩, .string ⟨#[]⟩, .int .i64 0], .bool false]) w := by kernel_rfl
theorem as_nil_compare (w : World) : (Instr.typeAssert .nilIface 69 126 true).run Tryz.prog w = .ok (.tuple #[.agg #[.string ⟨#[]⟩, .string ⟨#[]⟩, .bool false, .string ⟨#[]⟩, .bool false, .int .i64 0], .bool false]) w := by kernel_rfl
def AsksOK (A : AEnv) (x : CX) : Prop := ∀ (kb : Nat) (f : Flt) (r : Bool) (g : Flt) (w : World), asksA A x f = some (r, g) → IsAsk A kb f w → Calls Tryz.prog 20 #[.pointer (some ⟨kb, 0, none⟩), exprV x] w (AskQ A kb (.bool r) g w)

set_option maxHeartbeats 8000000 in
set_option maxRecDepth 100000 in
theorem asks_all2 (A : AEnv) (a b : CX) (ha : AsksOK A a) (hb : AsksOK A b) : AsksOK A (.all a b) := by
  intro kb f r g w hc h
  obtain ⟨post, hpost⟩ : ∃ post, post = AskQ A kb (.bool r) g w := ⟨_, rfl⟩
  rw [← hpost, exprV]
  have HPost := Lib.hid hpost
  rw [asksA] at hc
  cases hm : asksA A a f with
  | none => rw [hm] at hc; cases hc
  | some q =>
    obtain ⟨r1, f1⟩ := q
    rw [hm] at hc
    simp only at hc
    have HJ0 := Lib.hid (AskJ.start h #[exprV a, exprV b] 117)
    have HM := Lib.hid (ha kb f r1 f1 _ hm HJ0.out.ask)
    have HB := Lib.hid (fun W (h : IsAsk A kb f1 W) (hc : asksA A b f1 = some (r, g)) => hb kb f1 r g W hc h)
    have hsa := exprV_shape a
    have hsb := exprV_shape b
    generalize exprV a = xa at HJ0 HM hsa
    generalize exprV b = xb at HJ0 HM HB hsb
    have HC := Lib.hid hc
    clear hc hm h hpost
    rcases hsa with rfl | ⟨ta, va, rfl⟩ <;> rcases hsb with rfl | ⟨tb, vb, rfl⟩
    · have as1 := as_all_either
      have as2 := as_all_all
      go_enter Tryz.func20, Tryz.ntmps20
      go_wp2_with fail
      go_at_call 20
      refine HM.out.mono ?_
      rintro e w1 ⟨rfl, hi1, hk1⟩
      have HJ1 := Lib.hid (HJ0.out.step hi1 hk1)
      have HB1 := Lib.hid (HB.out w1 hi1)
      clear hi1 hk1 HM HJ0 HB
      have hB1 := HJ1.out.box
      have b1 : w1.cell? ⟨w.heap.size, 1, none⟩ = some (.nilIface) := Lib.cell_of_heap hB1 1
      obtain ⟨-, -, c6, c7, -, -⟩ := HJ1.out.ask.at
      have hq := fun W => fault_eq f1.1 f1.2 W
      have hc := HC.out
      clear hB1 HC
      cases r1 with
      | false =>
        cases hc
        go_wp2
        rw [HPost.out]
        exact ⟨rfl, HJ1.out.ask, HJ1.out.keeps⟩
      | true =>
        rw [if_pos rfl] at hc
        unfold noFlt at hc
        cases hf : (f1.1 == 0 && f1.2 == 0) with
        | false =>
          rw [hf] at hc hq
          rw [if_neg (by simp)] at hc
          cases hc
          go_wp2
          rw [HPost.out]
          exact ⟨rfl, HJ1.out.ask, HJ1.out.keeps⟩
        | true =>
          rw [hf] at hc hq
          rw [if_pos rfl] at hc
          have HB2 := Lib.hid (HB1.out hc)
          clear hc HB1
          go_wp2_with fail
          go_at_call 20
          refine HB2.out.mono ?_
          rintro e w2 ⟨rfl, hi2, hk2⟩
          have HJ2 := Lib.hid (HJ1.out.step hi2 hk2)
          clear hi2 hk2
          cases r
          all_goals
            go_wp2
            rw [HPost.out]
            exact ⟨rfl, HJ2.out.ask, HJ2.out.keeps⟩
    · have as1 := as_all_either
      have as2 := as_all_all
      go_enter Tryz.func20, Tryz.ntmps20
      go_wp2_with fail
      go_at_call 20
      refine HM.out.mono ?_
      rintro e w1 ⟨rfl, hi1, hk1⟩
      have HJ1 := Lib.hid (HJ0.out.step hi1 hk1)
      have HB1 := Lib.hid (HB.out w1 hi1)
      clear hi1 hk1 HM HJ0 HB
      have hB1 := HJ1.out.box
      have b1 : w1.cell? ⟨w.heap.size, 1, none⟩ = some (.iface tb vb) := Lib.cell_of_heap hB1 1
      obtain ⟨-, -, c6, c7, -, -⟩ := HJ1.out.ask.at
      have hq := fun W => fault_eq f1.1 f1.2 W
      have hc := HC.out
      clear hB1 HC
      cases r1 with
      | false =>
        cases hc
        go_wp2
        rw [HPost.out]
        exact ⟨rfl, HJ1.out.ask, HJ1.out.keeps⟩
      | true =>
        rw [if_pos rfl] at hc
        unfold noFlt at hc
        cases hf : (f1.1 == 0 && f1.2 == 0) with
        | false =>
          rw [hf] at hc hq
          rw [if_neg (by simp)] at hc
          cases hc
          go_wp2
          rw [HPost.out]
          exact ⟨rfl, HJ1.out.ask, HJ1.out.keeps⟩
        | true =>
          rw [hf] at hc hq
          rw [if_pos rfl] at hc
          have HB2 := Lib.hid (HB1.out hc)
          clear hc HB1
          go_wp2_with fail
          go_at_call 20
          refine HB2.out.mono ?_
          rintro e w2 ⟨rfl, hi2, hk2⟩
          have HJ2 := Lib.hid (HJ1.out.step hi2 hk2)
          clear hi2 hk2
          cases r
          all_goals
            go_wp2
            rw [HPost.out]
            exact ⟨rfl, HJ2.out.ask, HJ2.out.keeps⟩
    · have as1 := as_all_either
      have as2 := as_all_all
      go_enter Tryz.func20, Tryz.ntmps20
      go_wp2_with fail
      go_at_call 20
      refine HM.out.mono ?_
      rintro e w1 ⟨rfl, hi1, hk1⟩
      have HJ1 := Lib.hid (HJ0.out.step hi1 hk1)
      have HB1 := Lib.hid (HB.out w1 hi1)
      clear hi1 hk1 HM HJ0 HB
      have hB1 := HJ1.out.box
      have b1 : w1.cell? ⟨w.heap.size, 1, none⟩ = some (.nilIface) := Lib.cell_of_heap hB1 1
      obtain ⟨-, -, c6, c7, -, -⟩ := HJ1.out.ask.at
      have hq := fun W => fault_eq f1.1 f1.2 W
      have hc := HC.out
      clear hB1 HC
      cases r1 with
      | false =>
        cases hc
        go_wp2
        rw [HPost.out]
        exact ⟨rfl, HJ1.out.ask, HJ1.out.keeps⟩
      | true =>
        rw [if_pos rfl] at hc
        unfold noFlt at hc
        cases hf : (f1.1 == 0 && f1.2 == 0) with
        | false =>
          rw [hf] at hc hq
          rw [if_neg (by simp)] at hc
          cases hc
          go_wp2
          rw [HPost.out]
          exact ⟨rfl, HJ1.out.ask, HJ1.out.keeps⟩
        | true =>
          rw [hf] at hc hq
          rw [if_pos rfl] at hc
          have HB2 := Lib.hid (HB1.out hc)
          clear hc HB1
          go_wp2_with fail
          go_at_call 20
          refine HB2.out.mono ?_
          rintro e w2 ⟨rfl, hi2, hk2⟩
          have HJ2 := Lib.hid (HJ1.out.step hi2 hk2)
          clear hi2 hk2
          cases r
          all_goals
            go_wp2
            rw [HPost.out]
            exact ⟨rfl, HJ2.out.ask, HJ2.out.keeps⟩
    · have as1 := as_all_either
      have as2 := as_all_all
      go_enter Tryz.func20, Tryz.ntmps20
      go_wp2_with fail
      go_at_call 20
      refine HM.out.mono ?_
      rintro e w1 ⟨rfl, hi1, hk1⟩
      have HJ1 := Lib.hid (HJ0.out.step hi1 hk1)
      have HB1 := Lib.hid (HB.out w1 hi1)
      clear hi1 hk1 HM HJ0 HB
      have hB1 := HJ1.out.box
      have b1 : w1.cell? ⟨w.heap.size, 1, none⟩ = some (.iface tb vb) := Lib.cell_of_heap hB1 1
      obtain ⟨-, -, c6, c7, -, -⟩ := HJ1.out.ask.at
      have hq := fun W => fault_eq f1.1 f1.2 W
      have hc := HC.out
      clear hB1 HC
      cases r1 with
      | false =>
        cases hc
        go_wp2
        rw [HPost.out]
        exact ⟨rfl, HJ1.out.ask, HJ1.out.keeps⟩
      | true =>
        rw [if_pos rfl] at hc
        unfold noFlt at hc
        cases hf : (f1.1 == 0 && f1.2 == 0) with
        | false =>
          rw [hf] at hc hq
          rw [if_neg (by simp)] at hc
          cases hc
          go_wp2
          rw [HPost.out]
          exact ⟨rfl, HJ1.out.ask, HJ1.out.keeps⟩
        | true =>
          rw [hf] at hc hq
          rw [if_pos rfl] at hc
          have HB2 := Lib.hid (HB1.out hc)
          clear hc HB1
          go_wp2_with fail
          go_at_call 20
          refine HB2.out.mono ?_
          rintro e w2 ⟨rfl, hi2, hk2⟩
          have HJ2 := Lib.hid (HJ1.out.step hi2 hk2)
          clear hi2 hk2
          cases r
          all_goals
            go_wp2
            rw [HPost.out]
            exact ⟨rfl, HJ2.out.ask, HJ2.out.keeps⟩

set_option maxHeartbeats 8000000 in
set_option maxRecDepth 100000 in
theorem asks_either (A : AEnv) (a b : CX) (ha : AsksOK A a) (hb : AsksOK A b) : AsksOK A (.either a b) := by
  intro kb f r g w hc h
  obtain ⟨post, hpost⟩ : ∃ post, post = AskQ A kb (.bool r) g w := ⟨_, rfl⟩
  rw [← hpost, exprV]
  have HPost := Lib.hid hpost
  rw [asksA] at hc
  cases hm : asksA A a f with
  | none => rw [hm] at hc; cases hc
  | some q =>
    obtain ⟨r1, f1⟩ := q
    rw [hm] at hc
    simp only at hc
    have HJ0 := Lib.hid (AskJ.start h #[exprV a, exprV b] 116)
    have HM := Lib.hid (ha kb f r1 f1 _ hm HJ0.out.ask)
    have HB := Lib.hid (fun W (h : IsAsk A kb f1 W) (hc : asksA A b f1 = some (r, g)) => hb kb f1 r g W hc h)
    have hsa := exprV_shape a
    have hsb := exprV_shape b
    generalize exprV a = xa at HJ0 HM hsa
    generalize exprV b = xb at HJ0 HM HB hsb
    have HC := Lib.hid hc
    clear hc hm h hpost
    rcases hsa with rfl | ⟨ta, va, rfl⟩ <;> rcases hsb with rfl | ⟨tb, vb, rfl⟩
    · have as1 := as_either_either
      go_enter Tryz.func20, Tryz.ntmps20
      go_wp2_with fail
      go_at_call 20
      refine HM.out.mono ?_
      rintro e w1 ⟨rfl, hi1, hk1⟩
      have HJ1 := Lib.hid (HJ0.out.step hi1 hk1)
      have HB1 := Lib.hid (HB.out w1 hi1)
      clear hi1 hk1 HM HJ0 HB
      have hB1 := HJ1.out.box
      have b1 : w1.cell? ⟨w.heap.size, 1, none⟩ = some (.nilIface) := Lib.cell_of_heap hB1 1
      obtain ⟨-, -, c6, c7, -, -⟩ := HJ1.out.ask.at
      have hq := fun W => fault_eq f1.1 f1.2 W
      have hc := HC.out
      clear hB1 HC
      cases r1 with
      | true =>
        cases hc
        go_wp2
        rw [HPost.out]
        exact ⟨rfl, HJ1.out.ask, HJ1.out.keeps⟩
      | false =>
        rw [if_neg (by simp)] at hc
        unfold noFlt at hc
        cases hf : (f1.1 == 0 && f1.2 == 0) with
        | false =>
          rw [hf] at hc hq
          rw [if_neg (by simp)] at hc
          cases hc
          go_wp2
          rw [HPost.out]
          exact ⟨rfl, HJ1.out.ask, HJ1.out.keeps⟩
        | true =>
          rw [hf] at hc hq
          rw [if_pos rfl] at hc
          have HB2 := Lib.hid (HB1.out hc)
          clear hc HB1
          go_wp2_with fail
          go_at_call 20
          refine HB2.out.mono ?_
          rintro e w2 ⟨rfl, hi2, hk2⟩
          have HJ2 := Lib.hid (HJ1.out.step hi2 hk2)
          clear hi2 hk2
          cases r
          all_goals
            go_wp2
            rw [HPost.out]
            exact ⟨rfl, HJ2.out.ask, HJ2.out.keeps⟩
    · have as1 := as_either_either
      go_enter Tryz.func20, Tryz.ntmps20
      go_wp2_with fail
      go_at_call 20
      refine HM.out.mono ?_
      rintro e w1 ⟨rfl, hi1, hk1⟩
      have HJ1 := Lib.hid (HJ0.out.step hi1 hk1)
      have HB1 := Lib.hid (HB.out w1 hi1)
      clear hi1 hk1 HM HJ0 HB
      have hB1 := HJ1.out.box
      have b1 : w1.cell? ⟨w.heap.size, 1, none⟩ = some (.iface tb vb) := Lib.cell_of_heap hB1 1
      obtain ⟨-, -, c6, c7, -, -⟩ := HJ1.out.ask.at
      have hq := fun W => fault_eq f1.1 f1.2 W
      have hc := HC.out
      clear hB1 HC
      cases r1 with
      | true =>
        cases hc
        go_wp2
        rw [HPost.out]
        exact ⟨rfl, HJ1.out.ask, HJ1.out.keeps⟩
      | false =>
        rw [if_neg (by simp)] at hc
        unfold noFlt at hc
        cases hf : (f1.1 == 0 && f1.2 == 0) with
        | false =>
          rw [hf] at hc hq
          rw [if_neg (by simp)] at hc
          cases hc
          go_wp2
          rw [HPost.out]
          exact ⟨rfl, HJ1.out.ask, HJ1.out.keeps⟩
        | true =>
          rw [hf] at hc hq
          rw [if_pos rfl] at hc
          have HB2 := Lib.hid (HB1.out hc)
          clear hc HB1
          go_wp2_with fail
          go_at_call 20
          refine HB2.out.mono ?_
          rintro e w2 ⟨rfl, hi2, hk2⟩
          have HJ2 := Lib.hid (HJ1.out.step hi2 hk2)
          clear hi2 hk2
          cases r
          all_goals
            go_wp2
            rw [HPost.out]
            exact ⟨rfl, HJ2.out.ask, HJ2.out.keeps⟩
    · have as1 := as_either_either
      go_enter Tryz.func20, Tryz.ntmps20
      go_wp2_with fail
      go_at_call 20
      refine HM.out.mono ?_
      rintro e w1 ⟨rfl, hi1, hk1⟩
      have HJ1 := Lib.hid (HJ0.out.step hi1 hk1)
      have HB1 := Lib.hid (HB.out w1 hi1)
      clear hi1 hk1 HM HJ0 HB
      have hB1 := HJ1.out.box
      have b1 : w1.cell? ⟨w.heap.size, 1, none⟩ = some (.nilIface) := Lib.cell_of_heap hB1 1
      obtain ⟨-, -, c6, c7, -, -⟩ := HJ1.out.ask.at
      have hq := fun W => fault_eq f1.1 f1.2 W
      have hc := HC.out
      clear hB1 HC
      cases r1 with
      | true =>
        cases hc
        go_wp2
        rw [HPost.out]
        exact ⟨rfl, HJ1.out.ask, HJ1.out.keeps⟩
      | false =>
        rw [if_neg (by simp)] at hc
        unfold noFlt at hc
        cases hf : (f1.1 == 0 && f1.2 == 0) with
        | false =>
          rw [hf] at hc hq
          rw [if_neg (by simp)] at hc
          cases hc
          go_wp2
          rw [HPost.out]
          exact ⟨rfl, HJ1.out.ask, HJ1.out.keeps⟩
        | true =>
          rw [hf] at hc hq
          rw [if_pos rfl] at hc
          have HB2 := Lib.hid (HB1.out hc)
          clear hc HB1
          go_wp2_with fail
          go_at_call 20
          refine HB2.out.mono ?_
          rintro e w2 ⟨rfl, hi2, hk2⟩
          have HJ2 := Lib.hid (HJ1.out.step hi2 hk2)
          clear hi2 hk2
          cases r
          all_goals
            go_wp2
            rw [HPost.out]
            exact ⟨rfl, HJ2.out.ask, HJ2.out.keeps⟩
    · have as1 := as_either_either
      go_enter Tryz.func20, Tryz.ntmps20
      go_wp2_with fail
      go_at_call 20
      refine HM.out.mono ?_
      rintro e w1 ⟨rfl, hi1, hk1⟩
      have HJ1 := Lib.hid (HJ0.out.step hi1 hk1)
      have HB1 := Lib.hid (HB.out w1 hi1)
      clear hi1 hk1 HM HJ0 HB
      have hB1 := HJ1.out.box
      have b1 : w1.cell? ⟨w.heap.size, 1, none⟩ = some (.iface tb vb) := Lib.cell_of_heap hB1 1
      obtain ⟨-, -, c6, c7, -, -⟩ := HJ1.out.ask.at
      have hq := fun W => fault_eq f1.1 f1.2 W
      have hc := HC.out
      clear hB1 HC
      cases r1 with
      | true =>
        cases hc
        go_wp2
        rw [HPost.out]
        exact ⟨rfl, HJ1.out.ask, HJ1.out.keeps⟩
      | false =>
        rw [if_neg (by simp)] at hc
        unfold noFlt at hc
        cases hf : (f1.1 == 0 && f1.2 == 0) with
        | false =>
          rw [hf] at hc hq
          rw [if_neg (by simp)] at hc
          cases hc
          go_wp2
          rw [HPost.out]
          exact ⟨rfl, HJ1.out.ask, HJ1.out.keeps⟩
        | true =>
          rw [hf] at hc hq
          rw [if_pos rfl] at hc
          have HB2 := Lib.hid (HB1.out hc)
          clear hc HB1
          go_wp2_with fail
          go_at_call 20
          refine HB2.out.mono ?_
          rintro e w2 ⟨rfl, hi2, hk2⟩
          have HJ2 := Lib.hid (HJ1.out.step hi2 hk2)
          clear hi2 hk2
          cases r
          all_goals
            go_wp2
            rw [HPost.out]
            exact ⟨rfl, HJ2.out.ask, HJ2.out.keeps⟩

set_option maxHeartbeats 8000000 in
set_option maxRecDepth 100000 in
theorem asks_neg (A : AEnv) (a : CX) (ha : AsksOK A a) : AsksOK A (.neg a) := by
  intro kb f r g w hc h
  obtain ⟨post, hpost⟩ : ∃ post, post = AskQ A kb (.bool r) g w := ⟨_, rfl⟩
  rw [← hpost, exprV]
  have HPost := Lib.hid hpost
  rw [asksA] at hc
  cases hm : asksA A a f with
  | none => rw [hm] at hc; cases hc
  | some q =>
    obtain ⟨r1, f1⟩ := q
    rw [hm] at hc
    cases hc
    have HJ0 := Lib.hid (AskJ.start h #[exprV a] 119)
    have HM := Lib.hid (ha kb f r1 g _ hm HJ0.out.ask)
    have hsa := exprV_shape a
    generalize exprV a = xa at HJ0 HM hsa
    clear hm h hpost
    rcases hsa with rfl | ⟨ta, va, rfl⟩
    all_goals
      have as1 := as_not_either
      have as2 := as_not_all
      have as3 := as_not_not
      go_enter Tryz.func20, Tryz.ntmps20
      go_wp2_with fail
      go_at_call 20
      refine HM.out.mono ?_
      rintro e w1 ⟨rfl, hi1, hk1⟩
      have HJ1 := Lib.hid (HJ0.out.step hi1 hk1)
      clear hi1 hk1
      go_wp2
      rw [HPost.out]
      exact ⟨rfl, HJ1.out.ask, HJ1.out.keeps⟩

set_option maxHeartbeats 8000000 in
set_option maxRecDepth 100000 in
theorem asks_nothing (A : AEnv) : AsksOK A .nothing := by
  intro kb f r g w hc h
  obtain ⟨post, hpost⟩ : ∃ post, post = AskQ A kb (.bool r) g w := ⟨_, rfl⟩
  rw [← hpost, exprV]
  have HPost := Lib.hid hpost
  rw [asksA] at hc
  cases hc
  have HI := Lib.hid h
  have as1 := as_nil_either
  have as2 := as_nil_all
  have as3 := as_nil_not
  have as4 := as_nil_call
  have as5 := as_nil_compare
  clear h hpost
  go_enter Tryz.func20, Tryz.ntmps20
  go_wp2
  rw [HPost.out]
  exact ⟨rfl, HI.out, Keeps.refl _ _ _⟩

set_option maxHeartbeats 8000000 in
set_option maxRecDepth 100000 in
theorem asks_call (A : AEnv) (hA : A.OK) (wd x : List UInt8) (t : Nat) : AsksOK A (.call wd x t) := by
  intro kb f r g w hc h
  obtain ⟨post, hpost⟩ : ∃ post, post = AskQ A kb (.bool r) g w := ⟨_, rfl⟩
  rw [← hpost, exprV]
  have HPost := Lib.hid hpost
  rw [asksA] at hc
  have HJ0 := Lib.hid (AskJ.start h #[.string ⟨wd.toArray⟩, .string ⟨x.toArray⟩, .int .i64 t] 121)
  have HM := Lib.hid (calls_any A hA wd x t r g hc _ HJ0.out.ask)
  have as1 := as_call_either
  have as2 := as_call_all
  have as3 := as_call_not
  have as4 := as_call_call
  clear hc h hpost
  go_enter Tryz.func20, Tryz.ntmps20
  go_wp2_with fail
  go_at_call 42
  refine HM.out.mono ?_
  rintro e w1 ⟨rfl, hi1, hk1⟩
  have HJ1 := Lib.hid (HJ0.out.step hi1 hk1)
  clear hi1 hk1
  go_wp2
  rw [HPost.out]
  exact ⟨rfl, HJ1.out.ask, HJ1.out.keeps⟩

set_option maxHeartbeats 8000000 in
set_option maxRecDepth 100000 in
theorem asks_cmp (A : AEnv) (hA : A.OK) (op a : List UInt8) (aq : Bool) (b : List UInt8) (bq : Bool) (t : Nat) : AsksOK A (.cmp op a aq b bq t) := by
  intro kb f r g w hc h
  obtain ⟨post, hpost⟩ : ∃ post, post = AskQ A kb (.bool r) g w := ⟨_, rfl⟩
  rw [← hpost, exprV]
  have HPost := Lib.hid hpost
  rw [asksA] at hc
  have HJ0 := Lib.hid (AskJ.start h #[.string ⟨op.toArray⟩, .string ⟨a.toArray⟩, .bool aq, .string ⟨b.toArray⟩, .bool bq, .int .i64 t] 126)
  have HM := Lib.hid (compares_any A hA op a aq b bq t r g hc _ HJ0.out.ask)
  have as1 := as_compare_either
  have as2 := as_compare_all
  have as3 := as_compare_not
  have as4 := as_compare_call
  have as5 := as_compare_compare
  clear hc h hpost
  go_enter Tryz.func20, Tryz.ntmps20
  go_wp2_with fail
  go_at_call 43
  refine HM.out.mono ?_
  rintro e w1 ⟨rfl, hi1, hk1⟩
  have HJ1 := Lib.hid (HJ0.out.step hi1 hk1)
  clear hi1 hk1
  go_wp2
  rw [HPost.out]
  exact ⟨rfl, HJ1.out.ask, HJ1.out.keeps⟩

theorem asks_any (A : AEnv) (hA : A.OK) : ∀ x : CX, AsksOK A x
  | .nothing => asks_nothing A
  | .either a b => asks_either A a b (asks_any A hA a) (asks_any A hA b)
  | .all a b => asks_all2 A a b (asks_any A hA a) (asks_any A hA b)
  | .neg a => asks_neg A a (asks_any A hA a)
  | .call wd x t => asks_call A hA wd x t
  | .cmp op a aq b bq t => asks_cmp A hA op a aq b bq t
end Go.Proofs.YtpjmccajkcmmaaaGreatDoor
