/- num.cutLeft: a text without the bytes of an ASCII set at its begin, for every text. -/
import Derived.Test.YtcflggahmjenfaaDoorProg
import Derived.WalkKit
import Derived.BigCall
import Derived.Lib.OthersKept
import Derived.Deep.DeepFit
import Derived.Lib.Hide
namespace Go.Proofs.YtcflggahmjenfaaDoor
open Go.RowKit

/-- a byte of the set (as a rune) -/
def inSet (set : ByteArray) (c : Int) : Bool := set.data.toList.any fun b => (b.toNat : Int) == c
/-- a rune among the first n bytes of the set -/
def inSetTo (set : ByteArray) (c : Int) (n : Nat) : Bool := (set.data.toList.take n).any fun b => (b.toNat : Int) == c

theorem inSetTo_zero (set : ByteArray) (c : Int) : inSetTo set c 0 = false := rfl
theorem inSetTo_all (set : ByteArray) (c : Int) (n : Nat) (h : ¬ n < set.size) : inSetTo set c n = inSet set c := by
  unfold inSetTo inSet
  rw [List.take_of_length_le]
  have : set.data.toList.length = set.size := by simp
  omega
theorem inSetTo_succ (set : ByteArray) (c : Int) (n : Nat) (h : n < set.size) : inSetTo set c (n + 1) = (inSetTo set c n || ((set[n].toNat : Int) == c)) := by
  unfold inSetTo
  rw [List.take_succ_eq_append_getElem (by simpa using h), List.any_append]
  simp
  rfl

theorem _root_.Bool.beq_comm_int (a b : Int) : (a == b) = (b == a) := by
  rw [Bool.eq_iff_iff, beq_iff_eq, beq_iff_eq]
  exact ⟨Eq.symm, Eq.symm⟩

theorem extract_end (s : ByteArray) (pos : Nat) (h : ¬ pos < s.size) : s.extract pos s.size = ⟨#[]⟩ := by
  apply ByteArray.ext
  simp
  omega

theorem width_pos (s : ByteArray) (pos : Nat) (h : pos < s.size) : 1 ≤ (Utf8.decode s pos).2 := by
  by_cases ha : (s[pos]'h).toNat < 128
  · rw [decode_ascii s pos h ha]
    exact Nat.le_refl _
  · exact (decode_high s pos h (by omega)).2

/-- from place pos on: where the first rune stands that is not of the set -/
def cutAt (s set : ByteArray) : Nat → Nat → Nat
  | 0, pos => pos
  | fuel + 1, pos => if pos < s.size then (if inSet set (Utf8.decode s pos).1 then cutAt s set fuel (pos + (Utf8.decode s pos).2) else pos) else pos

theorem cutAt_end (s set : ByteArray) (fuel pos : Nat) (h : ¬ pos < s.size) : cutAt s set fuel pos = pos := by
  cases fuel with
  | zero => rfl
  | succ f => simp [cutAt, h]

set_option maxHeartbeats 1000000 in
set_option maxRecDepth 100000 in
theorem cutLeft_any (s set : ByteArray) (w : World) (hset : ∀ i (h : i < set.size), (set[i]'h).toNat < 128) :
    Calls Tryd.prog 24 #[.string s, .string set] w fun e w' => e = .returned (.string (s.extract (cutAt s set s.size 0) s.size)) ∧ Below w.heap.size w w' := by
  go_enter Tryd.func24, Tryd.ntmps24
  go_wp2
  go_loopw [] (fun wr => ∃ (pos fuel : Nat), wr.heap[w.heap.size]? = some (.stringIter s pos) ∧ Below w.heap.size w wr ∧ cutAt s set fuel pos = cutAt s set s.size 0 ∧ s.size ≤ pos + fuel) (fun wr => s.size - wr.iterPos w.heap.size)
  case atStart => exact ⟨0, s.size, World.iter_heap w s 0, (Below.refl _ w).alloc (Nat.le_refl _) _, rfl, by omega⟩
  case round =>
    obtain ⟨pos, fuel, hit, hbw, hacc, hfu⟩ := hrel
    have hsz : w.heap.size < wr.heap.size := (Array.getElem?_eq_some_iff.1 hit).1
    by_cases hp : pos < s.size
    · obtain ⟨f, rfl⟩ : ∃ f, fuel = f + 1 := ⟨fuel - 1, by omega⟩
      obtain ⟨c, n, W, hnx, hitW, hbW, hszW, hn, hcut⟩ : ∃ (c n : Nat) (W : World), (∀ ty, (Instr.next (.pointer (some ⟨w.heap.size, 0, none⟩)) true ty).run Tryd.prog wr = .ok (.tuple #[.bool true, .int .i64 pos, .int .i32 c]) W) ∧
          W.heap[w.heap.size]? = some (.stringIter s (pos + n)) ∧ Below w.heap.size w W ∧ w.heap.size < W.heap.size ∧ 1 ≤ n ∧ cutAt s set (f + 1) pos = (if inSet set c then cutAt s set f (pos + n) else pos) :=
        ⟨_, _, _, fun ty => Lib.run_next_any_at wr w.heap.size s pos ty hit hp, Lib.iterAt_heap wr _ s pos _ hit, Lib.below_iterAt hbw (Nat.le_refl _) s _, by rw [Lib.iterAt_size]; exact hsz, width_pos s pos hp, by simp [cutAt, hp]⟩
      go_wp2
      obtain ⟨Wo, rfl⟩ : ∃ Wo : World, Wo = W := ⟨_, rfl⟩
      go_loopw [7] (fun v7 wi => ∃ j : Nat, j ≤ set.size ∧ v7 = .bool (inSetTo set c j) ∧ wi = Wo.iter set j) (fun _ wi => set.size - wi.iterPos Wo.heap.size)
      case atStart => exact ⟨0, Nat.zero_le _, rfl, rfl⟩
      case round =>
        obtain ⟨j, hj, rfl, rfl⟩ := hrel
        by_cases hlt : j < set.size
        · have hnx2 : ∀ ty, (Instr.next (.pointer (some ⟨Wo.heap.size, 0, none⟩)) true ty).run Tryd.prog (Wo.iter set j) = _ := fun ty => run_next_ascii Wo set j ty hlt (hset j hlt)
          have hsu := Lib.hid (inSetTo_succ set c j hlt)
          go_wp2
          all_goals
            go_roundw
            case rel => exact ⟨j + 1, hlt, by rw [hsu.out, Bool.beq_comm_int]; simp [*], rfl⟩
            case measure => simp; omega
        · have hnx2 : ∀ ty, (Instr.next (.pointer (some ⟨Wo.heap.size, 0, none⟩)) true ty).run Tryd.prog (Wo.iter set j) = _ := fun ty => run_next_end Wo set j ty hlt
          have hall := Lib.hid (inSetTo_all set c j hlt)
          go_wp2
          · have hno : inSet set c = false := by rw [← hall.out]; simpa using ‹(!inSetTo set (↑c) j) = true›
            rw [hno, if_neg (by simp)] at hcut
            have HR := Lib.hid (hacc.symm.trans hcut)
            go_ret
            exact ⟨by rw [HR.out]; rfl, hbW.alloc (Nat.le_of_lt hszW) _⟩
          · have hyes : inSet set c = true := by rw [← hall.out]; simpa using ‹(!inSetTo set (↑c) j) = false›
            rw [hyes, if_pos rfl] at hcut
            have hitI : (Wo.iter set j).heap[w.heap.size]? = some (.stringIter s (pos + n)) := by
              rw [World.iter, Lib.alloc_old _ _ _ hszW]; exact hitW
            go_roundw
            case rel => exact ⟨pos + n, f, hitI, hbW.alloc (Nat.le_of_lt hszW) _, hcut.symm.trans hacc, by omega⟩
            case measure =>
              simp only [World.iterPos, hitI, hit]
              omega
    · have hnx : ∀ ty, (Instr.next (.pointer (some ⟨w.heap.size, 0, none⟩)) true ty).run Tryd.prog wr = _ := fun ty => Lib.run_next_end_at wr w.heap.size s pos ty hit hp
      have hfin : s.extract (cutAt s set s.size 0) s.size = ⟨#[]⟩ := by
        rw [← hacc, cutAt_end s set fuel pos hp]
        exact extract_end s pos hp
      have HF := Lib.hid hfin
      clear hfin
      go_wp2
      go_ret
      exact ⟨by rw [HF.out]; rfl, hbw⟩
end Go.Proofs.YtcflggahmjenfaaDoor
