/- num.cutLeft: a text without the bytes of an ASCII set at its begin, for every text. num.cutRight: a text without the bytes of an ASCII set at its end, for every text. internal/strconv.ParseUint(s, 16, 64) at texts of hexadecimal digits alone (turned from the kit's own walk at base 10). strconv.ParseUint(s, b, 64), b 10 or 16, at texts of b's digits alone: the number, if a uint64 holds it; else an error that wraps strconv.ErrRange. What num.Parse comes to, as a plain function on lists of bytes. errors.Is at the sentinel strconv.ErrRange: false of nil, true of a *strconv.NumError that wraps it. (After the kit's worked text SentryIs.) num.Parse, for every text: 'parseS' of its bytes. -/
import Derived.Test.YtpjmccajkcmmaaaGreatDoorProg
import Derived.WalkKit
import Derived.BigCall
import Derived.Lib.OthersKept
import Derived.Deep.DeepFit
import Derived.Lib.Hide
import Derived.Test.YtpjmccajkcmmaaaGreatDoorGl
import Derived.Laws.Strings3
import Derived.Laws.Closers25
import Derived.Laws.Closers25b
import Derived.BigGuard
import Derived.Lib.ConvBytes
import Derived.Lib.AtoiAllMem
import Derived.LaidEql
import Derived.Stop.Asserts
import Derived.RowKitTokens
import Derived.Deep.DeepCutAuto
import Derived.Deep.CutBlock
import Derived.Deep.QuietTactic
import Derived.BigQuiet
namespace Go.Proofs.YtpjmccajkcmmaaaGreatDoor
open Go.RowKit

/-- a byte of the set (as a rune) -/
def inSet (set : ByteArray) (c : Int) : Bool := set.data.toList.any fun b => (b.toNat : Int) == c
/-- a rune among the first n bytes of the set -/
def inSetTo (set : ByteArray) (c : Int) (n : Nat) : Bool := (set.data.toList.take n).any fun b => (b.toNat : Int) == c

theorem inSetTo_zero (set : ByteArray) (c : Int) : inSetTo set c 0 = false := rfl
theorem inSetTo_all (set : ByteArray) (c : Int) (n : Nat) (h : ¬ n < set.size) : inSetTo set c n = inSet set c := by
  unfold inSetTo inSet
  rw [List.take_of_length_le]
  have : set.data.toList.length = set.size := by simp
  omega
theorem inSetTo_succ (set : ByteArray) (c : Int) (n : Nat) (h : n < set.size) : inSetTo set c (n + 1) = (inSetTo set c n || ((set[n].toNat : Int) == c)) := by
  unfold inSetTo
  rw [List.take_succ_eq_append_getElem (by simpa using h), List.any_append]
  simp
  rfl

theorem _root_.Bool.beq_comm_int (a b : Int) : (a == b) = (b == a) := by
  rw [Bool.eq_iff_iff, beq_iff_eq, beq_iff_eq]
  exact ⟨Eq.symm, Eq.symm⟩

theorem extract_end (s : ByteArray) (pos : Nat) (h : ¬ pos < s.size) : s.extract pos s.size = ⟨#[]⟩ := by
  apply ByteArray.ext
  simp
  omega

theorem width_pos (s : ByteArray) (pos : Nat) (h : pos < s.size) : 1 ≤ (Utf8.decode s pos).2 := by
  by_cases ha : (s[pos]'h).toNat < 128
  · rw [decode_ascii s pos h ha]
    exact Nat.le_refl _
  · exact (decode_high s pos h (by omega)).2

/-- from place pos on: where the first rune stands that is not of the set -/
def cutAt (s set : ByteArray) : Nat → Nat → Nat
  | 0, pos => pos
  | fuel + 1, pos => if pos < s.size then (if inSet set (Utf8.decode s pos).1 then cutAt s set fuel (pos + (Utf8.decode s pos).2) else pos) else pos

theorem cutAt_end (s set : ByteArray) (fuel pos : Nat) (h : ¬ pos < s.size) : cutAt s set fuel pos = pos := by
  cases fuel with
  | zero => rfl
  | succ f => simp [cutAt, h]

set_option maxHeartbeats 1000000 in
set_option maxRecDepth 100000 in
theorem cutLeft_any (s set : ByteArray) (w : World) (hset : ∀ i (h : i < set.size), (set[i]'h).toNat < 128) :
    Calls Tryz.prog 86 #[.string s, .string set] w fun e w' => e = .returned (.string (s.extract (cutAt s set s.size 0) s.size)) ∧ Below w.heap.size w w' := by
  go_enter Tryz.func86, Tryz.ntmps86
  go_wp2
  go_loopw [] (fun wr => ∃ (pos fuel : Nat), wr.heap[w.heap.size]? = some (.stringIter s pos) ∧ Below w.heap.size w wr ∧ cutAt s set fuel pos = cutAt s set s.size 0 ∧ s.size ≤ pos + fuel) (fun wr => s.size - wr.iterPos w.heap.size)
  case atStart => exact ⟨0, s.size, World.iter_heap w s 0, (Below.refl _ w).alloc (Nat.le_refl _) _, rfl, by omega⟩
  case round =>
    obtain ⟨pos, fuel, hit, hbw, hacc, hfu⟩ := hrel
    have hsz : w.heap.size < wr.heap.size := (Array.getElem?_eq_some_iff.1 hit).1
    by_cases hp : pos < s.size
    · obtain ⟨f, rfl⟩ : ∃ f, fuel = f + 1 := ⟨fuel - 1, by omega⟩
      obtain ⟨c, n, W, hnx, hitW, hbW, hszW, hn, hcut⟩ : ∃ (c n : Nat) (W : World), (∀ ty, (Instr.next (.pointer (some ⟨w.heap.size, 0, none⟩)) true ty).run Tryz.prog wr = .ok (.tuple #[.bool true, .int .i64 pos, .int .i32 c]) W) ∧
          W.heap[w.heap.size]? = some (.stringIter s (pos + n)) ∧ Below w.heap.size w W ∧ w.heap.size < W.heap.size ∧ 1 ≤ n ∧ cutAt s set (f + 1) pos = (if inSet set c then cutAt s set f (pos + n) else pos) :=
        ⟨_, _, _, fun ty => Lib.run_next_any_at wr w.heap.size s pos ty hit hp, Lib.iterAt_heap wr _ s pos _ hit, Lib.below_iterAt hbw (Nat.le_refl _) s _, by rw [Lib.iterAt_size]; exact hsz, width_pos s pos hp, by simp [cutAt, hp]⟩
      go_wp2
      obtain ⟨Wo, rfl⟩ : ∃ Wo : World, Wo = W := ⟨_, rfl⟩
      go_loopw [7] (fun v7 wi => ∃ j : Nat, j ≤ set.size ∧ v7 = .bool (inSetTo set c j) ∧ wi = Wo.iter set j) (fun _ wi => set.size - wi.iterPos Wo.heap.size)
      case atStart => exact ⟨0, Nat.zero_le _, rfl, rfl⟩
      case round =>
        obtain ⟨j, hj, rfl, rfl⟩ := hrel
        by_cases hlt : j < set.size
        · have hnx2 : ∀ ty, (Instr.next (.pointer (some ⟨Wo.heap.size, 0, none⟩)) true ty).run Tryz.prog (Wo.iter set j) = _ := fun ty => run_next_ascii Wo set j ty hlt (hset j hlt)
          have hsu := Lib.hid (inSetTo_succ set c j hlt)
          go_wp2
          all_goals
            go_roundw
            case rel => exact ⟨j + 1, hlt, by rw [hsu.out, Bool.beq_comm_int]; simp [*], rfl⟩
            case measure => simp; omega
        · have hnx2 : ∀ ty, (Instr.next (.pointer (some ⟨Wo.heap.size, 0, none⟩)) true ty).run Tryz.prog (Wo.iter set j) = _ := fun ty => run_next_end Wo set j ty hlt
          have hall := Lib.hid (inSetTo_all set c j hlt)
          go_wp2
          · have hno : inSet set c = false := by rw [← hall.out]; simpa using ‹(!inSetTo set (↑c) j) = true›
            rw [hno, if_neg (by simp)] at hcut
            have HR := Lib.hid (hacc.symm.trans hcut)
            go_ret
            exact ⟨by rw [HR.out]; rfl, hbW.alloc (Nat.le_of_lt hszW) _⟩
          · have hyes : inSet set c = true := by rw [← hall.out]; simpa using ‹(!inSetTo set (↑c) j) = false›
            rw [hyes, if_pos rfl] at hcut
            have hitI : (Wo.iter set j).heap[w.heap.size]? = some (.stringIter s (pos + n)) := by
              rw [World.iter, Lib.alloc_old _ _ _ hszW]; exact hitW
            go_roundw
            case rel => exact ⟨pos + n, f, hitI, hbW.alloc (Nat.le_of_lt hszW) _, hcut.symm.trans hacc, by omega⟩
            case measure =>
              simp only [World.iterPos, hitI, hit]
              omega
    · have hnx : ∀ ty, (Instr.next (.pointer (some ⟨w.heap.size, 0, none⟩)) true ty).run Tryz.prog wr = _ := fun ty => Lib.run_next_end_at wr w.heap.size s pos ty hit hp
      have hfin : s.extract (cutAt s set s.size 0) s.size = ⟨#[]⟩ := by
        rw [← hacc, cutAt_end s set fuel pos hp]
        exact extract_end s pos hp
      have HF := Lib.hid hfin
      clear hfin
      go_wp2
      go_ret
      exact ⟨by rw [HF.out]; rfl, hbw⟩
end Go.Proofs.YtpjmccajkcmmaaaGreatDoor

namespace Go.Proofs.YtpjmccajkcmmaaaGreatDoor
open Go.RowKit

/-- how many bytes are left, of the first k -/
def cutEnd (s set : ByteArray) : Nat → Nat
  | 0 => 0
  | k + 1 => if inSet set (s.data.toList.getD k 0).toNat then cutEnd s set k else k + 1

theorem cutEnd_le (s set : ByteArray) (k : Nat) : cutEnd s set k ≤ k := by
  induction k with
  | zero => exact Nat.le_refl _
  | succ k ih => simp only [cutEnd]; split <;> omega

theorem decodeL_high (l : List UInt8) (c : UInt8) (t : List UInt8) (hl : l = c :: t) (hc : 128 ≤ c.toNat) : 128 ≤ (Lib.decodeL l).1 := by
  subst hl
  unfold Lib.decodeL
  have h : 0 < (⟨(c :: t).toArray⟩ : ByteArray).size := by simp [ByteArray.size]
  exact (decode_high ⟨(c :: t).toArray⟩ 0 h hc).1

theorem decodeL_ascii (c : UInt8) (t : List UInt8) (hc : c.toNat < 128) : Lib.decodeL (c :: t) = (c.toNat, 1) := by
  unfold Lib.decodeL
  have h : 0 < (⟨(c :: t).toArray⟩ : ByteArray).size := by simp [ByteArray.size]
  exact decode_ascii ⟨(c :: t).toArray⟩ 0 h hc

/-- a last byte from 128 on: its rune is one, too -/
theorem decodeLast_high (l : List UInt8) (hl : l ≠ []) (h : 128 ≤ (l.getD (l.length - 1) 0).toNat) : 128 ≤ (Lib.decodeLastL l).1 := by
  have hlen : 0 < l.length := List.length_pos_iff.2 hl
  unfold Lib.decodeLastL
  rw [if_neg hl, if_neg (by omega)]
  simp only
  split
  · rename_i he
    cases hd : l.drop (Lib.lastStart l) with
    | nil =>
      exfalso
      have h1 := Lib.lastStart_lt l hl
      have := congrArg List.length hd
      rw [List.length_drop, List.length_nil] at this
      omega
    | cons c t =>
      by_cases hc : c.toNat < 128
      · rw [hd, decodeL_ascii c t hc] at he
        simp only at he
        have e1 : Lib.lastStart l = l.length - 1 := by omega
        have e2 : l.getD (l.length - 1) 0 = c := by
          have := congrArg (fun z => z.getD 0 0) hd
          simp [List.getD, List.getElem?_drop, e1] at this
          rw [List.getD_eq_getElem?_getD]
          exact this
        rw [e2] at h
        omega
      · exact decodeL_high _ c t rfl (by omega)
  · simp [Utf8.runeError]

theorem decodeLast_ascii (l : List UInt8) (hl : l ≠ []) (h : (l.getD (l.length - 1) 0).toNat < 128) : Lib.decodeLastL l = ((l.getD (l.length - 1) 0).toNat, 1) := by
  unfold Lib.decodeLastL
  rw [if_neg hl, if_pos h]

theorem inSet_high (set : ByteArray) (c : Int) (hset : ∀ i (h : i < set.size), (set[i]'h).toNat < 128) (hc : 128 ≤ c) : inSet set c = false := by
  unfold inSet
  rw [List.any_eq_false]
  intro b hb
  obtain ⟨i, hi, rfl⟩ := List.mem_iff_getElem.1 hb
  have h : i < set.size := by simpa using hi
  have := hset i h
  have e : set[i]'h = set.data.toList[i] := by simp; rfl
  rw [e] at this
  simp only [beq_iff_eq]
  omega

/-- the last rune of the first k + 1 bytes: in the set just if the last byte is, and then it is that byte -/
theorem last_rune (s set : ByteArray) (hset : ∀ i (h : i < set.size), (set[i]'h).toNat < 128) (k : Nat) (hk : k < s.size) :
    ∃ (c n : Nat), Lib.decodeLastL (s.extract 0 (k + 1)).data.toList = (c, n) ∧ cutEnd s set (k + 1) = (if inSet set c then cutEnd s set k else k + 1) ∧ (inSet set c = true → n = 1) := by
  have hsz : (s.extract 0 (k + 1)).data.toList = s.data.toList.take (k + 1) := by simp
  have hlen : (s.data.toList.take (k + 1)).length = k + 1 := by
    have : s.data.toList.length = s.size := by simp
    simp; omega
  have hne : s.data.toList.take (k + 1) ≠ [] := by intro e; rw [e] at hlen; simp at hlen
  have hg : (s.data.toList.take (k + 1)).getD ((s.data.toList.take (k + 1)).length - 1) 0 = s.data.toList.getD k 0 := by
    rw [hlen]
    simp [List.getD]
  rw [hsz]
  by_cases hb : (s.data.toList.getD k 0).toNat < 128
  · refine ⟨_, _, decodeLast_ascii _ hne (by rw [hg]; exact hb), ?_, fun _ => rfl⟩
    rw [hg]
    rfl
  · have h1 := decodeLast_high _ hne (by rw [hg]; omega)
    have hno : ∀ c : Nat, 128 ≤ c → inSet set (c : Int) = false := fun c hc => inSet_high set c hset (by omega)
    refine ⟨(Lib.decodeLastL (s.data.toList.take (k + 1))).1, (Lib.decodeLastL (s.data.toList.take (k + 1))).2, rfl, ?_, ?_⟩
    · rw [hno _ h1]
      simp only [cutEnd]
      rw [hno _ (by omega)]
    · rw [hno _ h1]
      intro h; cases h

theorem extract_zero (s : ByteArray) (k : Nat) (hk : k ≤ s.size) : (s.extract 0 k).size = k := by
  simp [ByteArray.size_extract]; omega
theorem extract_extract0 (s : ByteArray) (k m : Nat) (hm : m ≤ k) : (s.extract 0 k).extract 0 m = s.extract 0 m := by
  apply ByteArray.ext
  simp [Nat.min_eq_left hm]

set_option maxHeartbeats 1000000 in
set_option maxRecDepth 100000 in
theorem cutRight_any (s set : ByteArray) (w : World) (hset : ∀ i (h : i < set.size), (set[i]'h).toNat < 128) (hs : s.size ≤ 140737488351232) (hG : Gl w) :
    Calls Tryz.prog 85 #[.string s, .string set] w fun e w' => e = .returned (.string (s.extract 0 (cutEnd s set s.size))) ∧ Below w.heap.size w w' := by
  go_enter Tryz.func85, Tryz.ntmps85
  go_wp2
  go_loopw [0] (fun v0 wr => ∃ k : Nat, k ≤ s.size ∧ v0 = .string (s.extract 0 k) ∧ cutEnd s set k = cutEnd s set s.size ∧ Below w.heap.size w wr) (fun v0 _ => match v0 with | .string x => x.size | _ => 0)
  case atStart => exact ⟨s.size, Nat.le_refl _, by congr 1; apply ByteArray.ext; simp, rfl, Below.refl _ w⟩
  case round =>
    obtain ⟨k, hk, rfl, hcut, hbw⟩ := hrel
    have hsz := Lib.hid (extract_zero s k hk)
    by_cases hp : 0 < k
    · obtain ⟨m, rfl⟩ : ∃ m, k = m + 1 := ⟨k - 1, by omega⟩
      obtain ⟨c, n, hd, hcc, hn⟩ := last_rune s set hset m (by omega)
      have HD := Lib.hid hd
      have HCC := Lib.hid (hcut.symm.trans hcc)
      clear hd hcc hcut
      have htest : decide (0 < (s.extract 0 (m + 1)).size) = true := by rw [hsz.out]; simp
      go_wp2_with fail
      refine (Tryz.utf8_DecodeLastRuneInString _ _ ?hs (hG.below hbw).tabs).mono ?_
      case hs => rw [hsz.out]; omega
      rintro e W ⟨rfl, hb1⟩
      rw [HD.out]
      have hbW := hbw.trans (hb1.mono hbw.size)
      clear hb1 hbw
      go_wp2
      go_loopw [7] (fun v7 wi => ∃ j : Nat, j ≤ set.size ∧ v7 = .bool (inSetTo set c j) ∧ wi = W.iter set j) (fun _ wi => set.size - wi.iterPos W.heap.size)
      case atStart => exact ⟨0, Nat.zero_le _, rfl, rfl⟩
      case round =>
        obtain ⟨j, hj, rfl, rfl⟩ := hrel
        by_cases hlt : j < set.size
        · have hnx2 : ∀ ty, (Instr.next (.pointer (some ⟨W.heap.size, 0, none⟩)) true ty).run Tryz.prog (W.iter set j) = _ := fun ty => run_next_ascii W set j ty hlt (hset j hlt)
          have hsu := Lib.hid (inSetTo_succ set c j hlt)
          go_wp2
          all_goals
            go_roundw
            case rel => exact ⟨j + 1, hlt, by rw [hsu.out, Bool.beq_comm_int]; simp [*], rfl⟩
            case measure => simp; omega
        · have hnx2 : ∀ ty, (Instr.next (.pointer (some ⟨W.heap.size, 0, none⟩)) true ty).run Tryz.prog (W.iter set j) = _ := fun ty => run_next_end W set j ty hlt
          have hall := Lib.hid (inSetTo_all set c j hlt)
          have hpos : 0 < (s.extract 0 (m + 1)).size := by rw [hsz.out]; omega
          cases hin : inSet set c
          · have HCN := Lib.hid (HCC.out.trans (by rw [hin, if_neg (by simp)]))
            have hin' : inSetTo set c j = false := hall.out.trans hin
            clear hin
            go_wp2
            go_ret
            exact ⟨by rw [HCN.out]; rfl, hbW.alloc hbW.size _⟩
          · obtain rfl : n = 1 := hn hin
            have HCN := Lib.hid (HCC.out.trans (by rw [hin, if_pos rfl]))
            have hin' : inSetTo set c j = true := hall.out.trans hin
            clear hin
            go_wp2
            go_roundw
            case rel =>
              refine ⟨m, by omega, ?_, HCN.out.symm, hbW.alloc hbW.size _⟩
              rw [extract_extract0 s (m + 1) m (by omega)]
            case measure =>
              show ((s.extract 0 (m + 1)).extract 0 m).size < (s.extract 0 (m + 1)).size
              rw [extract_extract0 s (m + 1) m (by omega), extract_zero s m (by omega), hsz.out]
              omega
    · obtain rfl : k = 0 := by omega
      have htest : decide (0 < (s.extract 0 0).size) = false := by rw [hsz.out]; simp
      have HC := Lib.hid hcut
      clear hcut
      go_wp2
      go_ret
      exact ⟨by rw [← HC.out]; rfl, hbw⟩
end Go.Proofs.YtpjmccajkcmmaaaGreatDoor

namespace Go.Proofs.YtpjmccajkcmmaaaGreatDoor
open Go.RowKit

def isHex (c : Nat) : Prop := (48 ≤ c ∧ c ≤ 57) ∨ (65 ≤ c ∧ c ≤ 70) ∨ (97 ≤ c ∧ c ≤ 102)
/-- a hexadecimal digit's value -/
def hexV (c : Nat) : Nat := if c ≤ 57 then c - 48 else if c ≤ 70 then c - 55 else c - 87
theorem hexV_lt (c : Nat) (h : isHex c) : hexV c < 16 := by
  unfold isHex at h; unfold hexV
  split
  · omega
  · split <;> omega
def parse16 (acc : Nat) : List UInt8 → Lib.NumEnd Nat
  | [] => .ok acc
  | c :: r => if 1152921504606846976 ≤ acc then .range else parse16 (acc * 16 + hexV c.toNat) r

theorem lower_up (c : Int) (h0 : 65 ≤ c) (h1 : c ≤ 70) (w : World) :
    Calls Tryz.prog 135 #[.int .u8 c] w fun e w' => e = .returned (.int .u8 (c + 32)) ∧ w' = w := by
  have hb : bits .or .u8 c 32 = c + 32 := by
    have h : c = 65 ∨ c = 66 ∨ c = 67 ∨ c = 68 ∨ c = 69 ∨ c = 70 := by omega
    rcases h with rfl | rfl | rfl | rfl | rfl | rfl <;> decide
  have HB := Lib.hid hb
  clear hb
  go_enter Tryz.func135, Tryz.ntmps135
  go_wp2
  go_ret
  exact ⟨by rw [← HB.out]; rfl, rfl⟩
theorem lower_lo (c : Int) (h0 : 97 ≤ c) (h1 : c ≤ 102) (w : World) :
    Calls Tryz.prog 135 #[.int .u8 c] w fun e w' => e = .returned (.int .u8 c) ∧ w' = w := by
  have hb : bits .or .u8 c 32 = c := by
    have h : c = 97 ∨ c = 98 ∨ c = 99 ∨ c = 100 ∨ c = 101 ∨ c = 102 := by omega
    rcases h with rfl | rfl | rfl | rfl | rfl | rfl <;> decide
  have HB := Lib.hid hb
  clear hb
  go_enter Tryz.func135, Tryz.ntmps135
  go_wp2
  go_ret
  refine ⟨?_, rfl⟩
  show Ending.returned (.int .u8 (bits .or .u8 c 32)) = _
  rw [HB.out]

set_option maxHeartbeats 32000000 in
set_option maxRecDepth 100000 in
theorem parseUint_16 (t : ByteArray) (hne : t.size ≠ 0) (hmax : t.size ≤ 9223372036854775806) (hx : ∀ c ∈ t.data.toList, isHex c.toNat) (w : World) :
    Calls Tryz.prog 107 #[.string t, .int .i64 16, .int .i64 64] w fun e w' => e = .returned (Lib.uintTuple 204 (parse16 0 t.data.toList)) ∧ w' = Lib.bytesWorld w 5 t := by
  have hemp : t.toList.isEmpty = false := by
    rw [← decide_eq_emptyBytes]
    exact decide_eq_false (fun h => hne (by rw [h]; rfl))
  have hcv := Lib.run_convert_string_bytes (P := Tryz.prog) w 9 76 5 t (u := .string) Tryz.underlying9 Tryz.underlying76 Tryz.underlying5
  have hB : ∀ j, j < t.size → (Lib.bytesWorld w 5 t).cell? ⟨w.heap.size, j, none⟩ = some (.int .u8 (t.data.toList.getD j 0).toNat) := fun j hj => Lib.bytesWorld_cell w 5 t j hj
  obtain ⟨W1, hW1⟩ : ∃ W1, W1 = Lib.bytesWorld w 5 t := ⟨_, rfl⟩
  rw [← hW1] at hcv hB ⊢
  clear hW1
  obtain ⟨bs, hL⟩ : ∃ bs, bs = t.data.toList := ⟨_, rfl⟩
  have hLn : bs.length = t.size := by rw [hL, Lib.size_eq]
  rw [← hL] at hB hx ⊢
  clear hL
  have hmv : IntKind.u64.wrap (IntKind.u64.wrap 18446744073709551616 - 1) = 18446744073709551615 := by
    rw [IntKind.wrap_u64, IntKind.wrap_u64]
    decide
  have HX := Lib.hid hx
  clear hx
  go_enter Tryz.func107, Tryz.ntmps107
  go_wp2
  go_loop [12, 13, 101] (fun vu vn vi => ∃ (k acc : Nat) (a : Int), vu = .bool false ∧ vn = .int .u64 a ∧ vi = .int .i64 k ∧ k ≤ t.size ∧ Hid (a = (acc : Int) ∧ acc < 18446744073709551616 ∧ parse16 0 bs = parse16 acc (bs.drop k)))
    (fun _ _ vi => t.size - (intOf vi).toNat)
  case atStart => exact ⟨0, 0, 0, rfl, rfl, rfl, by omega, rfl, by omega, rfl⟩
  case round =>
    obtain ⟨k, acc, a, rfl, rfl, rfl, hk, hh⟩ := hrel
    obtain ⟨ha, hacc, hdec⟩ := hh.out
    clear hh
    have a0 : 0 ≤ a := by omega
    have a1 : a < 18446744073709551616 := by omega
    by_cases hkn : k < t.size
    · have hc := hB k hkn
      have hdrop : bs.drop k = bs[k]'(by omega) :: bs.drop (k + 1) := List.drop_eq_getElem_cons (by omega)
      have hget : bs.getD k 0 = bs[k]'(by omega) := by simp [List.getD, List.getElem?_eq_getElem (show k < bs.length by omega)]
      have hxc : isHex (bs[k]'(by omega)).toNat := HX.out _ (List.getElem_mem _)
      rw [hdrop] at hdec
      rw [hget] at hc
      generalize bs[k]'(by omega) = c at hc hdec hxc
      have hc256 : c.toNat < 256 := c.toNat_lt
      clear hB hdrop hget
      have hv16 := hexV_lt _ hxc
      have fin : ∀ d : Int, d = (hexV c.toNat : Int) → acc < 1152921504606846976 → Hid (a * 16 + d = ((acc * 16 + hexV c.toNat : Nat) : Int) ∧ acc * 16 + hexV c.toNat < 18446744073709551616 ∧ parse16 0 bs = parse16 (acc * 16 + hexV c.toNat) (bs.drop (k + 1))) := by
        intro d hd hlt
        refine Lib.hid ⟨by omega, by omega, ?_⟩
        rw [hdec, parse16, if_neg (by omega)]
      have far : 1152921504606846976 ≤ acc → parse16 0 bs = .range := by
        intro h
        rw [hdec, parse16, if_pos h]
      clear hdec
      unfold isHex at hxc
      rcases hxc with ⟨hd0, hd1⟩ | ⟨hd0, hd1⟩ | ⟨hd0, hd1⟩
      · have hv : hexV c.toNat = c.toNat - 48 := by unfold hexV; rw [if_pos hd1]
        by_cases hcut : 1152921504606846976 ≤ acc
        · have hdec := far hcut
          have icut : 1152921504606846976 ≤ a := by omega
          clear fin far hcut hacc hv hv16 ha
          go_wp2
          go_ret2
          first | exact ⟨rfl, rfl⟩ | exact ⟨by rw [hdec]; exact rfl, rfl⟩
        · have HN := fin ((c.toNat : Int) - 48) (by omega) (by omega)
          have icut : a < 1152921504606846976 := by omega
          clear fin far hcut hacc hv hv16 ha
          go_wp2
          refine ⟨⟨k + 1, acc * 16 + hexV c.toNat, a * 16 + ((c.toNat : Int) - 48), rfl, (by first | rfl | (congr 1; omega)), (by first | rfl | (congr 1; omega)), by omega, HN⟩, by simp [intOf]; omega⟩
      · have hv : hexV c.toNat = c.toNat - 55 := by unfold hexV; rw [if_neg (by omega), if_pos hd1]
        by_cases hcut : 1152921504606846976 ≤ acc
        · have hdec := far hcut
          have icut : 1152921504606846976 ≤ a := by omega
          clear fin far hcut hacc hv hv16 ha
          go_wp2_with (go_at_call 135; refine (lower_up _ (by omega) (by omega) _).mono ?_; rintro e w' ⟨rfl, rfl⟩)
          go_ret2
          first | exact ⟨rfl, rfl⟩ | exact ⟨by rw [hdec]; exact rfl, rfl⟩
        · have HN := fin ((c.toNat : Int) - 55) (by omega) (by omega)
          have icut : a < 1152921504606846976 := by omega
          clear fin far hcut hacc hv hv16 ha
          go_wp2_with (go_at_call 135; refine (lower_up _ (by omega) (by omega) _).mono ?_; rintro e w' ⟨rfl, rfl⟩)
          refine ⟨⟨k + 1, acc * 16 + hexV c.toNat, a * 16 + ((c.toNat : Int) - 55), rfl, (by first | rfl | (congr 1; omega)), (by first | rfl | (congr 1; omega)), by omega, HN⟩, by simp [intOf]; omega⟩
      · have hv : hexV c.toNat = c.toNat - 87 := by unfold hexV; rw [if_neg (by omega), if_neg (by omega)]
        by_cases hcut : 1152921504606846976 ≤ acc
        · have hdec := far hcut
          have icut : 1152921504606846976 ≤ a := by omega
          clear fin far hcut hacc hv hv16 ha
          go_wp2_with (go_at_call 135; refine (lower_lo _ (by omega) (by omega) _).mono ?_; rintro e w' ⟨rfl, rfl⟩)
          go_ret2
          first | exact ⟨rfl, rfl⟩ | exact ⟨by rw [hdec]; exact rfl, rfl⟩
        · have HN := fin ((c.toNat : Int) - 87) (by omega) (by omega)
          have icut : a < 1152921504606846976 := by omega
          clear fin far hcut hacc hv hv16 ha
          go_wp2_with (go_at_call 135; refine (lower_lo _ (by omega) (by omega) _).mono ?_; rintro e w' ⟨rfl, rfl⟩)
          refine ⟨⟨k + 1, acc * 16 + hexV c.toNat, a * 16 + ((c.toNat : Int) - 87), rfl, (by first | rfl | (congr 1; omega)), (by first | rfl | (congr 1; omega)), by omega, HN⟩, by simp [intOf]; omega⟩
    · have hkk : k = t.size := by omega
      subst hkk
      have hF : parse16 acc (bs.drop t.size) = .ok acc := by rw [List.drop_eq_nil_of_le (by omega)]; rfl
      rw [hF] at hdec
      subst ha
      clear hacc hF a0 a1
      go_wp2
      go_ret2
      first | exact ⟨rfl, rfl⟩ | exact ⟨by rw [hdec]; exact rfl, rfl⟩
end Go.Proofs.YtpjmccajkcmmaaaGreatDoor

namespace Go.Proofs.YtpjmccajkcmmaaaGreatDoor
open Go.RowKit

/-- the number that digits spell -/
def natVal (b : Nat) (acc : Nat) : List UInt8 → Nat
  | [] => acc
  | c :: r => natVal b (acc * b + hexV c.toNat) r
def isDig (b : Nat) (c : Nat) : Prop := (48 ≤ c ∧ c ≤ 57) ∨ (b = 16 ∧ isHex c)

theorem natVal_le (b : Nat) (hb : 1 ≤ b) : ∀ (l : List UInt8) (acc : Nat), acc ≤ natVal b acc l
  | [], acc => Nat.le_refl _
  | c :: r, acc => by
    have h := natVal_le b hb r (acc * b + hexV c.toNat)
    have h2 : acc * 1 ≤ acc * b := Nat.mul_le_mul_left _ hb
    simp only [natVal]
    omega

def endOf (v : Nat) : Lib.NumEnd Nat := if v < 18446744073709551616 then .ok v else .range

theorem parse16_eq : ∀ (l : List UInt8) (acc : Nat), acc < 18446744073709551616 → (∀ c ∈ l, isHex c.toNat) → parse16 acc l = endOf (natVal 16 acc l)
  | [], acc, h, _ => (if_pos h : endOf acc = .ok acc).symm
  | c :: r, acc, h, hx => by
    have hv := hexV_lt c.toNat (hx c (by simp))
    simp only [parse16, natVal]
    by_cases hc : 1152921504606846976 ≤ acc
    · rw [if_pos hc, endOf, if_neg]
      have := natVal_le 16 (by omega) r (acc * 16 + hexV c.toNat)
      omega
    · rw [if_neg hc]
      exact parse16_eq r _ (by omega) (fun d hd => hx d (by simp [hd]))

theorem parse10_eq : ∀ (l : List UInt8) (acc : Nat), acc < 18446744073709551616 → (∀ c ∈ l, 48 ≤ c.toNat ∧ c.toNat ≤ 57) → Lib.parseUint10 acc l = endOf (natVal 10 acc l)
  | [], acc, h, _ => (if_pos h : endOf acc = .ok acc).symm
  | c :: r, acc, h, hx => by
    have hd := hx c (by simp)
    have hv : hexV c.toNat = c.toNat - 48 := by unfold hexV; rw [if_pos hd.2]
    simp only [Lib.parseUint10, natVal]
    rw [if_pos hd, hv]
    have hle := natVal_le 10 (by omega) r (acc * 10 + (c.toNat - 48))
    by_cases hc : 1844674407370955162 ≤ acc
    · rw [if_pos hc, endOf, if_neg]
      omega
    · rw [if_neg hc]
      by_cases ho : 18446744073709551616 ≤ acc * 10 + (c.toNat - 48)
      · rw [if_pos ho, endOf, if_neg]
        omega
      · rw [if_neg ho]
        exact parse10_eq r _ (by omega) (fun d hd => hx d (by simp [hd]))

theorem parseB_eq (l : List UInt8) (hne : l ≠ []) (hx : ∀ c ∈ l, 48 ≤ c.toNat ∧ c.toNat ≤ 57) : Lib.parseUintB 64 l = endOf (natVal 10 0 l) := by
  have eM : (2 : Nat) ^ 64 - 1 = 18446744073709551615 := by decide
  rw [Lib.parseUintB, if_neg hne, eM, Lib.parseUintM_64]
  exact parse10_eq l 0 (by omega) hx

set_option maxHeartbeats 1000000 in
set_option maxRecDepth 100000 in
theorem pub_ok (b : Nat) (hb : b = 10 ∨ b = 16) (s : ByteArray) (hs : s.size ≤ 140737488351232) (hne : s.size ≠ 0) (hx : ∀ c ∈ s.data.toList, isDig b c.toNat) (w : World)
    (hv : natVal b 0 s.data.toList < 18446744073709551616) :
    Calls Tryz.prog 87 #[.string s, .int .i64 b, .int .i64 64] w fun e w' => e = .returned (.tuple #[.int .u64 (natVal b 0 s.data.toList : Nat), .nilIface]) ∧ Below w.heap.size w w' := by
  have hne' : s.data.toList ≠ [] := fun h => hne (by rw [Lib.size_eq, h]; rfl)
  rcases hb with rfl | rfl
  · have h := parseB_eq s.data.toList hne' (fun c hc => by rcases hx c hc with h | ⟨h, _⟩ <;> omega)
    rw [endOf, if_pos hv] at h
    refine (Tryz.strconv_ParseUint_10_at64_ok s (by omega) _ h w).mono ?_
    rintro e w' ⟨he, hw⟩
    refine ⟨he, ?_⟩
    rcases hw with rfl | rfl
    · exact Below.refl _ _
    · exact Lib.bytesWorld_below _ _ _
  · have hx' : ∀ c ∈ s.data.toList, isHex c.toNat := fun c hc => by
      rcases hx c hc with h | ⟨_, h⟩
      · exact .inl h
      · exact h
    have h := parse16_eq s.data.toList 0 (by omega) hx'
    rw [endOf, if_pos hv] at h
    generalize natVal 16 0 s.data.toList = v at h ⊢
    have hc : Calls Tryz.prog 107 #[.string s, .int .i64 16, .int .i64 64] w fun e w' => e = .returned (.tuple #[.int .u64 v, .nilIface]) ∧ Below w.heap.size w w' :=
      (parseUint_16 s hne (by omega) hx' w).mono fun e w' ⟨he, hw⟩ => ⟨by rw [he, h]; exact rfl, by rw [hw]; exact Lib.bytesWorld_below _ _ _⟩
    clear h hx hx' hv hne'
    go_enter Tryz.func87, Tryz.ntmps87
    go_wp2_with fail
    refine hc.mono ?_
    rintro e w' ⟨rfl, hbw⟩
    go_wp2
    go_ret2
    exact ⟨rfl, hbw⟩

set_option maxHeartbeats 1000000 in
set_option maxRecDepth 100000 in
theorem pub_range (b : Nat) (hb : b = 10 ∨ b = 16) (s : ByteArray) (hs : s.size ≤ 140737488351232) (hne : s.size ≠ 0) (hx : ∀ c ∈ s.data.toList, isDig b c.toNat) (w : World) (hG : Gl w)
    (hv : 18446744073709551616 ≤ natVal b 0 s.data.toList) :
    Calls Tryz.prog 87 #[.string s, .int .i64 b, .int .i64 64] w fun e w' => ∃ (N : Nat) (a : Addr), e = .returned (.tuple #[.int .u64 18446744073709551615, .iface 206 (.pointer (some ⟨N, 0, none⟩))]) ∧
      w'.cell? ⟨N, 0 + 2, none⟩ = some (.iface 240 (.pointer (some a))) ∧ w'.cell? ⟨0, 0, none⟩ = some (.iface 240 (.pointer (some a))) ∧ Below w.heap.size w w' := by
  have hne' : s.data.toList ≠ [] := fun h => hne (by rw [Lib.size_eq, h]; rfl)
  obtain ⟨a, ha⟩ := hG.rng
  have fin : ∀ {N : Nat} {c0 c1 : Value} {T : TypeId} {w' : World}, w'.heap[N]? = some (.cells #[c0, c1, .iface 240 (.pointer (some a))] T (0, 0)) → w'.cell? ⟨N, 0 + 2, none⟩ = some (.iface 240 (.pointer (some a))) := by
    intro N c0 c1 T w' h
    simp [World.cell?, h]
  rcases hb with rfl | rfl
  · have h := parseB_eq s.data.toList hne' (fun c hc => by rcases hx c hc with h | ⟨h, _⟩ <;> omega)
    rw [endOf, if_neg (by omega)] at h
    refine (Tryz.strconv_ParseUint_10_at64_range s (by omega) h _ w ha (.inr ⟨_, _, rfl⟩)).mono ?_
    rintro e w' ⟨N, he, hN, hc, hb⟩
    exact ⟨N, a, he, fin hc, Gl.cell hb ha, hb⟩
  · have hx' : ∀ c ∈ s.data.toList, isHex c.toNat := fun c hc => by
      rcases hx c hc with h | ⟨_, h⟩
      · exact .inl h
      · exact h
    have h := parse16_eq s.data.toList 0 (by omega) hx'
    rw [endOf, if_neg (by omega)] at h
    have hc : Calls Tryz.prog 107 #[.string s, .int .i64 16, .int .i64 64] w fun e w' => e = .returned (.tuple #[.int .u64 18446744073709551615, .iface 204 (.int .i64 1)]) ∧ Below w.heap.size w w' :=
      (parseUint_16 s hne (by omega) hx' w).mono fun e w' ⟨he, hw⟩ => ⟨by rw [he, h]; exact rfl, by rw [hw]; exact Lib.bytesWorld_below _ _ _⟩
    clear h hx hx' hv hne'
    go_enter Tryz.func87, Tryz.ntmps87
    go_wp2_with fail
    refine hc.mono ?_
    rintro e w1 ⟨rfl, hbw⟩
    have ha1 := Gl.cell hbw ha
    go_wp2_with fail
    refine (Tryz.strconv_toError_range _ s _ _ _ _ (by omega) ha1 (.inr ⟨_, _, rfl⟩)).mono ?_
    rintro e w2 ⟨N, rfl, hN, hcell, hb2⟩
    have hb3 := hbw.trans (hb2.mono hbw.size)
    have hf := fin hcell
    have ha2 := Gl.cell hb3 ha
    clear ha ha1 fin hcell
    go_wp2
    go_ret2
    exact ⟨N, a, rfl, hf, ha2, hb3⟩
end Go.Proofs.YtpjmccajkcmmaaaGreatDoor

namespace Go.Proofs.YtpjmccajkcmmaaaGreatDoor
open Go.RowKit

def digB (b : Nat) (c : UInt8) : Bool := (decide (48 ≤ c.toNat) && decide (c.toNat ≤ 57)) || (b == 16 && ((decide (65 ≤ c.toNat) && decide (c.toNat ≤ 70)) || (decide (97 ≤ c.toNat) && decide (c.toNat ≤ 102))))
theorem digB_iff (b : Nat) (c : UInt8) : digB b c = true ↔ isDig b c.toNat := by
  unfold digB isDig isHex
  simp only [Bool.or_eq_true, Bool.and_eq_true, decide_eq_true_eq, beq_iff_eq]
  omega

def minusB (l : List UInt8) : Bool := Lib.hasPrefix l [45]
def body1 (l : List UInt8) : List UInt8 := if minusB l then l.drop 1 else Lib.trimPrefix l [43]
def hexB (l : List UInt8) : Bool := decide (2 < l.length) && (l.getD 0 0 == 48 && (l.getD 1 0 == 88 || l.getD 1 0 == 120))
def body2 (l : List UInt8) : List UInt8 := if hexB l then l.drop 2 else l
def baseN (l : List UInt8) : Nat := if hexB l then 16 else 10
def digsOf (b : Nat) : ByteArray := if b = 10 then ⟨#[48, 49, 50, 51, 52, 53, 54, 55, 56, 57]⟩ else ⟨#[48, 49, 50, 51, 52, 53, 54, 55, 56, 57, 97, 98, 99, 100, 101, 102, 65, 66, 67, 68, 69, 70]⟩
/-- num.Parse: the number and the error's number -/
def valOf (minus : Bool) (v : Nat) : Int × Int := if 4611686018427387904 < v then (0, 5) else if minus then (-(v : Int), 0) else ((v : Int), 0)
def parseD (minus : Bool) (b : Nat) (d : List UInt8) : Int × Int := if d = [] then (0, 3) else if d.all (digB b) then valOf minus (natVal b 0 d) else (0, 3)
def parseS (l : List UInt8) : Int × Int := parseD (minusB l) (baseN (body1 l)) (body2 (body1 l))

theorem body1_le (l : List UInt8) : (body1 l).length ≤ l.length := by
  unfold body1 Lib.trimPrefix
  split
  · simp
  · split
    · simp
    · exact Nat.le_refl _
theorem body2_le (l : List UInt8) : (body2 l).length ≤ l.length := by
  unfold body2
  split
  · simp
  · exact Nat.le_refl _

/-! ### what is cut at both sides -/
theorem digs_ascii (b : Nat) : ∀ i (h : i < (digsOf b).size), ((digsOf b)[i]'h).toNat < 128 := by
  unfold digsOf
  by_cases hb : b = 10
  · rw [if_pos hb]
    decide
  · rw [if_neg hb]
    decide
theorem inSet_dig (b : Nat) (hb : b = 10 ∨ b = 16) (c : UInt8) : inSet (digsOf b) (c.toNat : Int) = digB b c := by
  have h10 : ∀ c : Fin 256, inSet (digsOf 10) ((c.val : Nat) : Int) = digB 10 (UInt8.ofNat c.val) := by decide +kernel
  have h16 : ∀ c : Fin 256, inSet (digsOf 16) ((c.val : Nat) : Int) = digB 16 (UInt8.ofNat c.val) := by decide +kernel
  have e : UInt8.ofNat c.toNat = c := by simp
  rcases hb with rfl | rfl
  · have := h10 ⟨c.toNat, c.toNat_lt⟩
    simpa [e] using this
  · have := h16 ⟨c.toNat, c.toNat_lt⟩
    simpa [e] using this

theorem inSet_decode (b : Nat) (hb : b = 10 ∨ b = 16) (s : ByteArray) (pos : Nat) (h : pos < s.size) :
    inSet (digsOf b) (Utf8.decode s pos).1 = digB b (s.data.toList.getD pos 0) ∧ (digB b (s.data.toList.getD pos 0) = true → (Utf8.decode s pos).2 = 1) := by
  have e : s.data.toList.getD pos 0 = s[pos]'h := by
    have : pos < s.data.toList.length := by simpa using h
    rw [List.getD_eq_getElem?_getD, List.getElem?_eq_getElem this]
    rfl
  rw [e]
  by_cases ha : (s[pos]'h).toNat < 128
  · rw [decode_ascii s pos h ha]
    exact ⟨inSet_dig b hb _, fun _ => rfl⟩
  · have h1 := (decode_high s pos h (by omega)).1
    have h2 : digB b (s[pos]'h) = false := by
      rw [Bool.eq_false_iff]
      intro hd
      have := (digB_iff b _).1 hd
      unfold isDig isHex at this
      omega
    rw [inSet_high _ _ (digs_ascii b) (by omega), h2]
    exact ⟨rfl, fun h => by cases h⟩

/-- where cutLeft stops: all bytes ahead are digits, and the next one is none -/
theorem cutAt_spec (b : Nat) (hb : b = 10 ∨ b = 16) (s : ByteArray) : ∀ (fuel pos : Nat), s.size ≤ pos + fuel → pos ≤ s.size →
    pos ≤ cutAt s (digsOf b) fuel pos ∧ cutAt s (digsOf b) fuel pos ≤ s.size ∧ (∀ i, pos ≤ i → i < cutAt s (digsOf b) fuel pos → digB b (s.data.toList.getD i 0) = true) ∧
      (cutAt s (digsOf b) fuel pos < s.size → digB b (s.data.toList.getD (cutAt s (digsOf b) fuel pos) 0) = false)
  | 0, pos, hf, hp => ⟨Nat.le_refl _, hp, fun i h1 h2 => by simp only [cutAt] at h2; omega, fun h => by simp only [cutAt] at h; omega⟩
  | fuel + 1, pos, hf, hp => by
    by_cases h : pos < s.size
    · obtain ⟨h1, h2⟩ := inSet_decode b hb s pos h
      simp only [cutAt]
      rw [if_pos h, h1]
      cases hd : digB b (s.data.toList.getD pos 0)
      · rw [if_neg (by simp)]
        exact ⟨Nat.le_refl _, hp, fun i h1 h2 => by omega, fun _ => hd⟩
      · rw [if_pos rfl, h2 hd]
        obtain ⟨g1, g2, g3, g4⟩ := cutAt_spec b hb s fuel (pos + 1) (by omega) (by omega)
        refine ⟨by omega, g2, fun i h1 h2 => ?_, g4⟩
        by_cases e : i = pos
        · rw [e]; exact hd
        · exact g3 i (by omega) h2
    · rw [cutAt_end s _ _ _ h]
      exact ⟨Nat.le_refl _, hp, fun i h1 h2 => by omega, fun h' => absurd h' h⟩

theorem cutEnd_pos (b : Nat) (hb : b = 10 ∨ b = 16) (s : ByteArray) (h0 : digB b (s.data.toList.getD 0 0) = false) : ∀ k, 0 < k → 0 < cutEnd s (digsOf b) k
  | 0, h => by omega
  | 1, _ => by simp only [cutEnd]; rw [inSet_dig b hb, h0, if_neg (by simp)]; omega
  | k + 2, _ => by
    simp only [cutEnd]
    split
    · exact cutEnd_pos b hb s h0 (k + 1) (by omega)
    · omega

/-- THE TWO CUTS TOGETHER: nothing is left just if all bytes are digits. -/
theorem cuts (b : Nat) (hb : b = 10 ∨ b = 16) (s : ByteArray) :
    (s.data.toList.all (digB b) = true → s.extract (cutAt s (digsOf b) s.size 0) s.size = ⟨#[]⟩) ∧
    (s.data.toList.all (digB b) = false → 0 < ((s.extract (cutAt s (digsOf b) s.size 0) s.size).extract 0 (cutEnd (s.extract (cutAt s (digsOf b) s.size 0) s.size) (digsOf b) (s.extract (cutAt s (digsOf b) s.size 0) s.size).size)).size) := by
  obtain ⟨_, g2, g3, g4⟩ := cutAt_spec b hb s s.size 0 (by omega) (by omega)
  have hl : s.data.toList.length = s.size := by simp
  refine ⟨fun h => ?_, fun h => ?_⟩
  · apply extract_end
    intro hlt
    have := g4 hlt
    rw [List.all_eq_true] at h
    have hm : s.data.toList.getD (cutAt s (digsOf b) s.size 0) 0 ∈ s.data.toList := by
      rw [List.getD_eq_getElem?_getD, List.getElem?_eq_getElem (by omega)]
      exact List.getElem_mem _
    rw [h _ hm] at this
    cases this
  · have hlt : cutAt s (digsOf b) s.size 0 < s.size := by
      by_cases hlt : cutAt s (digsOf b) s.size 0 < s.size
      · exact hlt
      · exfalso
        have : s.data.toList.all (digB b) = true := by
          rw [List.all_eq_true]
          intro c hc
          obtain ⟨i, hi, rfl⟩ := List.mem_iff_getElem.1 hc
          have := g3 i (by omega) (by omega)
          rwa [List.getD_eq_getElem?_getD, List.getElem?_eq_getElem hi] at this
        rw [this] at h
        cases h
    have h4 := g4 hlt
    generalize cutAt s (digsOf b) s.size 0 = p at hlt h4
    have hsz : (s.extract p s.size).size = s.size - p := by simp [ByteArray.size_extract]
    have h0 : digB b ((s.extract p s.size).data.toList.getD 0 0) = false := by
      have e : (s.extract p s.size).data.toList.getD 0 0 = s.data.toList.getD p 0 := by
        simp [List.getD, List.getElem?_drop, List.getElem?_take, hlt]
        rw [if_pos (by omega)]
        rfl
      rw [e]
      exact h4
    have hp := cutEnd_pos b hb (s.extract p s.size) h0 (s.extract p s.size).size (by omega)
    rw [extract_zero _ _ (cutEnd_le _ _ _)]
    exact hp
end Go.Proofs.YtpjmccajkcmmaaaGreatDoor

namespace Go.Proofs.YtpjmccajkcmmaaaGreatDoor
open Go.RowKit Go.Extern.Stop Go.Stop Go.Extern

theorem isTypeOf (v : Value) (w : World) : (Extern.ReflectliteType.typeOf #[.iface 240 v]).run Tryz.prog w = .ok (.iface 210 (.agg #[.pointer (some ⟨8, 240, none⟩)])) w := by kernel_rfl
theorem isComparable (w : World) : ((Extern.ReflectliteType.method fun t => do Go.Extern.Rtype.noPackHeld "Comparable" t; (fun a => Value.bool a.comparable) <$> typeInfo t) #[.agg #[.pointer (some ⟨8, 240, none⟩)]]).run Tryz.prog w = .ok (.bool true) w := by kernel_rfl
theorem isMethodComparable (v : Value) (w : World) : (Go.method 493 210 v "Comparable").run Tryz.prog w = .ok (316, v) w := by kernel_rfl
theorem isComp : (Tryz.prog.info? 240).map (·.comparable) = some true := by kernel_rfl
theorem isSize : (Tryz.prog.info? 242).map (·.size) = some 1 := by kernel_rfl
theorem noIsW (v : Value) (xT : TypeId) (w : World) : (Instr.typeAssert (.iface 206 v) xT 212 true).run Tryz.prog w = .ok (.tuple #[.nilIface, .bool false]) w := run_typeAssert_lacksB Tryz.underlying212 (by kernel_rfl) (by kernel_rfl) v xT w
theorem hasUnwrapW (v : Value) (xT : TypeId) (w : World) : (Instr.typeAssert (.iface 206 v) xT 215 true).run Tryz.prog w = .ok (.tuple #[.iface 206 v, .bool true]) w := run_typeAssert_hasB Tryz.underlying215 (by kernel_rfl) v xT w
theorem methodUnwrap (v : Value) (w : World) : (Go.method 493 206 v "Unwrap").run Tryz.prog w = .ok (312, v) w := by kernel_rfl

/-- errors.Is(nil, x). -/
theorem is_nil (b : Addr) (w : World) :
    Calls Tryz.prog 88 #[.nilIface, .iface 240 (.pointer (some b))] w fun e w' => e = .returned (.bool false) ∧ w' = w := by
  have hn := run_eql_iface_nil_left (P := Tryz.prog) w 240 (.pointer (some b)) Tryz.underlying164
  go_enter Tryz.func88, Tryz.ntmps88
  go_wp2
  go_ret
  exact ⟨rfl, rfl⟩

set_option maxRecDepth 100000 in
/-- errors.Is(e, x), e a *strconv.NumError that wraps x itself: one Unwrap, then equal. -/
theorem is_wrap_same (pb po : Nat) (b : Addr) (w : World) (h1 : w.cell? ⟨pb, po + 2, none⟩ = some (.iface 240 (.pointer (some b)))) :
    Calls Tryz.prog 88 #[.iface 206 (.pointer (some ⟨pb, po, none⟩)), .iface 240 (.pointer (some b))] w fun e w' => e = .returned (.bool true) ∧ w' = w := by
  obtain ⟨i, hi, hcmp⟩ := Option.map_eq_some_iff.1 isComp
  obtain ⟨j, hj, hjs⟩ := Option.map_eq_some_iff.1 isSize
  have h8 := @run_callFunc_extern Tryz.prog 109 _ Extern.ReflectliteType.typeOf Tryz.func109 (by kernel_rfl) (by kernel_rfl) (by kernel_rfl) (by kernel_rfl)
  have h32 := @run_callFunc_extern Tryz.prog 316 _ (Extern.ReflectliteType.method fun t => do Go.Extern.Rtype.noPackHeld "Comparable" t; pure (.bool (← typeInfo t).comparable)) Tryz.func316 (by kernel_rfl) (by kernel_rfl) (by kernel_rfl) (by kernel_rfl)
  have tT := isTypeOf
  have cT := isComparable
  have mR := isMethodComparable
  have nW := noIsW
  have uW := hasUnwrapW
  have mU := methodUnwrap
  have heq := run_eql_iface_ptr_same (P := Tryz.prog) w b Tryz.underlying164 Tryz.underlying240 hi hcmp hj
  have hty := run_eql_iface_types (P := Tryz.prog) 206 240 (.pointer (some ⟨pb, po, none⟩)) (.pointer (some b)) Tryz.underlying164 (by decide) w
  go_enter Tryz.func88, Tryz.ntmps88
  go_wp2
  refine wp_loop_rounds 2 ?_
  rw [rounds_succ]
  go_wp2
  rw [rounds_succ]
  go_wp2
  go_ret
  exact ⟨rfl, rfl⟩
end Go.Proofs.YtpjmccajkcmmaaaGreatDoor

namespace Go.Proofs.YtpjmccajkcmmaaaGreatDoor
open Go.RowKit

theorem or32 (c : Nat) (h : c < 256) : ((bits .or .u8 (c : Int) 32) == 120) = (c == 88 || c == 120) := by
  have h' : ∀ c : Fin 256, ((bits .or .u8 ((c.val : Nat) : Int) 32) == 120) = (c.val == 88 || c.val == 120) := by decide +kernel
  exact h' ⟨c, h⟩

theorem cut_minus (s : ByteArray) (w : World) :
    Calls Tryz.prog 83 #[.string s, .string ⟨#[45]⟩] w fun e w' => e = .returned (.tuple #[.string ⟨(Lib.trimPrefix s.data.toList [45]).toArray⟩, .bool (minusB s.data.toList)]) ∧ w = w' :=
  (Tryz.strings_CutPrefix s ⟨#[45]⟩ w).mono fun _ _ ⟨he, hw⟩ => ⟨he, hw.symm⟩
theorem trim_plus (s : ByteArray) (w : World) :
    Calls Tryz.prog 84 #[.string s, .string ⟨#[43]⟩] w fun e w' => e = .returned (.string ⟨(Lib.trimPrefix s.data.toList [43]).toArray⟩) ∧ w = w' :=
  (Tryz.strings_TrimPrefix s ⟨#[43]⟩ w).mono fun _ _ ⟨he, hw⟩ => ⟨he, hw.symm⟩
theorem trim_yes (l : List UInt8) (h : minusB l = true) : Lib.trimPrefix l [45] = body1 l := by
  unfold body1 Lib.trimPrefix
  rw [if_pos h, show Lib.hasPrefix l [45] = true from h, if_pos rfl]
  rfl
theorem trim_no (l : List UInt8) (h : minusB l = false) : Lib.trimPrefix l [43] = body1 l := by
  unfold body1
  rw [h, if_neg (by simp)]

theorem at_toArray (l : List UInt8) (i : Nat) (h : i < (⟨l.toArray⟩ : ByteArray).size) : (⟨l.toArray⟩ : ByteArray)[i]'h = l.getD i 0 := by
  have h' : i < l.length := by simpa [ByteArray.size] using h
  rw [List.getD_eq_getElem?_getD, List.getElem?_eq_getElem h']
  rfl
theorem hex_short (l : List UInt8) (h : (l.length : Int) ≤ 2) : hexB l = false := by
  unfold hexB
  rw [decide_eq_false (by omega)]
  rfl
theorem hex_no0 (l : List UInt8) (_h : 2 < (l.length : Int)) {p : 0 < (⟨l.toArray⟩ : ByteArray).size} (h0 : ¬ ((((⟨l.toArray⟩ : ByteArray)[0]'p).toNat : Int) = 48)) : hexB l = false := by
  unfold hexB
  rw [at_toArray] at h0
  have e : (l.getD 0 0 == 48) = false := by
    rw [beq_eq_false_iff_ne]
    intro e
    rw [e] at h0
    exact h0 rfl
  rw [e]
  simp
theorem hex_yes (l : List UInt8) (h : 2 < (l.length : Int)) {p : 0 < (⟨l.toArray⟩ : ByteArray).size} {q : 1 < (⟨l.toArray⟩ : ByteArray).size} (h0 : (((⟨l.toArray⟩ : ByteArray)[0]'p).toNat : Int) = 48) :
    hexB l = (bits .or .u8 (((⟨l.toArray⟩ : ByteArray)[1]'q).toNat : Int) 32 == 120) := by
  have e88 : ∀ c : UInt8, (c == 88) = (c.toNat == 88) := by
    intro c
    rw [Bool.eq_iff_iff, beq_iff_eq, beq_iff_eq]
    exact ⟨fun h => by rw [h]; rfl, fun h => UInt8.toNat_inj.1 h⟩
  have e120 : ∀ c : UInt8, (c == 120) = (c.toNat == 120) := by
    intro c
    rw [Bool.eq_iff_iff, beq_iff_eq, beq_iff_eq]
    exact ⟨fun h => by rw [h]; rfl, fun h => UInt8.toNat_inj.1 h⟩
  rw [at_toArray] at h0 ⊢
  unfold hexB
  have e : (l.getD 0 0 == 48) = true := by
    rw [beq_iff_eq]
    apply UInt8.toNat_inj.1
    exact Int.ofNat_inj.1 h0
  rw [e, decide_eq_true (by omega), or32 _ (UInt8.toNat_lt _), e88, e120]
  rfl
theorem bl_drewN {a w : World} (n : Nat) (h : Below a.heap.size a w) : Below a.heap.size a (w.drewN n) := h.trans ⟨rfl, rfl, rfl, Nat.le_refl _, fun _ _ => rfl⟩
theorem hex_body (l : List UInt8) : hexB l = true → 2 ≤ l.length := by
  unfold hexB
  intro h
  have := (Bool.and_eq_true _ _ ▸ h).1
  simp at this
  omega
theorem hex_all (l : List UInt8) : (hexB l = true → 2 ≤ l.length ∧ body2 l = l.drop 2 ∧ baseN l = 16) ∧ (hexB l = false → body2 l = l ∧ baseN l = 10) := by
  unfold body2 baseN
  constructor
  · intro h
    exact ⟨hex_body l h, by rw [if_pos h], by rw [if_pos h]⟩
  · intro h
    exact ⟨by rw [h, if_neg (by simp)], by rw [h, if_neg (by simp)]⟩
theorem base_two (l : List UInt8) : baseN l = 10 ∨ baseN l = 16 := by
  unfold baseN
  split
  · exact .inr rfl
  · exact .inl rfl

set_option maxHeartbeats 4000000 in
set_option maxRecDepth 100000 in
theorem parse_any (s : ByteArray) (hs : s.size ≤ 140737488351232) (w : World) (hG : Gl w) :
    Calls Tryz.prog 60 #[.string s] w fun e w' => e = .returned (.tuple #[.int .i64 (parseS s.data.toList).1, .int .i64 (parseS s.data.toList).2]) ∧ Below w.heap.size w w' := by
  have hl1 : (body1 s.data.toList).length ≤ 140737488351232 := by
    have := body1_le s.data.toList
    have h2 : s.data.toList.length = s.size := by simp
    omega
  have HP : Hid (parseS s.data.toList = parseD (minusB s.data.toList) (baseN (body1 s.data.toList)) (body2 (body1 s.data.toList))) := Lib.hid rfl
  have HT1 := Lib.hid (trim_yes s.data.toList)
  have HT2 := Lib.hid (trim_no s.data.toList)
  obtain ⟨r, hr⟩ : ∃ r, r = parseS s.data.toList := ⟨_, rfl⟩
  rw [← hr] at HP ⊢
  clear hr
  go_enter Tryz.func60, Tryz.ntmps60
  go_upto_if 16 with (go_at_call 83; refine (cut_minus _ _).mono ?_; rintro e w' ⟨rfl, rfl⟩)
  generalize hm : minusB s.data.toList = m at HP HT1 HT2
  clear hm
  generalize body1 s.data.toList = l1 at HP HT1 HT2 hl1
  go_cut [0, 4] (fun v0 v4 wc => v0 = .string ⟨l1.toArray⟩ ∧ (∃ i : Int, v4 = .int .u64 i ∧ Hid (i = if m then 1 else 0)) ∧ w = wc)
  case first =>
    cases m
    · go_wp2_with (go_at_call 84; refine (trim_plus _ _).mono ?_; rintro e w' ⟨rfl, rfl⟩)
      go_meet
      exact ⟨by rw [HT2.out trivial], ⟨0, rfl, Lib.hid rfl⟩, rfl⟩
    · go_wp2
      go_meet
      exact ⟨by rw [HT1.out trivial], ⟨1, rfl, Lib.hid rfl⟩, rfl⟩
  case rest =>
    obtain ⟨rfl, ⟨i, rfl, Hi⟩, rfl⟩ := hcut
    clear HT1 HT2
    go_upto_region 7 with fail
    go_cut [33] (fun v33 wc => v33 = .bool (hexB l1) ∧ w = wc)
    case first =>
      go_wp2
      · go_meet
        exact ⟨by rw [hex_yes l1 (by assumption) (by assumption)], rfl⟩
      · go_meet
        exact ⟨by rw [hex_no0 l1 (by assumption) (by assumption)], rfl⟩
      · go_meet
        exact ⟨by rw [hex_short l1 (by assumption)], rfl⟩
    case rest =>
      obtain ⟨rfl, rfl⟩ := hcut
      have HH1 := Lib.hid (hex_all l1)
      have hl2 : (body2 l1).length ≤ 140737488351232 := Nat.le_trans (body2_le l1) hl1
      have hb0 := base_two l1
      generalize hexB l1 = h at HH1
      generalize body2 l1 = d at HH1 HP hl2
      generalize baseN l1 = b at HH1 HP hb0
      go_upto_if 33 with fail
      go_cut [0, 7, 8] (fun v0 v7 v8 wc => (∃ s2 : ByteArray, v0 = .string s2 ∧ Hid (s2.data.toList = d)) ∧ (∃ j : Int, v7 = .int .i64 j ∧ Hid (j = (b : Int))) ∧ v8 = .string (digsOf b) ∧ Below w.heap.size w wc)
      case first =>
        cases h
        · have HE := Lib.hid (HH1.out.2 rfl)
          clear HH1
          go_wp2
          go_meet
          exact ⟨⟨_, rfl, Lib.hid (by rw [HE.out.1])⟩, ⟨10, rfl, Lib.hid (by rw [HE.out.2]; rfl)⟩, by rw [HE.out.2]; rfl, Below.refl _ _⟩
        · have HE := Lib.hid (HH1.out.1 rfl)
          have h2 : 2 ≤ l1.length := (HE.out).1
          clear HH1
          have h2' : (2 : Int) ≤ (l1.length : Int) := by omega
          go_wp2_with fail
          go_quiet (fail)
          go_wp2
          go_meet
          refine ⟨⟨_, rfl, Lib.hid ?_⟩, ⟨16, rfl, Lib.hid (by rw [HE.out.2.2]; rfl)⟩, ?_, bl_drewN _ (Below.refl _ _)⟩
          · rw [HE.out.2.1]
            simp
            rw [List.take_of_length_le (by simp)]
          · rw [HE.out.2.2]
            exact rfl
      case rest =>
        obtain ⟨⟨s2, rfl, Hs2⟩, ⟨j, rfl, Hj⟩, rfl, hbw⟩ := hcut
        have hsz : s2.size ≤ 140737488351232 := by rw [Lib.size_eq, Hs2.out]; exact hl2
        have hG1 := hG.below hbw
        clear HH1 hl1 hl2 hG
        by_cases h0 : s2.size = 0
        · obtain rfl : s2 = ⟨#[]⟩ := by
            apply ByteArray.ext
            exact Array.eq_empty_of_size_eq_zero h0
          obtain rfl : r = (0, 3) := by
            rw [HP.out, ← Hs2.out]
            rfl
          clear HP
          go_wp2
          go_ret2
          exact ⟨rfl, hbw⟩
        · have hemp : s2.toList.isEmpty = false := by
            rw [← decide_eq_emptyBytes]
            exact decide_eq_false (fun h => h0 (by rw [h]; rfl))
          have hc := cuts b hb0 s2
          rw [Hs2.out] at hc
          have hd : d ≠ [] := fun h => h0 (by rw [Lib.size_eq, Hs2.out, h]; rfl)
          have hL := cutLeft_any s2 (digsOf b)
          have htsz : (s2.extract (cutAt s2 (digsOf b) s2.size 0) s2.size).size ≤ 140737488351232 := by rw [ByteArray.size_extract]; omega
          generalize s2.extract (cutAt s2 (digsOf b) s2.size 0) s2.size = t at hc hL htsz
          have hR := cutRight_any t (digsOf b)
          have HL := Lib.hid hL
          have HR := Lib.hid hR
          have HC := Lib.hid hc
          clear hL hR hc
          cases hall : d.all (digB b)
          · obtain rfl : r = (0, 3) := by
              rw [HP.out, parseD, if_neg hd, hall]
              rfl
            have hpos := HC.out.2 hall
            generalize t.extract 0 (cutEnd t (digsOf b) t.size) = u at hpos HR
            have hu : u.toList.isEmpty = false := by
              rw [← decide_eq_emptyBytes]
              exact decide_eq_false (fun h => by rw [h] at hpos; exact absurd hpos (by decide))
            clear HC HP hall hpos
            go_wp2_with fail
            refine (HL.out _ (digs_ascii b)).mono ?_
            rintro e w1 ⟨rfl, hb1⟩
            have hbw1 := hbw.trans (hb1.mono hbw.size)
            have hG2 := hG1.below hb1
            clear hb1 hG1
            go_wp2_with fail
            refine (HR.out _ (digs_ascii b) htsz hG2).mono ?_
            rintro e w2 ⟨rfl, hb2⟩
            have hbw2 := hbw1.trans (hb2.mono hbw1.size)
            go_wp2
            go_ret2
            exact ⟨rfl, hbw2⟩
          · have hr : r = valOf m (natVal b 0 d) := by
              rw [HP.out, parseD, if_neg hd, if_pos hall]
            have ht := HC.out.1 hall
            clear HP HC
            subst ht
            have hx : ∀ c ∈ s2.data.toList, isDig b c.toNat := fun c hc => (digB_iff b c).1 (List.all_eq_true.1 hall c (Hs2.out ▸ hc))
            have hu : (⟨#[]⟩ : ByteArray).extract 0 (cutEnd ⟨#[]⟩ (digsOf b) (⟨#[]⟩ : ByteArray).size) = ⟨#[]⟩ := by
              apply ByteArray.ext
              simp
            have HR1 : Hid (∀ w : World, Gl w → Calls Tryz.prog 85 #[.string ⟨#[]⟩, .string (digsOf b)] w fun e w' => e = .returned (.string ⟨#[]⟩) ∧ Below w.heap.size w w') :=
              Lib.hid (fun w hw => by have := HR.out w (digs_ascii b) htsz hw; rw [hu] at this; exact this)
            have HX := Lib.hid hx
            clear hx hu HR htsz hall hd
            go_wp2_with fail
            refine (HL.out _ (digs_ascii b)).mono ?_
            rintro e w1 ⟨rfl, hb1⟩
            have hbw1 := hbw.trans (hb1.mono hbw.size)
            have hG2 := hG1.below hb1
            clear hb1 hG1 HL hbw
            go_wp2_with fail
            refine (HR1.out _ hG2).mono ?_
            rintro e w2 ⟨rfl, hb2⟩
            have hbw2 := hbw1.trans (hb2.mono hbw1.size)
            have hG3 := hG2.below hb2
            clear hb2 hG2 hbw1 HR1
            obtain rfl : j = (b : Int) := Hj.out
            by_cases hv : natVal b 0 d < 18446744073709551616
            · have HPU := Lib.hid (fun w => pub_ok b hb0 s2 hsz h0 HX.out w (Hs2.out ▸ hv))
              rw [Hs2.out] at HPU
              generalize natVal b 0 d = v at HPU hr hv
              obtain ⟨a, ha⟩ : ∃ a : Int, a = (v : Int) := ⟨_, rfl⟩
              rw [← ha] at HPU
              have a0 : 0 ≤ a := by omega
              have a1 : a < 18446744073709551616 := by omega
              have HA := Lib.hid ha
              have HRR := Lib.hid hr
              clear ha hv hr
              go_wp2_with fail
              refine (HPU.out _).mono ?_
              rintro e w3 ⟨rfl, hb3⟩
              have hbw3 := hbw2.trans (hb3.mono hbw2.size)
              have hG4 := hG3.below hb3
              clear hb3 hG3 hbw2 HPU
              obtain ⟨ra, hra⟩ := hG4.rng
              go_wp2_with fail
              refine (is_nil ra _).mono ?_
              rintro e w4 ⟨rfl, hw4⟩
              obtain rfl := hw4.symm
              by_cases hbig : 4611686018427387904 < a
              · obtain rfl : r = (0, 5) := by
                  rw [HRR.out, valOf, if_pos (by have := HA.out; omega)]
                clear HRR HA
                go_wp2
                go_ret2
                exact ⟨rfl, hbw3⟩
              · have hsm : a ≤ 4611686018427387904 := by omega
                clear hbig
                cases m
                · obtain rfl : r = (a, 0) := by
                    rw [HRR.out, valOf, if_neg (by have := HA.out; omega), HA.out]
                    rfl
                  obtain rfl : i = 0 := Hi.out
                  clear HRR HA Hi
                  go_wp2
                  go_ret2
                  exact ⟨rfl, hbw3⟩
                · obtain rfl : r = (-a, 0) := by
                    rw [HRR.out, valOf, if_neg (by have := HA.out; omega), HA.out]
                    rfl
                  obtain rfl : i = 1 := Hi.out
                  clear HRR HA Hi
                  go_wp2
                  go_ret2
                  exact ⟨rfl, hbw3⟩
            · have HPU := Lib.hid (fun w hw => pub_range b hb0 s2 hsz h0 HX.out w hw (by rw [Hs2.out]; omega))
              obtain rfl : r = (0, 5) := by
                rw [hr, valOf, if_pos (by omega)]
              clear hr hv
              go_wp2_with fail
              refine (HPU.out _ hG3).mono ?_
              rintro e w3 ⟨N, ra, rfl, hN, hra, hb3⟩
              have hbw3 := hbw2.trans (hb3.mono hbw2.size)
              clear hb3 hG3 hbw2 HPU
              go_wp2_with fail
              refine (is_wrap_same N 0 ra _ hN).mono ?_
              rintro e w4 ⟨rfl, hw4⟩
              obtain rfl := hw4.symm
              go_wp2
              go_ret2
              exact ⟨rfl, hbw3⟩
end Go.Proofs.YtpjmccajkcmmaaaGreatDoor
