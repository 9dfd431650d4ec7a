/- num.cutRight: a text without the bytes of an ASCII set at its end, for every text. -/
import Derived.Test.YtcflggahmjenfaaDoorNumCutL
import Derived.Test.YtcflggahmjenfaaDoorGl
namespace Go.Proofs.YtcflggahmjenfaaDoor
open Go.RowKit

/-- how many bytes are left, of the first k -/
def cutEnd (s set : ByteArray) : Nat → Nat
  | 0 => 0
  | k + 1 => if inSet set (s.data.toList.getD k 0).toNat then cutEnd s set k else k + 1

theorem cutEnd_le (s set : ByteArray) (k : Nat) : cutEnd s set k ≤ k := by
  induction k with
  | zero => exact Nat.le_refl _
  | succ k ih => simp only [cutEnd]; split <;> omega

theorem decodeL_high (l : List UInt8) (c : UInt8) (t : List UInt8) (hl : l = c :: t) (hc : 128 ≤ c.toNat) : 128 ≤ (Lib.decodeL l).1 := by
  subst hl
  unfold Lib.decodeL
  have h : 0 < (⟨(c :: t).toArray⟩ : ByteArray).size := by simp [ByteArray.size]
  exact (decode_high ⟨(c :: t).toArray⟩ 0 h hc).1

theorem decodeL_ascii (c : UInt8) (t : List UInt8) (hc : c.toNat < 128) : Lib.decodeL (c :: t) = (c.toNat, 1) := by
  unfold Lib.decodeL
  have h : 0 < (⟨(c :: t).toArray⟩ : ByteArray).size := by simp [ByteArray.size]
  exact decode_ascii ⟨(c :: t).toArray⟩ 0 h hc

/-- a last byte from 128 on: its rune is one, too -/
theorem decodeLast_high (l : List UInt8) (hl : l ≠ []) (h : 128 ≤ (l.getD (l.length - 1) 0).toNat) : 128 ≤ (Lib.decodeLastL l).1 := by
  have hlen : 0 < l.length := List.length_pos_iff.2 hl
  unfold Lib.decodeLastL
  rw [if_neg hl, if_neg (by omega)]
  simp only
  split
  · rename_i he
    cases hd : l.drop (Lib.lastStart l) with
    | nil =>
      exfalso
      have h1 := Lib.lastStart_lt l hl
      have := congrArg List.length hd
      rw [List.length_drop, List.length_nil] at this
      omega
    | cons c t =>
      by_cases hc : c.toNat < 128
      · rw [hd, decodeL_ascii c t hc] at he
        simp only at he
        have e1 : Lib.lastStart l = l.length - 1 := by omega
        have e2 : l.getD (l.length - 1) 0 = c := by
          have := congrArg (fun z => z.getD 0 0) hd
          simp [List.getD, List.getElem?_drop, e1] at this
          rw [List.getD_eq_getElem?_getD]
          exact this
        rw [e2] at h
        omega
      · exact decodeL_high _ c t rfl (by omega)
  · simp [Utf8.runeError]

theorem decodeLast_ascii (l : List UInt8) (hl : l ≠ []) (h : (l.getD (l.length - 1) 0).toNat < 128) : Lib.decodeLastL l = ((l.getD (l.length - 1) 0).toNat, 1) := by
  unfold Lib.decodeLastL
  rw [if_neg hl, if_pos h]

theorem inSet_high (set : ByteArray) (c : Int) (hset : ∀ i (h : i < set.size), (set[i]'h).toNat < 128) (hc : 128 ≤ c) : inSet set c = false := by
  unfold inSet
  rw [List.any_eq_false]
  intro b hb
  obtain ⟨i, hi, rfl⟩ := List.mem_iff_getElem.1 hb
  have h : i < set.size := by simpa using hi
  have := hset i h
  have e : set[i]'h = set.data.toList[i] := by simp; rfl
  rw [e] at this
  simp only [beq_iff_eq]
  omega

/-- the last rune of the first k + 1 bytes: in the set just if the last byte is, and then it is that byte -/
theorem last_rune (s set : ByteArray) (hset : ∀ i (h : i < set.size), (set[i]'h).toNat < 128) (k : Nat) (hk : k < s.size) :
    ∃ (c n : Nat), Lib.decodeLastL (s.extract 0 (k + 1)).data.toList = (c, n) ∧ cutEnd s set (k + 1) = (if inSet set c then cutEnd s set k else k + 1) ∧ (inSet set c = true → n = 1) := by
  have hsz : (s.extract 0 (k + 1)).data.toList = s.data.toList.take (k + 1) := by simp
  have hlen : (s.data.toList.take (k + 1)).length = k + 1 := by
    have : s.data.toList.length = s.size := by simp
    simp; omega
  have hne : s.data.toList.take (k + 1) ≠ [] := by intro e; rw [e] at hlen; simp at hlen
  have hg : (s.data.toList.take (k + 1)).getD ((s.data.toList.take (k + 1)).length - 1) 0 = s.data.toList.getD k 0 := by
    rw [hlen]
    simp [List.getD]
  rw [hsz]
  by_cases hb : (s.data.toList.getD k 0).toNat < 128
  · refine ⟨_, _, decodeLast_ascii _ hne (by rw [hg]; exact hb), ?_, fun _ => rfl⟩
    rw [hg]
    rfl
  · have h1 := decodeLast_high _ hne (by rw [hg]; omega)
    have hno : ∀ c : Nat, 128 ≤ c → inSet set (c : Int) = false := fun c hc => inSet_high set c hset (by omega)
    refine ⟨(Lib.decodeLastL (s.data.toList.take (k + 1))).1, (Lib.decodeLastL (s.data.toList.take (k + 1))).2, rfl, ?_, ?_⟩
    · rw [hno _ h1]
      simp only [cutEnd]
      rw [hno _ (by omega)]
    · rw [hno _ h1]
      intro h; cases h

theorem extract_zero (s : ByteArray) (k : Nat) (hk : k ≤ s.size) : (s.extract 0 k).size = k := by
  simp [ByteArray.size_extract]; omega
theorem extract_extract0 (s : ByteArray) (k m : Nat) (hm : m ≤ k) : (s.extract 0 k).extract 0 m = s.extract 0 m := by
  apply ByteArray.ext
  simp [Nat.min_eq_left hm]

set_option maxHeartbeats 1000000 in
set_option maxRecDepth 100000 in
theorem cutRight_any (s set : ByteArray) (w : World) (hset : ∀ i (h : i < set.size), (set[i]'h).toNat < 128) (hs : s.size ≤ 140737488351232) (hG : Gl w) :
    Calls Tryd.prog 23 #[.string s, .string set] w fun e w' => e = .returned (.string (s.extract 0 (cutEnd s set s.size))) ∧ Below w.heap.size w w' := by
  go_enter Tryd.func23, Tryd.ntmps23
  go_wp2
  go_loopw [0] (fun v0 wr => ∃ k : Nat, k ≤ s.size ∧ v0 = .string (s.extract 0 k) ∧ cutEnd s set k = cutEnd s set s.size ∧ Below w.heap.size w wr) (fun v0 _ => match v0 with | .string x => x.size | _ => 0)
  case atStart => exact ⟨s.size, Nat.le_refl _, by congr 1; apply ByteArray.ext; simp, rfl, Below.refl _ w⟩
  case round =>
    obtain ⟨k, hk, rfl, hcut, hbw⟩ := hrel
    have hsz := Lib.hid (extract_zero s k hk)
    by_cases hp : 0 < k
    · obtain ⟨m, rfl⟩ : ∃ m, k = m + 1 := ⟨k - 1, by omega⟩
      obtain ⟨c, n, hd, hcc, hn⟩ := last_rune s set hset m (by omega)
      have HD := Lib.hid hd
      have HCC := Lib.hid (hcut.symm.trans hcc)
      clear hd hcc hcut
      have htest : decide (0 < (s.extract 0 (m + 1)).size) = true := by rw [hsz.out]; simp
      go_wp2_with fail
      refine (Tryd.utf8_DecodeLastRuneInString _ _ ?hs (hG.below hbw).tabs).mono ?_
      case hs => rw [hsz.out]; omega
      rintro e W ⟨rfl, hb1⟩
      rw [HD.out]
      have hbW := hbw.trans (hb1.mono hbw.size)
      clear hb1 hbw
      go_wp2
      go_loopw [7] (fun v7 wi => ∃ j : Nat, j ≤ set.size ∧ v7 = .bool (inSetTo set c j) ∧ wi = W.iter set j) (fun _ wi => set.size - wi.iterPos W.heap.size)
      case atStart => exact ⟨0, Nat.zero_le _, rfl, rfl⟩
      case round =>
        obtain ⟨j, hj, rfl, rfl⟩ := hrel
        by_cases hlt : j < set.size
        · have hnx2 : ∀ ty, (Instr.next (.pointer (some ⟨W.heap.size, 0, none⟩)) true ty).run Tryd.prog (W.iter set j) = _ := fun ty => run_next_ascii W set j ty hlt (hset j hlt)
          have hsu := Lib.hid (inSetTo_succ set c j hlt)
          go_wp2
          all_goals
            go_roundw
            case rel => exact ⟨j + 1, hlt, by rw [hsu.out, Bool.beq_comm_int]; simp [*], rfl⟩
            case measure => simp; omega
        · have hnx2 : ∀ ty, (Instr.next (.pointer (some ⟨W.heap.size, 0, none⟩)) true ty).run Tryd.prog (W.iter set j) = _ := fun ty => run_next_end W set j ty hlt
          have hall := Lib.hid (inSetTo_all set c j hlt)
          have hpos : 0 < (s.extract 0 (m + 1)).size := by rw [hsz.out]; omega
          cases hin : inSet set c
          · have HCN := Lib.hid (HCC.out.trans (by rw [hin, if_neg (by simp)]))
            have hin' : inSetTo set c j = false := hall.out.trans hin
            clear hin
            go_wp2
            go_ret
            exact ⟨by rw [HCN.out]; rfl, hbW.alloc hbW.size _⟩
          · obtain rfl : n = 1 := hn hin
            have HCN := Lib.hid (HCC.out.trans (by rw [hin, if_pos rfl]))
            have hin' : inSetTo set c j = true := hall.out.trans hin
            clear hin
            go_wp2
            go_roundw
            case rel =>
              refine ⟨m, by omega, ?_, HCN.out.symm, hbW.alloc hbW.size _⟩
              rw [extract_extract0 s (m + 1) m (by omega)]
            case measure =>
              show ((s.extract 0 (m + 1)).extract 0 m).size < (s.extract 0 (m + 1)).size
              rw [extract_extract0 s (m + 1) m (by omega), extract_zero s m (by omega), hsz.out]
              omega
    · obtain rfl : k = 0 := by omega
      have htest : decide (0 < (s.extract 0 0).size) = false := by rw [hsz.out]; simp
      have HC := Lib.hid hcut
      clear hcut
      go_wp2
      go_ret
      exact ⟨by rw [← HC.out]; rfl, hbw⟩
end Go.Proofs.YtcflggahmjenfaaDoor
