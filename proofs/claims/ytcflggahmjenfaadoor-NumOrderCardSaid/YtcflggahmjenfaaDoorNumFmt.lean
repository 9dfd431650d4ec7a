/- num.Format and the reference's Format: 'Lib.itoa' of every int. -/
import Derived.Test.YtcflggahmjenfaaDoorNumFns
namespace Go.Proofs.YtcflggahmjenfaaDoor
open Go.RowKit

theorem bl_grow {w : World} (k : Nat) (os : Array Obj) : Below w.heap.size w (Sort.grow (w.drewN k) os) :=
  (bl_drewN k (Below.refl _ w)).trans ⟨rfl, rfl, rfl, by simp [Sort.grow], fun i hi => by
    show ((w.drewN k).heap ++ os)[i]? = _
    rw [Array.getElem?_append_left]
    exact hi⟩
set_option maxRecDepth 100000 in
theorem format_any (n : Int) (h0 : -9223372036854775808 ≤ n) (h1 : n ≤ 9223372036854775807) (w : World) (hG : Gl w) :
    Calls Tryd.prog 12 #[.int .i64 n] w fun e w' => e = .returned (.string ⟨(Lib.itoa n).toArray⟩) ∧ Below w.heap.size w w' := by
  have HC := Lib.hid (Tryd.strconv_Itoa n h0 h1 w hG.pow)
  go_enter Tryd.func12, Tryd.ntmps12
  go_wp2_with fail
  refine HC.out.mono ?_
  rintro e w' ⟨rfl, k, os, rfl⟩
  have hb : Below w.heap.size w (Sort.grow (w.drewN k) os) := bl_grow k os
  go_wp2
  go_ret
  exact ⟨rfl, hb⟩

/-- 'string([]byte{c})' -/
theorem one_byte (w : World) (c : Int) :
    (convert 52 9 (.slice (some ⟨w.heap.size, 0, none⟩) 1 1)).run Tryd.prog (w.alloc (.cells #[.int .u8 c] 5)) = .ok (.string ⟨#[UInt8.ofNat c.toNat]⟩) (w.alloc (.cells #[.int .u8 c] 5)) := by
  rw [run_convert_bytes_string _ _ _ 5 _ _ _ Tryd.underlying52 Tryd.underlying5 Tryd.underlying9]
  rw [run_bytesToString _ _ 1 1 [c]]
  · rfl
  · simp [loadCells, go_sem]

/-- what the reference's loop keeps: the digits of U, so far -/
def FmtR (U : Nat) (a : Int) (s : ByteArray) (first : Bool) : Prop := ∃ u : Nat, a = u ∧ u ≤ U ∧ (first = true → u = U ∧ s = ⟨#[]⟩) ∧ (first = false → (if u = 0 then s.data.toList else Lib.decDigits u ++ s.data.toList) = Lib.decDigits U)

theorem nDigits_le : ∀ (k u : Nat), u < 10 ^ (k + 1) → Lib.nDigits u ≤ k + 1
  | 0, u, h => by rw [Lib.nDigits_small (by omega)]; omega
  | k + 1, u, h => by
    by_cases h10 : u < 10
    · rw [Lib.nDigits_small h10]; omega
    · rw [Lib.nDigits, dif_neg h10]
      have := nDigits_le k (u / 10) (by rw [Nat.div_lt_iff_lt_mul (by omega)]; rw [Nat.pow_succ] at h; exact h)
      omega

theorem FmtR.small {U : Nat} {a : Int} {s : ByteArray} {first : Bool} (hU : U ≤ 9223372036854775808) (h : FmtR U a s first) : s.size ≤ 20 := by
  obtain ⟨u, _, _, h1, h2⟩ := h
  have hL : (Lib.decDigits U).length ≤ 20 := by
    rw [Lib.decDigits_length]
    exact nDigits_le 19 U (by omega)
  cases first
  · have := congrArg List.length (h2 rfl)
    rw [Lib.size_eq]
    split at this
    · omega
    · rw [List.length_append] at this
      omega
  · rw [(h1 rfl).2]
    exact Nat.zero_le _

theorem FmtR.next {U : Nat} {a : Int} {s : ByteArray} {first : Bool} (h : FmtR U a s first) (hp : first = false → 0 < a) : FmtR U (a / 10) (⟨#[UInt8.ofNat (48 + a % 10).toNat]⟩ ++ s) false := by
  obtain ⟨u, rfl, hu, h1, h2⟩ := h
  have e : (48 + (u : Int) % 10).toNat = 48 + u % 10 := by omega
  have hd : Lib.decDigits u ++ s.data.toList = Lib.decDigits U := by
    cases first
    · have := h2 rfl
      rwa [if_neg (by have := hp rfl; omega)] at this
    · obtain ⟨rfl, rfl⟩ := h1 rfl
      simp
  refine ⟨u / 10, by omega, by omega, (fun h => by cases h), fun _ => ?_⟩
  rw [e]
  have hs : ((⟨#[UInt8.ofNat (48 + u % 10)]⟩ : ByteArray) ++ s).data.toList = UInt8.ofNat (48 + u % 10) :: s.data.toList := by simp
  rw [hs, ← hd]
  by_cases h10 : u < 10
  · rw [if_pos (by omega), Lib.decDigits_one h10, Nat.mod_eq_of_lt h10]
    rfl
  · rw [if_neg (by omega)]
    conv => rhs; rw [Lib.decDigits, dif_neg h10]
    simp

theorem FmtR.last {U : Nat} {s : ByteArray} (h : FmtR U 0 s false) : s.data.toList = Lib.decDigits U := by
  obtain ⟨u, hu, _, _, h2⟩ := h
  have := h2 rfl
  rwa [if_pos (by omega)] at this

set_option maxHeartbeats 1000000 in
set_option maxRecDepth 100000 in
theorem refFormat_any (n : Int) (h0 : -9223372036854775808 ≤ n) (h1 : n ≤ 9223372036854775807) (w : World) :
    Calls Tryd.prog 13 #[.int .i64 n] w fun e w' => e = .returned (.string ⟨(Lib.itoa n).toArray⟩) ∧ Below w.heap.size w w' := by
  have hU : n.natAbs ≤ 9223372036854775808 := by omega
  go_enter Tryd.func13, Tryd.ntmps13
  go_upto_if 9 with fail
  go_cut [3] (fun v3 wc => (∃ a : Int, v3 = .int .u64 a ∧ 0 ≤ a ∧ a ≤ 9223372036854775808 ∧ Hid (a = n.natAbs)) ∧ w = wc)
  case first =>
    by_cases hn : n < 0
    · have hw : IntKind.u64.wrap (-(IntKind.u64.wrap n)) = -n := by
        rw [IntKind.wrap_u64, IntKind.wrap_u64]
        omega
      have HN : Hid (-n = n.natAbs) := Lib.hid (by omega)
      go_wp2
      go_meet
      exact ⟨⟨-n, by first | rfl | rw [hw], by omega, by omega, HN⟩, rfl⟩
    · have hw : IntKind.u64.wrap n = n := by
        rw [IntKind.wrap_u64]
        omega
      have HN : Hid (n = n.natAbs) := Lib.hid (by omega)
      go_wp2
      go_meet
      exact ⟨⟨n, rfl, by omega, by omega, HN⟩, rfl⟩
  case rest =>
    obtain ⟨⟨a, rfl, a0, a1, HA⟩, rfl⟩ := hcut
    go_wp2
    go_loopw [3, 4, 5] (fun v3 v4 v5 wr => ∃ (x : Int) (t : ByteArray) (first : Bool), v3 = .int .u64 x ∧ v4 = .string t ∧ v5 = .bool first ∧ 0 ≤ x ∧ x ≤ 9223372036854775808 ∧ Hid (FmtR n.natAbs x t first) ∧ Below w.heap.size w wr)
      (fun v3 _ v5 _ => (intOf v3).toNat + (match v5 with | .bool true => 1 | _ => 0))
    case atStart => exact ⟨a, ⟨#[]⟩, true, rfl, rfl, rfl, a0, a1, Lib.hid ⟨n.natAbs, HA.out, Nat.le_refl _, (fun _ => ⟨rfl, rfl⟩), (fun h => by cases h)⟩, Below.refl _ _⟩
    case round =>
      obtain ⟨x, t, first, rfl, rfl, rfl, x0, x1, HR, hb⟩ := hrel
      have hcv := fun c => one_byte wr c
      have ht : t.size ≤ 20 := HR.out.small hU
      cases first
      · by_cases hx : 0 < x
        · have HN := Lib.hid (HR.out.next (fun _ => hx))
          go_wp2
          go_roundw
          case rel => exact ⟨_, _, _, rfl, rfl, rfl, by omega, by omega, HN, hb.alloc hb.size _⟩
          case measure => simp [intOf]; omega
        · obtain rfl : x = 0 := by omega
          have HL := Lib.hid HR.out.last
          by_cases hn : n < 0
          · have HI : Hid (Lib.itoa n = 45 :: Lib.decDigits n.natAbs) := Lib.hid (by unfold Lib.itoa; rw [if_pos hn])
            go_wp2
            go_ret
            refine ⟨?_, hb⟩
            rw [HI.out, ← HL.out]
            exact congrArg (fun z => Ending.returned (.string z)) (by apply ByteArray.ext; simp)
          · have HI : Hid (Lib.itoa n = Lib.decDigits n.natAbs) := Lib.hid (by unfold Lib.itoa; rw [if_neg hn]; congr 1; omega)
            go_wp2
            go_ret
            refine ⟨?_, hb⟩
            rw [HI.out, ← HL.out]
            rfl
      · have HN := Lib.hid (HR.out.next (fun h => by cases h))
        go_wp2
        go_roundw
        case rel => exact ⟨_, _, _, rfl, rfl, rfl, by omega, by omega, HN, hb.alloc hb.size _⟩
        case measure => simp [intOf]; omega
end Go.Proofs.YtcflggahmjenfaaDoor
