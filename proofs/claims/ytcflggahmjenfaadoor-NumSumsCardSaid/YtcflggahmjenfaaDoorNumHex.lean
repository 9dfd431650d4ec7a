/- internal/strconv.ParseUint(s, 16, 64) at texts of hexadecimal digits alone (turned from the kit's own walk at base 10). -/
import Derived.Test.YtcflggahmjenfaaDoorGl
import Derived.Lib.Hide
import Derived.Laws.Strings3
import Derived.Laws.Closers25
import Derived.Laws.Closers25b
import Derived.BigCall
import Derived.BigGuard
import Derived.Lib.ConvBytes
import Derived.Lib.AtoiAllMem
namespace Go.Proofs.YtcflggahmjenfaaDoor
open Go.RowKit

def isHex (c : Nat) : Prop := (48 ≤ c ∧ c ≤ 57) ∨ (65 ≤ c ∧ c ≤ 70) ∨ (97 ≤ c ∧ c ≤ 102)
/-- a hexadecimal digit's value -/
def hexV (c : Nat) : Nat := if c ≤ 57 then c - 48 else if c ≤ 70 then c - 55 else c - 87
theorem hexV_lt (c : Nat) (h : isHex c) : hexV c < 16 := by
  unfold isHex at h; unfold hexV
  split
  · omega
  · split <;> omega
def parse16 (acc : Nat) : List UInt8 → Lib.NumEnd Nat
  | [] => .ok acc
  | c :: r => if 1152921504606846976 ≤ acc then .range else parse16 (acc * 16 + hexV c.toNat) r

theorem lower_up (c : Int) (h0 : 65 ≤ c) (h1 : c ≤ 70) (w : World) :
    Calls Tryd.prog 45 #[.int .u8 c] w fun e w' => e = .returned (.int .u8 (c + 32)) ∧ w' = w := by
  have hb : bits .or .u8 c 32 = c + 32 := by
    have h : c = 65 ∨ c = 66 ∨ c = 67 ∨ c = 68 ∨ c = 69 ∨ c = 70 := by omega
    rcases h with rfl | rfl | rfl | rfl | rfl | rfl <;> decide
  have HB := Lib.hid hb
  clear hb
  go_enter Tryd.func45, Tryd.ntmps45
  go_wp2
  go_ret
  exact ⟨by rw [← HB.out]; rfl, rfl⟩
theorem lower_lo (c : Int) (h0 : 97 ≤ c) (h1 : c ≤ 102) (w : World) :
    Calls Tryd.prog 45 #[.int .u8 c] w fun e w' => e = .returned (.int .u8 c) ∧ w' = w := by
  have hb : bits .or .u8 c 32 = c := by
    have h : c = 97 ∨ c = 98 ∨ c = 99 ∨ c = 100 ∨ c = 101 ∨ c = 102 := by omega
    rcases h with rfl | rfl | rfl | rfl | rfl | rfl <;> decide
  have HB := Lib.hid hb
  clear hb
  go_enter Tryd.func45, Tryd.ntmps45
  go_wp2
  go_ret
  refine ⟨?_, rfl⟩
  show Ending.returned (.int .u8 (bits .or .u8 c 32)) = _
  rw [HB.out]

set_option maxHeartbeats 32000000 in
set_option maxRecDepth 100000 in
theorem parseUint_16 (t : ByteArray) (hne : t.size ≠ 0) (hmax : t.size ≤ 9223372036854775806) (hx : ∀ c ∈ t.data.toList, isHex c.toNat) (w : World) :
    Calls Tryd.prog 35 #[.string t, .int .i64 16, .int .i64 64] w fun e w' => e = .returned (Lib.uintTuple 62 (parse16 0 t.data.toList)) ∧ w' = Lib.bytesWorld w 5 t := by
  have hemp : t.toList.isEmpty = false := by
    rw [← decide_eq_emptyBytes]
    exact decide_eq_false (fun h => hne (by rw [h]; rfl))
  have hcv := Lib.run_convert_string_bytes (P := Tryd.prog) w 9 52 5 t (u := .string) Tryd.underlying9 Tryd.underlying52 Tryd.underlying5
  have hB : ∀ j, j < t.size → (Lib.bytesWorld w 5 t).cell? ⟨w.heap.size, j, none⟩ = some (.int .u8 (t.data.toList.getD j 0).toNat) := fun j hj => Lib.bytesWorld_cell w 5 t j hj
  obtain ⟨W1, hW1⟩ : ∃ W1, W1 = Lib.bytesWorld w 5 t := ⟨_, rfl⟩
  rw [← hW1] at hcv hB ⊢
  clear hW1
  obtain ⟨bs, hL⟩ : ∃ bs, bs = t.data.toList := ⟨_, rfl⟩
  have hLn : bs.length = t.size := by rw [hL, Lib.size_eq]
  rw [← hL] at hB hx ⊢
  clear hL
  have hmv : IntKind.u64.wrap (IntKind.u64.wrap 18446744073709551616 - 1) = 18446744073709551615 := by
    rw [IntKind.wrap_u64, IntKind.wrap_u64]
    decide
  have HX := Lib.hid hx
  clear hx
  go_enter Tryd.func35, Tryd.ntmps35
  go_wp2
  go_loop [12, 13, 101] (fun vu vn vi => ∃ (k acc : Nat) (a : Int), vu = .bool false ∧ vn = .int .u64 a ∧ vi = .int .i64 k ∧ k ≤ t.size ∧ Hid (a = (acc : Int) ∧ acc < 18446744073709551616 ∧ parse16 0 bs = parse16 acc (bs.drop k)))
    (fun _ _ vi => t.size - (intOf vi).toNat)
  case atStart => exact ⟨0, 0, 0, rfl, rfl, rfl, by omega, rfl, by omega, rfl⟩
  case round =>
    obtain ⟨k, acc, a, rfl, rfl, rfl, hk, hh⟩ := hrel
    obtain ⟨ha, hacc, hdec⟩ := hh.out
    clear hh
    have a0 : 0 ≤ a := by omega
    have a1 : a < 18446744073709551616 := by omega
    by_cases hkn : k < t.size
    · have hc := hB k hkn
      have hdrop : bs.drop k = bs[k]'(by omega) :: bs.drop (k + 1) := List.drop_eq_getElem_cons (by omega)
      have hget : bs.getD k 0 = bs[k]'(by omega) := by simp [List.getD, List.getElem?_eq_getElem (show k < bs.length by omega)]
      have hxc : isHex (bs[k]'(by omega)).toNat := HX.out _ (List.getElem_mem _)
      rw [hdrop] at hdec
      rw [hget] at hc
      generalize bs[k]'(by omega) = c at hc hdec hxc
      have hc256 : c.toNat < 256 := c.toNat_lt
      clear hB hdrop hget
      have hv16 := hexV_lt _ hxc
      have fin : ∀ d : Int, d = (hexV c.toNat : Int) → acc < 1152921504606846976 → Hid (a * 16 + d = ((acc * 16 + hexV c.toNat : Nat) : Int) ∧ acc * 16 + hexV c.toNat < 18446744073709551616 ∧ parse16 0 bs = parse16 (acc * 16 + hexV c.toNat) (bs.drop (k + 1))) := by
        intro d hd hlt
        refine Lib.hid ⟨by omega, by omega, ?_⟩
        rw [hdec, parse16, if_neg (by omega)]
      have far : 1152921504606846976 ≤ acc → parse16 0 bs = .range := by
        intro h
        rw [hdec, parse16, if_pos h]
      clear hdec
      unfold isHex at hxc
      rcases hxc with ⟨hd0, hd1⟩ | ⟨hd0, hd1⟩ | ⟨hd0, hd1⟩
      · have hv : hexV c.toNat = c.toNat - 48 := by unfold hexV; rw [if_pos hd1]
        by_cases hcut : 1152921504606846976 ≤ acc
        · have hdec := far hcut
          have icut : 1152921504606846976 ≤ a := by omega
          clear fin far hcut hacc hv hv16 ha
          go_wp2
          go_ret2
          first | exact ⟨rfl, rfl⟩ | exact ⟨by rw [hdec]; exact rfl, rfl⟩
        · have HN := fin ((c.toNat : Int) - 48) (by omega) (by omega)
          have icut : a < 1152921504606846976 := by omega
          clear fin far hcut hacc hv hv16 ha
          go_wp2
          refine ⟨⟨k + 1, acc * 16 + hexV c.toNat, a * 16 + ((c.toNat : Int) - 48), rfl, (by first | rfl | (congr 1; omega)), (by first | rfl | (congr 1; omega)), by omega, HN⟩, by simp [intOf]; omega⟩
      · have hv : hexV c.toNat = c.toNat - 55 := by unfold hexV; rw [if_neg (by omega), if_pos hd1]
        by_cases hcut : 1152921504606846976 ≤ acc
        · have hdec := far hcut
          have icut : 1152921504606846976 ≤ a := by omega
          clear fin far hcut hacc hv hv16 ha
          go_wp2_with (go_at_call 45; refine (lower_up _ (by omega) (by omega) _).mono ?_; rintro e w' ⟨rfl, rfl⟩)
          go_ret2
          first | exact ⟨rfl, rfl⟩ | exact ⟨by rw [hdec]; exact rfl, rfl⟩
        · have HN := fin ((c.toNat : Int) - 55) (by omega) (by omega)
          have icut : a < 1152921504606846976 := by omega
          clear fin far hcut hacc hv hv16 ha
          go_wp2_with (go_at_call 45; refine (lower_up _ (by omega) (by omega) _).mono ?_; rintro e w' ⟨rfl, rfl⟩)
          refine ⟨⟨k + 1, acc * 16 + hexV c.toNat, a * 16 + ((c.toNat : Int) - 55), rfl, (by first | rfl | (congr 1; omega)), (by first | rfl | (congr 1; omega)), by omega, HN⟩, by simp [intOf]; omega⟩
      · have hv : hexV c.toNat = c.toNat - 87 := by unfold hexV; rw [if_neg (by omega), if_neg (by omega)]
        by_cases hcut : 1152921504606846976 ≤ acc
        · have hdec := far hcut
          have icut : 1152921504606846976 ≤ a := by omega
          clear fin far hcut hacc hv hv16 ha
          go_wp2_with (go_at_call 45; refine (lower_lo _ (by omega) (by omega) _).mono ?_; rintro e w' ⟨rfl, rfl⟩)
          go_ret2
          first | exact ⟨rfl, rfl⟩ | exact ⟨by rw [hdec]; exact rfl, rfl⟩
        · have HN := fin ((c.toNat : Int) - 87) (by omega) (by omega)
          have icut : a < 1152921504606846976 := by omega
          clear fin far hcut hacc hv hv16 ha
          go_wp2_with (go_at_call 45; refine (lower_lo _ (by omega) (by omega) _).mono ?_; rintro e w' ⟨rfl, rfl⟩)
          refine ⟨⟨k + 1, acc * 16 + hexV c.toNat, a * 16 + ((c.toNat : Int) - 87), rfl, (by first | rfl | (congr 1; omega)), (by first | rfl | (congr 1; omega)), by omega, HN⟩, by simp [intOf]; omega⟩
    · have hkk : k = t.size := by omega
      subst hkk
      have hF : parse16 acc (bs.drop t.size) = .ok acc := by rw [List.drop_eq_nil_of_le (by omega)]; rfl
      rw [hF] at hdec
      subst ha
      clear hacc hF a0 a1
      go_wp2
      go_ret2
      first | exact ⟨rfl, rfl⟩ | exact ⟨by rw [hdec]; exact rfl, rfl⟩
end Go.Proofs.YtcflggahmjenfaaDoor
