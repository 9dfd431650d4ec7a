/- strconv.ParseUint(s, b, 64), b 10 or 16, at texts of b's digits alone: the number, if a uint64 holds it; else an error that wraps strconv.ErrRange. -/
import Derived.Test.YtcflggahmjenfaaDoorNumHex
namespace Go.Proofs.YtcflggahmjenfaaDoor
open Go.RowKit

/-- the number that digits spell -/
def natVal (b : Nat) (acc : Nat) : List UInt8 → Nat
  | [] => acc
  | c :: r => natVal b (acc * b + hexV c.toNat) r
def isDig (b : Nat) (c : Nat) : Prop := (48 ≤ c ∧ c ≤ 57) ∨ (b = 16 ∧ isHex c)

theorem natVal_le (b : Nat) (hb : 1 ≤ b) : ∀ (l : List UInt8) (acc : Nat), acc ≤ natVal b acc l
  | [], acc => Nat.le_refl _
  | c :: r, acc => by
    have h := natVal_le b hb r (acc * b + hexV c.toNat)
    have h2 : acc * 1 ≤ acc * b := Nat.mul_le_mul_left _ hb
    simp only [natVal]
    omega

def endOf (v : Nat) : Lib.NumEnd Nat := if v < 18446744073709551616 then .ok v else .range

theorem parse16_eq : ∀ (l : List UInt8) (acc : Nat), acc < 18446744073709551616 → (∀ c ∈ l, isHex c.toNat) → parse16 acc l = endOf (natVal 16 acc l)
  | [], acc, h, _ => (if_pos h : endOf acc = .ok acc).symm
  | c :: r, acc, h, hx => by
    have hv := hexV_lt c.toNat (hx c (by simp))
    simp only [parse16, natVal]
    by_cases hc : 1152921504606846976 ≤ acc
    · rw [if_pos hc, endOf, if_neg]
      have := natVal_le 16 (by omega) r (acc * 16 + hexV c.toNat)
      omega
    · rw [if_neg hc]
      exact parse16_eq r _ (by omega) (fun d hd => hx d (by simp [hd]))

theorem parse10_eq : ∀ (l : List UInt8) (acc : Nat), acc < 18446744073709551616 → (∀ c ∈ l, 48 ≤ c.toNat ∧ c.toNat ≤ 57) → Lib.parseUint10 acc l = endOf (natVal 10 acc l)
  | [], acc, h, _ => (if_pos h : endOf acc = .ok acc).symm
  | c :: r, acc, h, hx => by
    have hd := hx c (by simp)
    have hv : hexV c.toNat = c.toNat - 48 := by unfold hexV; rw [if_pos hd.2]
    simp only [Lib.parseUint10, natVal]
    rw [if_pos hd, hv]
    have hle := natVal_le 10 (by omega) r (acc * 10 + (c.toNat - 48))
    by_cases hc : 1844674407370955162 ≤ acc
    · rw [if_pos hc, endOf, if_neg]
      omega
    · rw [if_neg hc]
      by_cases ho : 18446744073709551616 ≤ acc * 10 + (c.toNat - 48)
      · rw [if_pos ho, endOf, if_neg]
        omega
      · rw [if_neg ho]
        exact parse10_eq r _ (by omega) (fun d hd => hx d (by simp [hd]))

theorem parseB_eq (l : List UInt8) (hne : l ≠ []) (hx : ∀ c ∈ l, 48 ≤ c.toNat ∧ c.toNat ≤ 57) : Lib.parseUintB 64 l = endOf (natVal 10 0 l) := by
  have eM : (2 : Nat) ^ 64 - 1 = 18446744073709551615 := by decide
  rw [Lib.parseUintB, if_neg hne, eM, Lib.parseUintM_64]
  exact parse10_eq l 0 (by omega) hx

set_option maxHeartbeats 1000000 in
set_option maxRecDepth 100000 in
theorem pub_ok (b : Nat) (hb : b = 10 ∨ b = 16) (s : ByteArray) (hs : s.size ≤ 140737488351232) (hne : s.size ≠ 0) (hx : ∀ c ∈ s.data.toList, isDig b c.toNat) (w : World)
    (hv : natVal b 0 s.data.toList < 18446744073709551616) :
    Calls Tryd.prog 25 #[.string s, .int .i64 b, .int .i64 64] w fun e w' => e = .returned (.tuple #[.int .u64 (natVal b 0 s.data.toList : Nat), .nilIface]) ∧ Below w.heap.size w w' := by
  have hne' : s.data.toList ≠ [] := fun h => hne (by rw [Lib.size_eq, h]; rfl)
  rcases hb with rfl | rfl
  · have h := parseB_eq s.data.toList hne' (fun c hc => by rcases hx c hc with h | ⟨h, _⟩ <;> omega)
    rw [endOf, if_pos hv] at h
    refine (Tryd.strconv_ParseUint_10_at64_ok s (by omega) _ h w).mono ?_
    rintro e w' ⟨he, hw⟩
    refine ⟨he, ?_⟩
    rcases hw with rfl | rfl
    · exact Below.refl _ _
    · exact Lib.bytesWorld_below _ _ _
  · have hx' : ∀ c ∈ s.data.toList, isHex c.toNat := fun c hc => by
      rcases hx c hc with h | ⟨_, h⟩
      · exact .inl h
      · exact h
    have h := parse16_eq s.data.toList 0 (by omega) hx'
    rw [endOf, if_pos hv] at h
    generalize natVal 16 0 s.data.toList = v at h ⊢
    have hc : Calls Tryd.prog 35 #[.string s, .int .i64 16, .int .i64 64] w fun e w' => e = .returned (.tuple #[.int .u64 v, .nilIface]) ∧ Below w.heap.size w w' :=
      (parseUint_16 s hne (by omega) hx' w).mono fun e w' ⟨he, hw⟩ => ⟨by rw [he, h]; exact rfl, by rw [hw]; exact Lib.bytesWorld_below _ _ _⟩
    clear h hx hx' hv hne'
    go_enter Tryd.func25, Tryd.ntmps25
    go_wp2_with fail
    refine hc.mono ?_
    rintro e w' ⟨rfl, hbw⟩
    go_wp2
    go_ret2
    exact ⟨rfl, hbw⟩

set_option maxHeartbeats 1000000 in
set_option maxRecDepth 100000 in
theorem pub_range (b : Nat) (hb : b = 10 ∨ b = 16) (s : ByteArray) (hs : s.size ≤ 140737488351232) (hne : s.size ≠ 0) (hx : ∀ c ∈ s.data.toList, isDig b c.toNat) (w : World) (hG : Gl w)
    (hv : 18446744073709551616 ≤ natVal b 0 s.data.toList) :
    Calls Tryd.prog 25 #[.string s, .int .i64 b, .int .i64 64] w fun e w' => ∃ (N : Nat) (a : Addr), e = .returned (.tuple #[.int .u64 18446744073709551615, .iface 65 (.pointer (some ⟨N, 0, none⟩))]) ∧
      w'.cell? ⟨N, 0 + 2, none⟩ = some (.iface 94 (.pointer (some a))) ∧ w'.cell? ⟨0, 0, none⟩ = some (.iface 94 (.pointer (some a))) ∧ Below w.heap.size w w' := by
  have hne' : s.data.toList ≠ [] := fun h => hne (by rw [Lib.size_eq, h]; rfl)
  obtain ⟨a, ha⟩ := hG.rng
  have fin : ∀ {N : Nat} {c0 c1 : Value} {T : TypeId} {w' : World}, w'.heap[N]? = some (.cells #[c0, c1, .iface 94 (.pointer (some a))] T (0, 0)) → w'.cell? ⟨N, 0 + 2, none⟩ = some (.iface 94 (.pointer (some a))) := by
    intro N c0 c1 T w' h
    simp [World.cell?, h]
  rcases hb with rfl | rfl
  · have h := parseB_eq s.data.toList hne' (fun c hc => by rcases hx c hc with h | ⟨h, _⟩ <;> omega)
    rw [endOf, if_neg (by omega)] at h
    refine (Tryd.strconv_ParseUint_10_at64_range s (by omega) h _ w ha (.inr ⟨_, _, rfl⟩)).mono ?_
    rintro e w' ⟨N, he, hN, hc, hb⟩
    exact ⟨N, a, he, fin hc, Gl.cell hb ha, hb⟩
  · have hx' : ∀ c ∈ s.data.toList, isHex c.toNat := fun c hc => by
      rcases hx c hc with h | ⟨_, h⟩
      · exact .inl h
      · exact h
    have h := parse16_eq s.data.toList 0 (by omega) hx'
    rw [endOf, if_neg (by omega)] at h
    have hc : Calls Tryd.prog 35 #[.string s, .int .i64 16, .int .i64 64] w fun e w' => e = .returned (.tuple #[.int .u64 18446744073709551615, .iface 62 (.int .i64 1)]) ∧ Below w.heap.size w w' :=
      (parseUint_16 s hne (by omega) hx' w).mono fun e w' ⟨he, hw⟩ => ⟨by rw [he, h]; exact rfl, by rw [hw]; exact Lib.bytesWorld_below _ _ _⟩
    clear h hx hx' hv hne'
    go_enter Tryd.func25, Tryd.ntmps25
    go_wp2_with fail
    refine hc.mono ?_
    rintro e w1 ⟨rfl, hbw⟩
    have ha1 := Gl.cell hbw ha
    go_wp2_with fail
    refine (Tryd.strconv_toError_range _ s _ _ _ _ (by omega) ha1 (.inr ⟨_, _, rfl⟩)).mono ?_
    rintro e w2 ⟨N, rfl, hN, hcell, hb2⟩
    have hb3 := hbw.trans (hb2.mono hbw.size)
    have hf := fin hcell
    have ha2 := Gl.cell hb3 ha
    clear ha ha1 fin hcell
    go_wp2
    go_ret2
    exact ⟨N, a, rfl, hf, ha2, hb3⟩
end Go.Proofs.YtcflggahmjenfaaDoor
