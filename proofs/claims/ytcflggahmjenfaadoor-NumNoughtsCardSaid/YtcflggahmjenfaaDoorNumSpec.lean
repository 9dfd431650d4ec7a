/- What num.Parse comes to, as a plain function on lists of bytes. -/
import Derived.Test.YtcflggahmjenfaaDoorNumPub
import Derived.Test.YtcflggahmjenfaaDoorNumCutR
namespace Go.Proofs.YtcflggahmjenfaaDoor
open Go.RowKit

def digB (b : Nat) (c : UInt8) : Bool := (decide (48 ≤ c.toNat) && decide (c.toNat ≤ 57)) || (b == 16 && ((decide (65 ≤ c.toNat) && decide (c.toNat ≤ 70)) || (decide (97 ≤ c.toNat) && decide (c.toNat ≤ 102))))
theorem digB_iff (b : Nat) (c : UInt8) : digB b c = true ↔ isDig b c.toNat := by
  unfold digB isDig isHex
  simp only [Bool.or_eq_true, Bool.and_eq_true, decide_eq_true_eq, beq_iff_eq]
  omega

def minusB (l : List UInt8) : Bool := Lib.hasPrefix l [45]
def body1 (l : List UInt8) : List UInt8 := if minusB l then l.drop 1 else Lib.trimPrefix l [43]
def hexB (l : List UInt8) : Bool := decide (2 < l.length) && (l.getD 0 0 == 48 && (l.getD 1 0 == 88 || l.getD 1 0 == 120))
def body2 (l : List UInt8) : List UInt8 := if hexB l then l.drop 2 else l
def baseN (l : List UInt8) : Nat := if hexB l then 16 else 10
def digsOf (b : Nat) : ByteArray := if b = 10 then ⟨#[48, 49, 50, 51, 52, 53, 54, 55, 56, 57]⟩ else ⟨#[48, 49, 50, 51, 52, 53, 54, 55, 56, 57, 97, 98, 99, 100, 101, 102, 65, 66, 67, 68, 69, 70]⟩
/-- num.Parse: the number and the error's number -/
def valOf (minus : Bool) (v : Nat) : Int × Int := if 4611686018427387904 < v then (0, 5) else if minus then (-(v : Int), 0) else ((v : Int), 0)
def parseD (minus : Bool) (b : Nat) (d : List UInt8) : Int × Int := if d = [] then (0, 3) else if d.all (digB b) then valOf minus (natVal b 0 d) else (0, 3)
def parseS (l : List UInt8) : Int × Int := parseD (minusB l) (baseN (body1 l)) (body2 (body1 l))

theorem body1_le (l : List UInt8) : (body1 l).length ≤ l.length := by
  unfold body1 Lib.trimPrefix
  split
  · simp
  · split
    · simp
    · exact Nat.le_refl _
theorem body2_le (l : List UInt8) : (body2 l).length ≤ l.length := by
  unfold body2
  split
  · simp
  · exact Nat.le_refl _

/-! ### what is cut at both sides -/
theorem digs_ascii (b : Nat) : ∀ i (h : i < (digsOf b).size), ((digsOf b)[i]'h).toNat < 128 := by
  unfold digsOf
  by_cases hb : b = 10
  · rw [if_pos hb]
    decide
  · rw [if_neg hb]
    decide
theorem inSet_dig (b : Nat) (hb : b = 10 ∨ b = 16) (c : UInt8) : inSet (digsOf b) (c.toNat : Int) = digB b c := by
  have h10 : ∀ c : Fin 256, inSet (digsOf 10) ((c.val : Nat) : Int) = digB 10 (UInt8.ofNat c.val) := by decide +kernel
  have h16 : ∀ c : Fin 256, inSet (digsOf 16) ((c.val : Nat) : Int) = digB 16 (UInt8.ofNat c.val) := by decide +kernel
  have e : UInt8.ofNat c.toNat = c := by simp
  rcases hb with rfl | rfl
  · have := h10 ⟨c.toNat, c.toNat_lt⟩
    simpa [e] using this
  · have := h16 ⟨c.toNat, c.toNat_lt⟩
    simpa [e] using this

theorem inSet_decode (b : Nat) (hb : b = 10 ∨ b = 16) (s : ByteArray) (pos : Nat) (h : pos < s.size) :
    inSet (digsOf b) (Utf8.decode s pos).1 = digB b (s.data.toList.getD pos 0) ∧ (digB b (s.data.toList.getD pos 0) = true → (Utf8.decode s pos).2 = 1) := by
  have e : s.data.toList.getD pos 0 = s[pos]'h := by
    have : pos < s.data.toList.length := by simpa using h
    rw [List.getD_eq_getElem?_getD, List.getElem?_eq_getElem this]
    rfl
  rw [e]
  by_cases ha : (s[pos]'h).toNat < 128
  · rw [decode_ascii s pos h ha]
    exact ⟨inSet_dig b hb _, fun _ => rfl⟩
  · have h1 := (decode_high s pos h (by omega)).1
    have h2 : digB b (s[pos]'h) = false := by
      rw [Bool.eq_false_iff]
      intro hd
      have := (digB_iff b _).1 hd
      unfold isDig isHex at this
      omega
    rw [inSet_high _ _ (digs_ascii b) (by omega), h2]
    exact ⟨rfl, fun h => by cases h⟩

/-- where cutLeft stops: all bytes ahead are digits, and the next one is none -/
theorem cutAt_spec (b : Nat) (hb : b = 10 ∨ b = 16) (s : ByteArray) : ∀ (fuel pos : Nat), s.size ≤ pos + fuel → pos ≤ s.size →
    pos ≤ cutAt s (digsOf b) fuel pos ∧ cutAt s (digsOf b) fuel pos ≤ s.size ∧ (∀ i, pos ≤ i → i < cutAt s (digsOf b) fuel pos → digB b (s.data.toList.getD i 0) = true) ∧
      (cutAt s (digsOf b) fuel pos < s.size → digB b (s.data.toList.getD (cutAt s (digsOf b) fuel pos) 0) = false)
  | 0, pos, hf, hp => ⟨Nat.le_refl _, hp, fun i h1 h2 => by simp only [cutAt] at h2; omega, fun h => by simp only [cutAt] at h; omega⟩
  | fuel + 1, pos, hf, hp => by
    by_cases h : pos < s.size
    · obtain ⟨h1, h2⟩ := inSet_decode b hb s pos h
      simp only [cutAt]
      rw [if_pos h, h1]
      cases hd : digB b (s.data.toList.getD pos 0)
      · rw [if_neg (by simp)]
        exact ⟨Nat.le_refl _, hp, fun i h1 h2 => by omega, fun _ => hd⟩
      · rw [if_pos rfl, h2 hd]
        obtain ⟨g1, g2, g3, g4⟩ := cutAt_spec b hb s fuel (pos + 1) (by omega) (by omega)
        refine ⟨by omega, g2, fun i h1 h2 => ?_, g4⟩
        by_cases e : i = pos
        · rw [e]; exact hd
        · exact g3 i (by omega) h2
    · rw [cutAt_end s _ _ _ h]
      exact ⟨Nat.le_refl _, hp, fun i h1 h2 => by omega, fun h' => absurd h' h⟩

theorem cutEnd_pos (b : Nat) (hb : b = 10 ∨ b = 16) (s : ByteArray) (h0 : digB b (s.data.toList.getD 0 0) = false) : ∀ k, 0 < k → 0 < cutEnd s (digsOf b) k
  | 0, h => by omega
  | 1, _ => by simp only [cutEnd]; rw [inSet_dig b hb, h0, if_neg (by simp)]; omega
  | k + 2, _ => by
    simp only [cutEnd]
    split
    · exact cutEnd_pos b hb s h0 (k + 1) (by omega)
    · omega

/-- THE TWO CUTS TOGETHER: nothing is left just if all bytes are digits. -/
theorem cuts (b : Nat) (hb : b = 10 ∨ b = 16) (s : ByteArray) :
    (s.data.toList.all (digB b) = true → s.extract (cutAt s (digsOf b) s.size 0) s.size = ⟨#[]⟩) ∧
    (s.data.toList.all (digB b) = false → 0 < ((s.extract (cutAt s (digsOf b) s.size 0) s.size).extract 0 (cutEnd (s.extract (cutAt s (digsOf b) s.size 0) s.size) (digsOf b) (s.extract (cutAt s (digsOf b) s.size 0) s.size).size)).size) := by
  obtain ⟨_, g2, g3, g4⟩ := cutAt_spec b hb s s.size 0 (by omega) (by omega)
  have hl : s.data.toList.length = s.size := by simp
  refine ⟨fun h => ?_, fun h => ?_⟩
  · apply extract_end
    intro hlt
    have := g4 hlt
    rw [List.all_eq_true] at h
    have hm : s.data.toList.getD (cutAt s (digsOf b) s.size 0) 0 ∈ s.data.toList := by
      rw [List.getD_eq_getElem?_getD, List.getElem?_eq_getElem (by omega)]
      exact List.getElem_mem _
    rw [h _ hm] at this
    cases this
  · have hlt : cutAt s (digsOf b) s.size 0 < s.size := by
      by_cases hlt : cutAt s (digsOf b) s.size 0 < s.size
      · exact hlt
      · exfalso
        have : s.data.toList.all (digB b) = true := by
          rw [List.all_eq_true]
          intro c hc
          obtain ⟨i, hi, rfl⟩ := List.mem_iff_getElem.1 hc
          have := g3 i (by omega) (by omega)
          rwa [List.getD_eq_getElem?_getD, List.getElem?_eq_getElem hi] at this
        rw [this] at h
        cases h
    have h4 := g4 hlt
    generalize cutAt s (digsOf b) s.size 0 = p at hlt h4
    have hsz : (s.extract p s.size).size = s.size - p := by simp [ByteArray.size_extract]
    have h0 : digB b ((s.extract p s.size).data.toList.getD 0 0) = false := by
      have e : (s.extract p s.size).data.toList.getD 0 0 = s.data.toList.getD p 0 := by
        simp [List.getD, List.getElem?_drop, List.getElem?_take, hlt]
        rw [if_pos (by omega)]
        rfl
      rw [e]
      exact h4
    have hp := cutEnd_pos b hb (s.extract p s.size) h0 (s.extract p s.size).size (by omega)
    rw [extract_zero _ _ (cutEnd_le _ _ _)]
    exact hp
end Go.Proofs.YtcflggahmjenfaaDoor
