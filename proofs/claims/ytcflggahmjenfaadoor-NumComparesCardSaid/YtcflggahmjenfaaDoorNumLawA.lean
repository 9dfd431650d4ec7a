/- The walks of NumParses, NumCompares, NumOrder and NumBack, out of the contracts; what is asked of plain numbers and lists besides stands ahead of each. -/
import Derived.Test.YtcflggahmjenfaaDoorNumRefF
namespace Go.Proofs.YtcflggahmjenfaaDoor
open Go.RowKit

theorem isS_eq (l : List UInt8) : isS l = ((parseS l).2 == 0) := rfl

set_option maxHeartbeats 1000000 in
set_option maxRecDepth 100000 in
theorem numParses_walk (s : ByteArray) (n : Int) (hs : s.size ≤ 140737488351232) (h0 : -9223372036854775808 ≤ n) (h1 : n ≤ 9223372036854775807) (w : World) (hG : Gl w) :
    Calls Tryd.prog 3 #[.string s, .int .i64 n] w fun e w' => e = .returned (.bool true) ∧ Below w.heap.size w w' := by
  have H1 := Lib.hid (fun w hw => parse_any s hs w hw)
  have H2 := Lib.hid (fun w => refParse_any s hs w)
  have H3 := Lib.hid (fun w hw => is_any s hs w hw)
  have hq : isS s.data.toList = ((parseS s.data.toList).2 == 0) := rfl
  have HQ := Lib.hid hq
  clear hq
  generalize isS s.data.toList = q at H3 HQ
  generalize parseS s.data.toList = x at H1 H2 HQ
  obtain ⟨x, e⟩ := x
  obtain rfl : q = (e == 0) := HQ.out
  clear HQ
  have H4 := Lib.hid (fun w hw => format_any n h0 h1 w hw)
  have H5 := Lib.hid (fun w => refFormat_any n h0 h1 w)
  generalize (⟨(Lib.itoa n).toArray⟩ : ByteArray) = t at H4 H5
  go_enter Tryd.func3, Tryd.ntmps3
  go_wp2_with fail
  refine (H1.out _ hG).mono ?_
  rintro e w1 ⟨rfl, hb1⟩
  have hG1 := hG.below hb1
  clear hG
  go_wp2_with fail
  refine (H2.out _).mono ?_
  rintro e w2 ⟨rfl, rfl⟩
  go_wp2_with fail
  refine (H3.out _ hG1).mono ?_
  rintro e w3 ⟨rfl, hb2⟩
  have hb12 := hb1.trans (hb2.mono hb1.size)
  have hG2 := hG1.below hb2
  clear hb1 hb2 hG1
  go_wp2_with fail
  refine (H4.out _ hG2).mono ?_
  rintro e w4 ⟨rfl, hb3⟩
  have hb13 := hb12.trans (hb3.mono hb12.size)
  have hG3 := hG2.below hb3
  clear hb12 hb3 hG2
  go_wp2_with fail
  refine (H5.out _).mono ?_
  rintro e w5 ⟨rfl, hb4⟩
  have hb14 := hb13.trans (hb4.mono hb13.size)
  have hG4 := hG3.below hb4
  clear hb13 hb4 hG3
  go_wp2_with fail
  refine (alive_any _ hG4).mono ?_
  rintro e w6 ⟨rfl, hb5⟩
  have hb15 := hb14.trans (hb5.mono hb14.size)
  clear hb14 hb5 hG4
  go_wp2
  go_ret
  exact ⟨rfl, hb15⟩

set_option maxHeartbeats 1000000 in
set_option maxRecDepth 100000 in
theorem numCompares_walk (a b : ByteArray) (ha : a.size ≤ 140737488351232) (hb : b.size ≤ 140737488351232) (w : World) (hG : Gl w) :
    Calls Tryd.prog 4 #[.string a, .string b] w fun e w' => e = .returned (.bool true) ∧ Below w.heap.size w w' := by
  have H1 := Lib.hid (fun w hw => compare_any a b ha hb w hw)
  have H2 := Lib.hid (fun w => refCompare_any a b ha hb w)
  have H3 := Lib.hid (fun w hw => order_any a b ha hb w hw)
  have H4 := Lib.hid (fun w => refOrder_any a b ha hb w)
  generalize orderS a.data.toList b.data.toList = q at H3 H4
  generalize cmpS a.data.toList b.data.toList = x at H1 H2
  obtain ⟨x, e⟩ := x
  go_enter Tryd.func4, Tryd.ntmps4
  go_wp2_with fail
  refine (H1.out _ hG).mono ?_
  rintro e w1 ⟨rfl, hb1⟩
  have hG1 := hG.below hb1
  clear hG
  go_wp2_with fail
  refine (H2.out _).mono ?_
  rintro e w2 ⟨rfl, rfl⟩
  go_wp2_with fail
  refine (H3.out _ hG1).mono ?_
  rintro e w3 ⟨rfl, hb2⟩
  have hb12 := hb1.trans (hb2.mono hb1.size)
  have hG2 := hG1.below hb2
  clear hb1 hb2 hG1
  go_wp2_with fail
  refine (H4.out _).mono ?_
  rintro e w4 ⟨rfl, rfl⟩
  go_wp2_with fail
  refine (alive_any _ hG2).mono ?_
  rintro e w6 ⟨rfl, hb5⟩
  have hb15 := hb12.trans (hb5.mono hb12.size)
  clear hb12 hb5 hG2
  go_wp2
  go_ret
  exact ⟨rfl, hb15⟩

/-! ### order -/
theorem compareInt_swap (a b : Int) : Lib.compareInt b a = - Lib.compareInt a b := by
  unfold Lib.compareInt
  repeat' split
  all_goals omega
theorem compareBytes_swap : ∀ (a b : List UInt8), Lib.compareBytes b a = - Lib.compareBytes a b
  | [], [] => rfl
  | [], _ :: _ => rfl
  | _ :: _, [] => rfl
  | a :: x, b :: y => by
    simp only [Lib.compareBytes]
    by_cases h1 : a < b
    · have : ¬ b < a := by intro h; exact absurd (UInt8.lt_trans h1 h) (by simp)
      simp [h1, this]
    · by_cases h2 : b < a
      · simp [h1, h2]
      · simp [h1, h2, compareBytes_swap x y]
theorem order_swap (a b : List UInt8) : orderS b a = - orderS a b := by
  unfold orderS
  cases isS a <;> cases isS b
  · simpa using compareBytes_swap a b
  · simp
  · simp
  · simpa using compareInt_swap _ _
theorem order_self (a : List UInt8) : orderS a a = 0 := by
  have := order_swap a a
  omega
theorem compareInt_le (a b : Int) : Lib.compareInt a b ≤ 0 ↔ a ≤ b := by
  unfold Lib.compareInt
  repeat' split
  all_goals omega
theorem compareBytes_le : ∀ (a b c : List UInt8), Lib.compareBytes a b ≤ 0 → Lib.compareBytes b c ≤ 0 → Lib.compareBytes a c ≤ 0
  | [], [], c, _, h => h
  | [], _ :: _, [], _, _ => by simp [Lib.compareBytes]
  | [], _ :: _, _ :: _, _, _ => by simp [Lib.compareBytes]
  | _ :: _, [], _, h, _ => by simp [Lib.compareBytes] at h
  | _ :: _, _ :: _, [], _, h => by simp [Lib.compareBytes] at h
  | a :: x, b :: y, c :: z, h1, h2 => by
    simp only [Lib.compareBytes] at h1 h2 ⊢
    by_cases ab : a < b
    · by_cases bc : b < c
      · simp [UInt8.lt_trans ab bc]
      · by_cases cb : c < b
        · simp [bc, cb] at h2
        · have : b = c := UInt8.le_antisymm (UInt8.not_lt.1 cb) (UInt8.not_lt.1 bc)
          subst this
          simp [ab]
    · by_cases ba : b < a
      · simp [ab, ba] at h1
      · have : a = b := UInt8.le_antisymm (UInt8.not_lt.1 ba) (UInt8.not_lt.1 ab)
        subst this
        simp at h1
        by_cases bc : a < c
        · simp [bc]
        · by_cases cb : c < a
          · simp [bc, cb] at h2
          · simp [bc, cb] at h2 ⊢
            exact compareBytes_le x y z h1 h2
theorem order_le (a b c : List UInt8) (h1 : orderS a b ≤ 0) (h2 : orderS b c ≤ 0) : orderS a c ≤ 0 := by
  unfold orderS at h1 h2 ⊢
  cases ha : isS a <;> cases hb : isS b <;> cases hc : isS c <;> simp [ha, hb, hc] at h1 h2 ⊢
  · exact compareBytes_le a b c h1 h2
  · rw [compareInt_le] at h1 h2 ⊢
    omega
theorem order_three (a b : List UInt8) : orderS a b = -1 ∨ orderS a b = 0 ∨ orderS a b = 1 := by
  unfold orderS
  split
  · split
    · unfold Lib.compareInt
      repeat' split
      all_goals simp
    · simp
  · split
    · simp
    · exact compare_three a b

set_option maxHeartbeats 4000000 in
set_option maxRecDepth 100000 in
theorem numOrder_walk (a b c : ByteArray) (ha : a.size ≤ 140737488351232) (hb : b.size ≤ 140737488351232) (hc : c.size ≤ 140737488351232) (w : World) (hG : Gl w) :
    Calls Tryd.prog 6 #[.string a, .string b, .string c] w fun e w' => e = .returned (.bool true) ∧ Below w.heap.size w w' := by
  have H1 := Lib.hid (fun w hw => order_any a b ha hb w hw)
  have H2 := Lib.hid (fun w hw => order_any b c hb hc w hw)
  have H3 := Lib.hid (fun w hw => order_any a c ha hc w hw)
  have H4 := Lib.hid (fun w hw => order_any b a hb ha w hw)
  have H5 := Lib.hid (fun w hw => order_any a a ha ha w hw)
  rw [order_self] at H5
  rw [order_swap] at H4
  have t1 : orderS a.data.toList b.data.toList ≤ 0 → orderS b.data.toList c.data.toList ≤ 0 → orderS a.data.toList c.data.toList ≤ 0 := order_le _ _ _
  have t2 : 0 ≤ orderS a.data.toList b.data.toList → 0 ≤ orderS b.data.toList c.data.toList → 0 ≤ orderS a.data.toList c.data.toList := by
    intro h1 h2
    have := order_le c.data.toList b.data.toList a.data.toList (by rw [order_swap]; omega) (by rw [order_swap]; omega)
    rw [order_swap] at this
    omega
  have x3 := order_three a.data.toList b.data.toList
  have y3 := order_three b.data.toList c.data.toList
  have z3 := order_three a.data.toList c.data.toList
  generalize orderS a.data.toList b.data.toList = x at H1 H4 t1 t2 x3
  generalize orderS b.data.toList c.data.toList = y at H2 t1 t2 y3
  generalize orderS a.data.toList c.data.toList = z at H3 t1 t2 z3
  have fin : ∀ w : World, Gl w → Calls Tryd.prog 6 #[.string a, .string b, .string c] w fun e w' => e = .returned (.bool true) ∧ Below w.heap.size w w' := by
    rcases x3 with rfl | rfl | rfl <;> rcases y3 with rfl | rfl | rfl <;> rcases z3 with rfl | rfl | rfl
    all_goals first
      | (exfalso; have := t1 (by decide) (by decide); revert this; decide)
      | (exfalso; have := t2 (by decide) (by decide); revert this; decide)
      | (clear t1 t2
         intro w hG
         go_enter Tryd.func6, Tryd.ntmps6
         go_wp2_with fail
         refine (H1.out _ hG).mono ?_
         rintro e w1 ⟨rfl, hb1⟩
         have hG1 := hG.below hb1
         clear hG
         go_wp2_with fail
         refine (H2.out _ hG1).mono ?_
         rintro e w2 ⟨rfl, hb2⟩
         have hb12 := hb1.trans (hb2.mono hb1.size)
         have hG2 := hG1.below hb2
         clear hb1 hb2 hG1
         go_wp2_with fail
         refine (H3.out _ hG2).mono ?_
         rintro e w3 ⟨rfl, hb3⟩
         have hb13 := hb12.trans (hb3.mono hb12.size)
         have hG3 := hG2.below hb3
         clear hb12 hb3 hG2
         go_wp2_with fail
         refine (H4.out _ hG3).mono ?_
         rintro e w4 ⟨rfl, hb4⟩
         have hb14 := hb13.trans (hb4.mono hb13.size)
         have hG4 := hG3.below hb4
         clear hb13 hb4 hG3
         go_wp2_with fail
         refine (H5.out _ hG4).mono ?_
         rintro e w5 ⟨rfl, hb5⟩
         have hb15 := hb14.trans (hb5.mono hb14.size)
         have hG5 := hG4.below hb5
         clear hb14 hb5 hG4
         go_wp2_with fail
         refine (alive_any _ hG5).mono ?_
         rintro e w6 ⟨rfl, hb6⟩
         have hb16 := hb15.trans (hb6.mono hb15.size)
         clear hb15 hb6 hG5
         go_wp2
         go_ret
         exact ⟨rfl, hb16⟩)
  exact fin w hG
end Go.Proofs.YtcflggahmjenfaaDoor
