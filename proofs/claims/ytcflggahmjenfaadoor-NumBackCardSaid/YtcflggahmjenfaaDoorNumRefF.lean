/- The reference's sign, Compare and Order; and the call that each statement of layer 9 makes besides: alive. -/
import Derived.Test.YtcflggahmjenfaaDoorNumFmt
namespace Go.Proofs.YtcflggahmjenfaaDoor
open Go.RowKit

theorem sign_any (a b : Int) (w : World) :
    Calls Tryd.prog 30 #[.int .i64 a, .int .i64 b] w fun e w' => e = .returned (.int .i64 (Lib.compareInt a b)) ∧ w = w' := by
  by_cases h1 : a < b
  · have H : Hid (Lib.compareInt a b = -1) := Lib.hid (by unfold Lib.compareInt; rw [if_pos h1])
    go_enter Tryd.func30, Tryd.ntmps30
    go_wp2
    go_ret
    exact ⟨by rw [H.out]; rfl, rfl⟩
  · by_cases h2 : b < a
    · have H : Hid (Lib.compareInt a b = 1) := Lib.hid (by unfold Lib.compareInt; rw [if_neg h1, if_pos h2])
      go_enter Tryd.func30, Tryd.ntmps30
      go_wp2
      go_ret
      exact ⟨by rw [H.out]; rfl, rfl⟩
    · have H : Hid (Lib.compareInt a b = 0) := Lib.hid (by unfold Lib.compareInt; rw [if_neg h1, if_neg (by omega)])
      go_enter Tryd.func30, Tryd.ntmps30
      go_wp2
      go_ret
      exact ⟨by rw [H.out]; rfl, rfl⟩

set_option maxRecDepth 100000 in
theorem refCompare_any (a b : ByteArray) (ha : a.size ≤ 140737488351232) (hb : b.size ≤ 140737488351232) (w : World) :
    Calls Tryd.prog 16 #[.string a, .string b] w fun e w' => e = .returned (.tuple #[.int .i64 (cmpS a.data.toList b.data.toList).1, .int .i64 (cmpS a.data.toList b.data.toList).2]) ∧ w = w' := by
  have HA := Lib.hid (fun w => refParse_any a ha w)
  have HB := Lib.hid (fun w => refParse_any b hb w)
  have HC : Hid (cmpS a.data.toList b.data.toList = if isS a.data.toList then (if isS b.data.toList then (Lib.compareInt (parseS a.data.toList).1 (parseS b.data.toList).1, 0) else (0, (parseS b.data.toList).2)) else (0, (parseS a.data.toList).2)) := Lib.hid rfl
  have ta := isS_true a.data.toList
  have fa := isS_false a.data.toList
  have tb := isS_true b.data.toList
  have fb := isS_false b.data.toList
  generalize cmpS a.data.toList b.data.toList = r at HC ⊢
  generalize isS a.data.toList = ia at HC ta fa
  generalize isS b.data.toList = ib at HC tb fb
  generalize parseS a.data.toList = x at HA HC ta fa
  generalize parseS b.data.toList = y at HB HC tb fb
  obtain ⟨x, e⟩ := x
  obtain ⟨y, f⟩ := y
  cases ia
  · have hr := HC.out
    rw [if_neg (by simp)] at hr
    subst hr
    have he : (e == 0) = false := beq_eq_false_iff_ne.2 (fa rfl)
    clear HC ta fa tb fb HB
    go_enter Tryd.func16, Tryd.ntmps16
    go_wp2_with fail
    refine (HA.out _).mono ?_
    rintro e w1 ⟨rfl, rfl⟩
    go_wp2
    go_ret2
    exact ⟨rfl, rfl⟩
  · obtain rfl : e = 0 := ta rfl
    have hr := HC.out
    rw [if_pos rfl] at hr
    have HR := Lib.hid hr
    clear HC ta fa hr
    go_enter Tryd.func16, Tryd.ntmps16
    go_wp2_with fail
    refine (HA.out _).mono ?_
    rintro e w1 ⟨rfl, rfl⟩
    go_wp2_with fail
    refine (HB.out _).mono ?_
    rintro e w2 ⟨rfl, rfl⟩
    cases ib
    · have hr := HR.out
      rw [if_neg (by simp)] at hr
      subst hr
      have he : (f == 0) = false := beq_eq_false_iff_ne.2 (fb rfl)
      clear HR tb fb
      go_wp2
      go_ret2
      exact ⟨rfl, rfl⟩
    · obtain rfl : f = 0 := tb rfl
      have hr := HR.out
      rw [if_pos rfl] at hr
      subst hr
      clear HR tb fb
      go_wp2_with (go_at_call 30; refine (sign_any _ _ _).mono ?_; rintro e w' ⟨rfl, rfl⟩)
      go_ret2
      exact ⟨rfl, rfl⟩

theorem less_eq : ∀ (a b : List UInt8), Op.bytesLess a b = decide (Lib.compareBytes a b = -1)
  | [], [] => rfl
  | [], _ :: _ => rfl
  | _ :: _, [] => rfl
  | a :: x, b :: y => by
    simp only [Op.bytesLess, Lib.compareBytes]
    by_cases h1 : a < b
    · simp [h1]
    · by_cases h2 : b < a
      · have : (a == b) = false := by rw [beq_eq_false_iff_ne]; intro e; rw [e] at h2; exact absurd h2 (by simp)
        simp [h1, h2, this]
      · have : a = b := UInt8.le_antisymm (UInt8.not_lt.1 h2) (UInt8.not_lt.1 h1)
        simp [this, less_eq x y]
theorem same_eq : ∀ (a b : List UInt8), (a == b) = decide (Lib.compareBytes a b = 0)
  | [], [] => rfl
  | [], _ :: _ => rfl
  | _ :: _, [] => rfl
  | a :: x, b :: y => by
    simp only [Lib.compareBytes, List.cons_beq_cons]
    by_cases h1 : a < b
    · have : (a == b) = false := by rw [beq_eq_false_iff_ne]; intro e; rw [e] at h1; exact absurd h1 (by simp)
      simp [h1, this]
    · by_cases h2 : b < a
      · have : (a == b) = false := by rw [beq_eq_false_iff_ne]; intro e; rw [e] at h2; exact absurd h2 (by simp)
        simp [h1, h2, this]
      · have : a = b := UInt8.le_antisymm (UInt8.not_lt.1 h2) (UInt8.not_lt.1 h1)
        simp [this, same_eq x y]
theorem compare_three : ∀ (a b : List UInt8), Lib.compareBytes a b = -1 ∨ Lib.compareBytes a b = 0 ∨ Lib.compareBytes a b = 1
  | [], [] => .inr (.inl rfl)
  | [], _ :: _ => .inl rfl
  | _ :: _, [] => .inr (.inr rfl)
  | a :: x, b :: y => by
    simp only [Lib.compareBytes]
    split
    · exact .inl rfl
    · split
      · exact .inr (.inr rfl)
      · exact compare_three x y

set_option maxRecDepth 100000 in
theorem refOrder_any (a b : ByteArray) (ha : a.size ≤ 140737488351232) (hb : b.size ≤ 140737488351232) (w : World) :
    Calls Tryd.prog 18 #[.string a, .string b] w fun e w' => e = .returned (.int .i64 (orderS a.data.toList b.data.toList)) ∧ w = w' := by
  have HA := Lib.hid (fun w => refParse_any a ha w)
  have HB := Lib.hid (fun w => refParse_any b hb w)
  have HO : Hid (orderS a.data.toList b.data.toList = if isS a.data.toList then (if isS b.data.toList then Lib.compareInt (parseS a.data.toList).1 (parseS b.data.toList).1 else -1) else (if isS b.data.toList then 1 else Lib.compareBytes a.data.toList b.data.toList)) := Lib.hid rfl
  have hless : Op.bytesLess a.toList b.toList = decide (Lib.compareBytes a.data.toList b.data.toList = -1) := by rw [ByteArray.toList_eq, ByteArray.toList_eq, less_eq]
  have hsame : (a.toList == b.toList) = decide (Lib.compareBytes a.data.toList b.data.toList = 0) := by rw [ByteArray.toList_eq, ByteArray.toList_eq, same_eq]
  have h3 := compare_three a.data.toList b.data.toList
  have ta := isS_true a.data.toList
  have fa := isS_false a.data.toList
  have tb := isS_true b.data.toList
  have fb := isS_false b.data.toList
  generalize orderS a.data.toList b.data.toList = r at HO ⊢
  generalize isS a.data.toList = ia at HO ta fa
  generalize isS b.data.toList = ib at HO tb fb
  generalize parseS a.data.toList = x at HA HO ta fa
  generalize parseS b.data.toList = y at HB HO tb fb
  generalize Lib.compareBytes a.data.toList b.data.toList = c at HO hless hsame h3
  obtain ⟨x, e⟩ := x
  obtain ⟨y, f⟩ := y
  have hr := HO.out
  clear HO
  cases ia
  · have he : (e == 0) = false := beq_eq_false_iff_ne.2 (fa rfl)
    rw [if_neg (by simp)] at hr
    clear ta fa
    cases ib
    · have hf : (f == 0) = false := beq_eq_false_iff_ne.2 (fb rfl)
      rw [if_neg (by simp)] at hr
      subst hr
      clear tb fb
      rcases h3 with rfl | rfl | rfl
      · replace hless : Op.bytesLess a.toList b.toList = true := hless
        replace hsame : (a.toList == b.toList) = false := hsame
        go_enter Tryd.func18, Tryd.ntmps18
        go_wp2_with fail
        refine (HA.out _).mono ?_
        rintro e w1 ⟨rfl, rfl⟩
        go_wp2_with fail
        refine (HB.out _).mono ?_
        rintro e w2 ⟨rfl, rfl⟩
        go_wp2
        go_ret
        exact ⟨rfl, rfl⟩
      · replace hless : Op.bytesLess a.toList b.toList = false := hless
        replace hsame : (a.toList == b.toList) = true := hsame
        go_enter Tryd.func18, Tryd.ntmps18
        go_wp2_with fail
        refine (HA.out _).mono ?_
        rintro e w1 ⟨rfl, rfl⟩
        go_wp2_with fail
        refine (HB.out _).mono ?_
        rintro e w2 ⟨rfl, rfl⟩
        go_wp2
        go_ret
        exact ⟨rfl, rfl⟩
      · replace hless : Op.bytesLess a.toList b.toList = false := hless
        replace hsame : (a.toList == b.toList) = false := hsame
        go_enter Tryd.func18, Tryd.ntmps18
        go_wp2_with fail
        refine (HA.out _).mono ?_
        rintro e w1 ⟨rfl, rfl⟩
        go_wp2_with fail
        refine (HB.out _).mono ?_
        rintro e w2 ⟨rfl, rfl⟩
        go_wp2
        go_ret
        exact ⟨rfl, rfl⟩
    · obtain rfl : f = 0 := tb rfl
      rw [if_pos rfl] at hr
      subst hr
      clear tb fb hless hsame
      go_enter Tryd.func18, Tryd.ntmps18
      go_wp2_with fail
      refine (HA.out _).mono ?_
      rintro e w1 ⟨rfl, rfl⟩
      go_wp2_with fail
      refine (HB.out _).mono ?_
      rintro e w2 ⟨rfl, rfl⟩
      go_wp2
      go_ret
      exact ⟨rfl, rfl⟩
  · obtain rfl : e = 0 := ta rfl
    rw [if_pos rfl] at hr
    clear ta fa
    cases ib
    · have hf : (f == 0) = false := beq_eq_false_iff_ne.2 (fb rfl)
      rw [if_neg (by simp)] at hr
      subst hr
      clear tb fb hless hsame
      go_enter Tryd.func18, Tryd.ntmps18
      go_wp2_with fail
      refine (HA.out _).mono ?_
      rintro e w1 ⟨rfl, rfl⟩
      go_wp2_with fail
      refine (HB.out _).mono ?_
      rintro e w2 ⟨rfl, rfl⟩
      go_wp2
      go_ret
      exact ⟨rfl, rfl⟩
    · obtain rfl : f = 0 := tb rfl
      rw [if_pos rfl] at hr
      subst hr
      clear tb fb hless hsame
      go_enter Tryd.func18, Tryd.ntmps18
      go_wp2_with fail
      refine (HA.out _).mono ?_
      rintro e w1 ⟨rfl, rfl⟩
      go_wp2_with fail
      refine (HB.out _).mono ?_
      rintro e w2 ⟨rfl, rfl⟩
      go_wp2_with (go_at_call 30; refine (sign_any _ _ _).mono ?_; rintro e w' ⟨rfl, rfl⟩)
      go_ret
      exact ⟨rfl, rfl⟩

theorem alive1 : parseS (⟨#[45, 48, 120, 49, 70]⟩ : ByteArray).data.toList = (-31, 0) := by decide +kernel
theorem alive2 : orderS (⟨#[49, 48]⟩ : ByteArray).data.toList (⟨#[57]⟩ : ByteArray).data.toList = 1 := by decide +kernel
theorem alive3 : orderS (⟨#[120, 49, 48]⟩ : ByteArray).data.toList (⟨#[120, 57]⟩ : ByteArray).data.toList = -1 := by decide +kernel
theorem alive4 : Lib.itoa (-5) = [45, 53] := by
  unfold Lib.itoa
  rw [if_pos (by omega), show (-5 : Int).natAbs = 5 from rfl, Lib.decDigits_one (by omega)]
  rfl

set_option maxHeartbeats 1000000 in
set_option maxRecDepth 100000 in
theorem alive_any (w : World) (hG : Gl w) :
    Calls Tryd.prog 14 #[] w fun e w' => e = .returned (.bool true) ∧ Below w.heap.size w w' := by
  have H1 := Lib.hid (fun w hw => parse_any ⟨#[45, 48, 120, 49, 70]⟩ (by decide) w hw)
  rw [alive1] at H1
  have H2 := Lib.hid (fun w hw => order_any ⟨#[49, 48]⟩ ⟨#[57]⟩ (by decide) (by decide) w hw)
  rw [alive2] at H2
  have H3 := Lib.hid (fun w hw => order_any ⟨#[120, 49, 48]⟩ ⟨#[120, 57]⟩ (by decide) (by decide) w hw)
  rw [alive3] at H3
  have H4 := Lib.hid (fun w hw => format_any (-5) (by omega) (by omega) w hw)
  rw [alive4] at H4
  go_enter Tryd.func14, Tryd.ntmps14
  go_wp2_with fail
  refine (H1.out _ hG).mono ?_
  rintro e w1 ⟨rfl, hb1⟩
  have hG1 := hG.below hb1
  go_wp2_with fail
  refine (H2.out _ hG1).mono ?_
  rintro e w2 ⟨rfl, hb2⟩
  have hb12 := hb1.trans (hb2.mono hb1.size)
  have hG2 := hG1.below hb2
  clear hb1 hb2 hG hG1
  go_wp2_with fail
  refine (H3.out _ hG2).mono ?_
  rintro e w3 ⟨rfl, hb3⟩
  have hb13 := hb12.trans (hb3.mono hb12.size)
  have hG3 := hG2.below hb3
  clear hb12 hb3 hG2
  go_wp2_with fail
  refine (H4.out _ hG3).mono ?_
  rintro e w4 ⟨rfl, hb4⟩
  have hb14 := hb13.trans (hb4.mono hb13.size)
  go_wp2
  go_ret
  exact ⟨rfl, hb14⟩
end Go.Proofs.YtcflggahmjenfaaDoor
