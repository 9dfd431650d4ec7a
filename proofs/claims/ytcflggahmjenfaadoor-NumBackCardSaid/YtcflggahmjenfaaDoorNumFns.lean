/- num.Is, Compare, Order, Format and the reference's Compare, sign, Order: their contracts. -/
import Derived.Test.YtcflggahmjenfaaDoorNumRefP
import Derived.WalkLawsBesides
namespace Go.Proofs.YtcflggahmjenfaaDoor
open Go.RowKit

def isS (l : List UInt8) : Bool := (parseS l).2 == 0
def cmpS (a b : List UInt8) : Int × Int := if isS a then (if isS b then (Lib.compareInt (parseS a).1 (parseS b).1, 0) else (0, (parseS b).2)) else (0, (parseS a).2)
def orderS (a b : List UInt8) : Int := if isS a then (if isS b then Lib.compareInt (parseS a).1 (parseS b).1 else -1) else (if isS b then 1 else Lib.compareBytes a b)

theorem isS_true (l : List UInt8) (h : isS l = true) : (parseS l).2 = 0 := by simpa [isS] using h
theorem isS_false (l : List UInt8) (h : isS l = false) : (parseS l).2 ≠ 0 := by simpa [isS] using h

set_option maxRecDepth 100000 in
theorem is_any (s : ByteArray) (hs : s.size ≤ 140737488351232) (w : World) (hG : Gl w) :
    Calls Tryd.prog 11 #[.string s] w fun e w' => e = .returned (.bool (isS s.data.toList)) ∧ Below w.heap.size w w' := by
  go_enter Tryd.func11, Tryd.ntmps11
  go_wp2_with fail
  refine (parse_any s hs _ hG).mono ?_
  rintro e w' ⟨rfl, hb⟩
  go_wp2
  go_ret
  exact ⟨rfl, hb⟩

set_option maxRecDepth 100000 in
theorem compare_any (a b : ByteArray) (ha : a.size ≤ 140737488351232) (hb : b.size ≤ 140737488351232) (w : World) (hG : Gl w) :
    Calls Tryd.prog 15 #[.string a, .string b] w fun e w' => e = .returned (.tuple #[.int .i64 (cmpS a.data.toList b.data.toList).1, .int .i64 (cmpS a.data.toList b.data.toList).2]) ∧ Below w.heap.size w w' := by
  have HA := Lib.hid (fun w hw => parse_any a ha w hw)
  have HB := Lib.hid (fun w hw => parse_any b hb w hw)
  have HC : Hid (cmpS a.data.toList b.data.toList = if isS a.data.toList then (if isS b.data.toList then (Lib.compareInt (parseS a.data.toList).1 (parseS b.data.toList).1, 0) else (0, (parseS b.data.toList).2)) else (0, (parseS a.data.toList).2)) := Lib.hid rfl
  have ta := isS_true a.data.toList
  have fa := isS_false a.data.toList
  have tb := isS_true b.data.toList
  have fb := isS_false b.data.toList
  generalize cmpS a.data.toList b.data.toList = r at HC ⊢
  generalize isS a.data.toList = ia at HC ta fa
  generalize isS b.data.toList = ib at HC tb fb
  generalize parseS a.data.toList = x at HA HC ta fa
  generalize parseS b.data.toList = y at HB HC tb fb
  obtain ⟨x, e⟩ := x
  obtain ⟨y, f⟩ := y
  cases ia
  · have hr := HC.out
    rw [if_neg (by simp)] at hr
    subst hr
    have he : (e == 0) = false := beq_eq_false_iff_ne.2 (fa rfl)
    clear HC ta fa tb fb HB
    go_enter Tryd.func15, Tryd.ntmps15
    go_wp2_with fail
    refine (HA.out _ hG).mono ?_
    rintro e w1 ⟨rfl, hb1⟩
    go_wp2
    go_ret2
    exact ⟨rfl, hb1⟩
  · obtain rfl : e = 0 := ta rfl
    have hr := HC.out
    rw [if_pos rfl] at hr
    have HR := Lib.hid hr
    clear HC ta fa hr
    go_enter Tryd.func15, Tryd.ntmps15
    go_wp2_with fail
    refine (HA.out _ hG).mono ?_
    rintro e w1 ⟨rfl, hb1⟩
    have hG1 := hG.below hb1
    go_wp2_with fail
    refine (HB.out _ hG1).mono ?_
    rintro e w2 ⟨rfl, hb2⟩
    have hb3 := hb1.trans (hb2.mono hb1.size)
    cases ib
    · have hr := HR.out
      rw [if_neg (by simp)] at hr
      subst hr
      have he : (f == 0) = false := beq_eq_false_iff_ne.2 (fb rfl)
      clear HR tb fb
      go_wp2
      go_ret2
      exact ⟨rfl, hb3⟩
    · obtain rfl : f = 0 := tb rfl
      have hr := HR.out
      rw [if_pos rfl] at hr
      subst hr
      clear HR tb fb
      go_wp2_with (go_at_call 29; refine (Tryd.cmp_Compare_int _ _ _).mono ?_; rintro e w' ⟨rfl, rfl⟩)
      go_ret2
      exact ⟨rfl, hb3⟩

set_option maxRecDepth 100000 in
theorem order_any (a b : ByteArray) (ha : a.size ≤ 140737488351232) (hb : b.size ≤ 140737488351232) (w : World) (hG : Gl w) :
    Calls Tryd.prog 17 #[.string a, .string b] w fun e w' => e = .returned (.int .i64 (orderS a.data.toList b.data.toList)) ∧ Below w.heap.size w w' := by
  have HA := Lib.hid (fun w hw => is_any a ha w hw)
  have HB := Lib.hid (fun w hw => is_any b hb w hw)
  have HC := Lib.hid (fun w hw => compare_any a b ha hb w hw)
  have HO : Hid (orderS a.data.toList b.data.toList = if isS a.data.toList then (if isS b.data.toList then Lib.compareInt (parseS a.data.toList).1 (parseS b.data.toList).1 else -1) else (if isS b.data.toList then 1 else Lib.compareBytes a.data.toList b.data.toList)) := Lib.hid rfl
  have HCC : Hid (isS a.data.toList = true → isS b.data.toList = true → cmpS a.data.toList b.data.toList = (Lib.compareInt (parseS a.data.toList).1 (parseS b.data.toList).1, 0)) := Lib.hid (fun h1 h2 => by rw [cmpS, if_pos h1, if_pos h2])
  generalize orderS a.data.toList b.data.toList = r at HO ⊢
  generalize cmpS a.data.toList b.data.toList = q at HC HCC
  obtain ⟨q, q2⟩ := q
  generalize isS a.data.toList = ia at HA HO HCC
  generalize isS b.data.toList = ib at HB HO HCC
  go_enter Tryd.func17, Tryd.ntmps17
  go_wp2_with fail
  refine (HA.out _ hG).mono ?_
  rintro e w1 ⟨rfl, hb1⟩
  have hG1 := hG.below hb1
  go_wp2_with fail
  refine (HB.out _ hG1).mono ?_
  rintro e w2 ⟨rfl, hb2⟩
  have hb3 := hb1.trans (hb2.mono hb1.size)
  have hG2 := hG1.below hb2
  clear hb1 hb2 hG hG1
  cases ia
  · cases ib
    · have hr := HO.out
      rw [if_neg (by simp), if_neg (by simp)] at hr
      subst hr
      go_wp2_with (go_at_call 31; refine (Tryd.strings_Compare _ _ _).mono ?_; rintro e w' ⟨rfl, rfl⟩)
      go_ret
      exact ⟨rfl, hb3⟩
    · have hr := HO.out
      rw [if_neg (by simp), if_pos rfl] at hr
      subst hr
      go_wp2
      go_ret
      exact ⟨rfl, hb3⟩
  · cases ib
    · have hr := HO.out
      rw [if_pos rfl, if_neg (by simp)] at hr
      subst hr
      go_wp2
      go_ret
      exact ⟨rfl, hb3⟩
    · have hr := HO.out
      rw [if_pos rfl, if_pos rfl] at hr
      have hq := HCC.out rfl rfl
      rw [Prod.mk.injEq] at hq
      obtain ⟨hq1, rfl⟩ := hq
      have hrq : r = q := hr.trans hq1.symm
      subst hrq
      clear hr hq1 HO HCC
      go_wp2_with fail
      refine (HC.out _ hG2).mono ?_
      rintro e w4 ⟨rfl, hb4⟩
      have hb5 := hb3.trans (hb4.mono hb3.size)
      go_wp2
      go_ret
      exact ⟨rfl, hb5⟩
end Go.Proofs.YtcflggahmjenfaaDoor
