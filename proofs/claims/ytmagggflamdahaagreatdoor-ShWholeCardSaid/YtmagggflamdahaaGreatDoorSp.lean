/- bobstayref04.Blank, bare. bobstayref04.Quote. Words that are told in quotes are read as they are. What ShSaid's line comes to. What ShSaid's run comes to. -/
import Derived.Test.YtmagggflamdahaaGreatDoorSb
import Derived.Test.YtmagggflamdahaaGreatDoorSm
import Derived.Laws.BytesArg
import Derived.Laws.IdiomStrings
import Derived.Test.YtmagggflamdahaaGreatDoorSl
namespace Go.Proofs.YtmagggflamdahaaGreatDoor
open Go.RowKit

set_option maxHeartbeats 1000000 in
set_option maxRecDepth 100000 in
theorem refBlank_any (c : UInt8) (w : World) : Calls Tryz.prog 47 #[.int .u8 (c.toNat : Int)] w fun e w' => e = .returned (.bool (c == 32 || c == 9)) ∧ w = w' := by
  have b1 : ((c.toNat : Int) == 32) = (c == 32) := by
    rw [Bool.eq_iff_iff, beq_iff_eq, beq_iff_eq]
    exact ⟨fun h => UInt8.toNat_inj.1 (Int.ofNat_inj.1 h), fun h => by rw [h]; rfl⟩
  have b2 : ((c.toNat : Int) == 9) = (c == 9) := by
    rw [Bool.eq_iff_iff, beq_iff_eq, beq_iff_eq]
    exact ⟨fun h => UInt8.toNat_inj.1 (Int.ofNat_inj.1 h), fun h => by rw [h]; rfl⟩
  cases h1 : (c == 32) with
  | true =>
    rw [h1] at b1
    clear b2
    go_enter Tryz.func47, Tryz.ntmps47
    go_wp2
    go_ret
    exact ⟨rfl, rfl⟩
  | false =>
    rw [h1] at b1
    cases h2 : (c == 9) with
    | true =>
      rw [h2] at b2
      go_enter Tryz.func47, Tryz.ntmps47
      go_wp2
      go_ret
      exact ⟨rfl, rfl⟩
    | false =>
      rw [h2] at b2
      go_enter Tryz.func47, Tryz.ntmps47
      go_wp2
      go_ret
      exact ⟨rfl, rfl⟩

/-- may a byte stand without quotes -/
def letB (n : Nat) : Bool := (decide (97 ≤ n) && decide (n ≤ 122)) || (decide (65 ≤ n) && decide (n ≤ 90)) || (decide (48 ≤ n) && decide (n ≤ 57))
def okBs : List UInt8 := [95, 46, 47, 43, 45, 44, 58, 61, 64, 37]
def bareB (c : UInt8) : Bool := letB c.toNat || okBs.contains c

set_option maxHeartbeats 2000000 in
set_option maxRecDepth 100000 in
theorem refBare_any (c : UInt8) (w : World) : Calls Tryz.prog 27 #[.int .u8 (c.toNat : Int)] w fun e w' => e = .returned (.bool (bareB c)) ∧ w = w' := by
  have hn : c.toNat < 256 := c.toNat_lt
  have hB : Hid (bareB c = (letB c.toNat || okBs.contains c)) := Lib.hid rfl
  have hne : Hid (∀ i : Nat, i < 10 → ((((⟨#[95, 46, 47, 43, 45, 44, 58, 61, 64, 37]⟩ : ByteArray).data.toList.getD i 0).toNat : Int) == (c.toNat : Int)) = (okBs.getD i 0 == c)) := Lib.hid (fun i hi => by
    rw [Bool.eq_iff_iff, beq_iff_eq, beq_iff_eq]
    exact ⟨fun h => UInt8.toNat_inj.1 (Int.ofNat_inj.1 h), fun h => by rw [← h]; rfl⟩)
  cases hl : letB c.toNat with
  | true =>
    have hR : Hid (bareB c = true) := Lib.hid (by rw [hB.out, hl]; rfl)
    unfold letB at hl
    simp only [Bool.or_eq_true, Bool.and_eq_true, decide_eq_true_eq] at hl
    generalize c.toNat = n at hl hn hne
    go_enter Tryz.func27, Tryz.ntmps27
    go_wp2
    all_goals (
      go_ret
      exact ⟨by rw [hR.out]; rfl, rfl⟩)
  | false =>
    have hR : Hid (bareB c = okBs.contains c) := Lib.hid (by rw [hB.out, hl]; rfl)
    unfold letB at hl
    simp only [Bool.or_eq_false_iff, Bool.and_eq_false_iff, decide_eq_false_iff_not] at hl
    have hbyte : Hid (∀ (i : Nat) (h : i < (⟨#[95, 46, 47, 43, 45, 44, 58, 61, 64, 37]⟩ : ByteArray).size), (((((⟨#[95, 46, 47, 43, 45, 44, 58, 61, 64, 37]⟩ : ByteArray)[i]'h).toNat : Int)) == (c.toNat : Int)) = (okBs.getD i 0 == c)) := Lib.hid (fun i h => by
      rw [byte_at]
      exact hne.out i h)
    generalize hcn : c.toNat = n at hl hn hbyte
    clear hne hB
    go_enter Tryz.func27, Tryz.ntmps27
    go_wp2
    all_goals (
      go_loop [4] (fun v4 => ∃ i : Nat, v4 = .int .i64 i ∧ i ≤ 10 ∧ Hid (∀ j, j < i → (okBs.getD j 0 == c) = false)) (fun v4 => 10 - (intOf v4).toNat)
      case atStart => exact ⟨0, rfl, by omega, Lib.hid (fun j h => absurd h (by omega))⟩
      case round =>
        obtain ⟨i, rfl, hi, HA⟩ := hrel
        by_cases hlt : i < 10
        · have hsz : i < (⟨#[95, 46, 47, 43, 45, 44, 58, 61, 64, 37]⟩ : ByteArray).size := hlt
          have hci := hbyte.out i hsz
          cases hq : (okBs.getD i 0 == c) with
          | true =>
            rw [hq] at hci
            have hF : Hid (bareB c = true) := Lib.hid (by
              rw [hR.out, List.contains_iff_mem]
              have : okBs.getD i 0 = c := by simpa using hq
              rw [← this, List.getD_eq_getElem?_getD, List.getElem?_eq_getElem (show i < okBs.length from hlt)]
              exact List.getElem_mem _)
            clear hq
            go_wp2
            go_ret
            exact ⟨by rw [hF.out]; rfl, rfl⟩
          | false =>
            rw [hq] at hci
            have HA2 : Hid (∀ j, j < i + 1 → (okBs.getD j 0 == c) = false) := Lib.hid (fun j hj => by
              rcases Nat.lt_or_ge j i with h | h
              · exact HA.out j h
              · have : j = i := by omega
                rw [this]; exact hq)
            clear hq
            go_wp2
            go_round
            case rel => exact ⟨i + 1, by go_num, by omega, HA2⟩
            case measure => simp [intOf]; omega
        · have hF : Hid (bareB c = false) := Lib.hid (by
            rw [hR.out]
            cases hcc : okBs.contains c with
            | false => rfl
            | true =>
              exfalso
              rw [List.contains_iff_mem] at hcc
              obtain ⟨j, hj, he⟩ := List.getElem_of_mem hcc
              have h1 := HA.out j (by have : okBs.length = 10 := rfl; omega)
              rw [List.getD_eq_getElem?_getD, List.getElem?_eq_getElem hj, he] at h1
              simp at h1)
          go_wp2
          go_ret
          exact ⟨by rw [hF.out]; rfl, rfl⟩)
end Go.Proofs.YtmagggflamdahaaGreatDoor

namespace Go.Proofs.YtmagggflamdahaaGreatDoor
open Go.RowKit

/-- bytes of the caller's own, as a text -/
theorem conv_own {w : World} {B : Nat} {v : Value} {l : List UInt8} (h : w.ownsRow B 5 1 v l.length (Lib.byteCells l)) :
    (convert 43 9 v).run Tryz.prog w = .ok (.string ⟨l.toArray⟩) w := by
  by_cases h0 : l.length = 0
  · have hl : l = [] := List.eq_nil_of_length_eq_zero h0
    subst hl
    rcases h.2 with ⟨rfl, _⟩ | ⟨g, cap, cur, rfl, _⟩
    · exact run_convert_bytes_nil w 43 5 Tryz.underlying43 Tryz.underlying5 0 0 9 Tryz.underlying9
    · exact run_convert_bytes_back w 43 9 5 ⟨g, 0, none⟩ cap [] Tryz.underlying43 Tryz.underlying5 Tryz.underlying9 (fun j hj => by simp at hj)
  · obtain ⟨g, cap, rfl, hg, hgl, hcap⟩ := ownsRow_ne0 h h0
    refine run_convert_bytes_back w 43 9 5 ⟨g, 0, none⟩ cap l Tryz.underlying43 Tryz.underlying5 Tryz.underlying9 (fun j hj => ?_)
    have ha : (⟨g, 0, none⟩ : Addr).add j = ⟨g, j, none⟩ := by unfold Addr.add; split <;> simp_all
    rw [ha, h.cellAt j (by omega)]
    simp [Lib.byteCells, hj]
theorem byteCells_append (a b : List UInt8) : Lib.byteCells (a ++ b) = Lib.byteCells a ++ Lib.byteCells b := by simp [Lib.byteCells]
theorem drop_at (s : ByteArray) (i : Nat) (h : i < s.size) : s.data.toList.drop i = s[i]'h :: s.data.toList.drop (i + 1) := by
  rw [List.drop_eq_getElem_cons (by simpa using h)]
  rfl

/-- a text's bytes as they stand between quotes, and a text in quotes, if it wants them -/
def quoteB (l : List UInt8) : List UInt8 := l.flatMap (fun c => if c == 39 then [39, 92, 39, 39] else [c])
def quoteS (l : List UInt8) : List UInt8 := if !l.isEmpty && l.all bareB then l else 39 :: quoteB l ++ [39]
theorem quoteB_len (l : List UInt8) : (quoteB l).length ≤ 4 * l.length := by
  induction l with
  | nil => simp [quoteB]
  | cons c r ih =>
    unfold quoteB at ih ⊢
    rw [List.flatMap_cons, List.length_append]
    have : (if c == 39 then [39, 92, 39, 39] else [c] : List UInt8).length ≤ 4 := by split <;> simp
    simp only [List.length_cons]
    omega

set_option maxHeartbeats 8000000 in
set_option maxRecDepth 100000 in
theorem refQuote_any (s : ByteArray) (hs : s.size ≤ 1073741824) (w : World) : Calls Tryz.prog 10 #[.string s] w fun e w' => e = .returned (.string ⟨(quoteS s.data.toList).toArray⟩) ∧ Below w.heap.size w w' := by
  obtain ⟨i0, hi0, hz0, hz1, hz2⟩ := info_parts byteInfo
  have hsl : s.data.toList.length = s.size := by simp
  have HB0 := Lib.hid (fun (c : UInt8) (w : World) => refBare_any c w)
  have HQ : Hid (quoteS s.data.toList = if !s.data.toList.isEmpty && s.data.toList.all bareB then s.data.toList else 39 :: quoteB s.data.toList ++ [39]) := Lib.hid rfl
  have HQl := Lib.hid (quoteB_len s.data.toList)
  go_enter Tryz.func10, Tryz.ntmps10
  go_wp2
  go_loopw [3, 4, 5] (fun v3 v4 v5 wr => ∃ (i : Nat) (b : Bool) (O : List UInt8) (v : Value), v3 = .bool b ∧ v = v4 ∧ v5 = .int .i64 i ∧ i ≤ s.size ∧ Hid (quoteB s.data.toList = O ++ quoteB (s.data.toList.drop i)) ∧ Hid ((!s.data.toList.isEmpty && s.data.toList.all bareB) = (b && (s.data.toList.drop i).all bareB)) ∧
      Hid (wr.ownsRow w.heap.size 5 1 v O.length (Lib.byteCells O)) ∧ Hid (Below w.heap.size w wr)) (fun _ _ v5 _ => s.size + 1 - (intOf v5).toNat)
  case atStart =>
    refine ⟨0, _, [], _, rfl, rfl, rfl, by omega, Lib.hid rfl, Lib.hid ?_, Lib.hid ⟨rfl, .inl ⟨rfl, rfl⟩⟩, Lib.hid (Below.refl _ _)⟩
    rw [List.drop_zero]
    congr 1
    have : s.data.toList.isEmpty = decide (s.size = 0) := by
      rw [← hsl]
      cases s.data.toList <;> simp
    rw [this]
    by_cases h0 : s.size = 0
    · simp [h0]
    · simp [h0]; omega
  case round =>
    obtain ⟨i, b, O, v4, rfl, rfl, rfl, hi, HO, HA, HR, HB⟩ := hrel
    have hOl : O.length ≤ 4294967296 := by
      have h1 := congrArg List.length HO.out
      rw [List.length_append] at h1
      have h2 := HQl.out
      omega
    by_cases hlt : i < s.size
    · have hd := drop_at s i hlt
      obtain ⟨c, hc⟩ : ∃ c, c = s[i]'hlt := ⟨_, rfl⟩
      have h39 : (((s[i]'hlt).toNat : Int) == 39) = (c == 39) := by
        rw [byte_eq s i hlt 39 39 rfl, hc, byte_at]
      rw [← hc] at hd
      have HO2 : Hid (quoteB s.data.toList = (O ++ (if c == 39 then [39, 92, 39, 39] else [c])) ++ quoteB (s.data.toList.drop (i + 1))) := Lib.hid (by
        rw [HO.out, hd, List.append_assoc]
        rfl)
      have HA2 : Hid ((!s.data.toList.isEmpty && s.data.toList.all bareB) = ((b && bareB c) && (s.data.toList.drop (i + 1)).all bareB)) := Lib.hid (by
        rw [HA.out, hd, List.all_cons, Bool.and_assoc])
      have HBc : Hid (∀ w, Calls Tryz.prog 27 #[.int .u8 ((s[i]'hlt).toNat : Int)] w fun e w' => e = .returned (.bool (bareB c)) ∧ w = w') := Lib.hid (by rw [← hc]; exact HB0.out c)
      have HCN := Lib.hid hc
      clear hd hc
      cases hq : (c == 39) with
      | true =>
        rw [hq] at h39 HO2
        cases b with
        | true =>
          rw [Bool.true_and] at HA2
          go_wp2_with fail
          go_at_call 27
          refine (HBc.out _).mono ?_
          rintro e w1 ⟨rfl, rfl⟩
          go_wp2_with (at_builtin; refine wpList_append_own _ rfl _ _ 43 rfl w.heap.size 5 i0 (.int .u8 0) 1 1 Tryz.underlying43 hi0 hz0 hz1 hz2 rfl (by decide) _ _ _ rfl (HR.out.alloc _) ⟨wr.heap.size, 0, none⟩ 4 4 [.int .u8 39, .int .u8 92, .int .u8 39, .int .u8 39] rfl rfl ?d01 ?d02 ?d03 ?d04 ?d05 ?_)
          try case d01 =>
            intro j y hj
            match j, hj with
            | 0, hj => simp at hj; subst hj; simp [Addr.add]
            | 1, hj => simp at hj; subst hj; simp [Addr.add]
            | 2, hj => simp at hj; subst hj; simp [Addr.add]
            | 3, hj => simp at hj; subst hj; simp [Addr.add]
          try case d02 =>
            first
              | exact ⟨rfl, rfl, rfl⟩
              | (intro y hy
                 simp only [List.mem_cons, List.not_mem_nil, or_false] at hy
                 rcases hy with rfl | rfl | rfl | rfl <;> rfl)
          case d03 => unfold maxLen; omega
          case d04 => omega
          case d05 => have := HB.out.size; simp; omega
          intro v' w3 hown' hgrow _
          have HB3 := Lib.hid ((HB.out.alloc HB.out.size (.cells #[.int .u8 39, .int .u8 92, .int .u8 39, .int .u8 39] 5)).grown hgrow (by have := HB.out.size; simp; omega) (fun k hk => (HR.out.lt k hk).1))
          have HR3 : Hid (w3.ownsRow w.heap.size 5 1 v' (O ++ [39, 92, 39, 39]).length (Lib.byteCells (O ++ [39, 92, 39, 39]))) := Lib.hid (by
            rw [byteCells_append, List.length_append]
            exact hown')
          clear hown' hgrow
          go_wp2
          go_roundw
          case rel => exact ⟨i + 1, _, _, _, rfl, rfl, by go_num, by omega, HO2, HA2, HR3, HB3⟩
          case measure => simp [intOf]; omega
        | false =>
          rw [Bool.false_and] at HA2
          go_wp2_with (at_builtin; refine wpList_append_own _ rfl _ _ 43 rfl w.heap.size 5 i0 (.int .u8 0) 1 1 Tryz.underlying43 hi0 hz0 hz1 hz2 rfl (by decide) _ _ _ rfl (HR.out.alloc _) ⟨wr.heap.size, 0, none⟩ 4 4 [.int .u8 39, .int .u8 92, .int .u8 39, .int .u8 39] rfl rfl ?d11 ?d12 ?d13 ?d14 ?d15 ?_)
          try case d11 =>
            intro j y hj
            match j, hj with
            | 0, hj => simp at hj; subst hj; simp [Addr.add]
            | 1, hj => simp at hj; subst hj; simp [Addr.add]
            | 2, hj => simp at hj; subst hj; simp [Addr.add]
            | 3, hj => simp at hj; subst hj; simp [Addr.add]
          try case d12 =>
            first
              | exact ⟨rfl, rfl, rfl⟩
              | (intro y hy
                 simp only [List.mem_cons, List.not_mem_nil, or_false] at hy
                 rcases hy with rfl | rfl | rfl | rfl <;> rfl)
          case d13 => unfold maxLen; omega
          case d14 => omega
          case d15 => have := HB.out.size; simp; omega
          intro v' w3 hown' hgrow _
          have HB3 := Lib.hid ((HB.out.alloc HB.out.size (.cells #[.int .u8 39, .int .u8 92, .int .u8 39, .int .u8 39] 5)).grown hgrow (by have := HB.out.size; simp; omega) (fun k hk => (HR.out.lt k hk).1))
          have HR3 : Hid (w3.ownsRow w.heap.size 5 1 v' (O ++ [39, 92, 39, 39]).length (Lib.byteCells (O ++ [39, 92, 39, 39]))) := Lib.hid (by
            rw [byteCells_append, List.length_append]
            exact hown')
          clear hown' hgrow
          go_wp2
          go_roundw
          case rel => exact ⟨i + 1, _, _, _, rfl, rfl, by go_num, by omega, HO2, HA2, HR3, HB3⟩
          case measure => simp [intOf]; omega
      | false =>
        rw [hq] at h39 HO2
        cases b with
        | true =>
          rw [Bool.true_and] at HA2
          go_wp2_with fail
          go_at_call 27
          refine (HBc.out _).mono ?_
          rintro e w1 ⟨rfl, rfl⟩
          go_wp2_with (at_builtin; (refine wpList_append_own _ rfl _ _ 43 rfl w.heap.size 5 i0 (.int .u8 0) 1 1 Tryz.underlying43 hi0 hz0 hz1 hz2 rfl (by decide) _ _ _ rfl (HR.out.alloc _) ⟨wr.heap.size, 0, none⟩ 1 1 [.int .u8 ((s[i]'hlt).toNat : Int)] rfl rfl ?d21 ?d22 ?d23 ?d24 ?d25 ?_))
          try case d21 =>
            intro j y hj
            match j, hj with
            | 0, hj => simp at hj; subst hj; simp [Addr.add]
          try case d22 =>
            intro y hy
            simp only [List.mem_cons, List.not_mem_nil, or_false] at hy
            subst hy
            rfl
          case d23 => unfold maxLen; omega
          case d24 => omega
          case d25 => have := HB.out.size; simp; omega
          intro v' w3 hown' hgrow _
          have HB3 := Lib.hid ((HB.out.alloc HB.out.size (.cells #[.int .u8 ((s[i]'hlt).toNat : Int)] 5)).grown hgrow (by have := HB.out.size; simp; omega) (fun k hk => (HR.out.lt k hk).1))
          have HR3 : Hid (w3.ownsRow w.heap.size 5 1 v' (O ++ [c]).length (Lib.byteCells (O ++ [c]))) := Lib.hid (by
            rw [byteCells_append, List.length_append]
            simpa [Lib.byteCells, HCN.out] using hown')
          clear hown' hgrow
          go_wp2
          go_roundw
          case rel => exact ⟨i + 1, _, _, _, rfl, rfl, by go_num, by omega, HO2, HA2, HR3, HB3⟩
          case measure => simp [intOf]; omega
        | false =>
          rw [Bool.false_and] at HA2
          go_wp2_with (at_builtin; (refine wpList_append_own _ rfl _ _ 43 rfl w.heap.size 5 i0 (.int .u8 0) 1 1 Tryz.underlying43 hi0 hz0 hz1 hz2 rfl (by decide) _ _ _ rfl (HR.out.alloc _) ⟨wr.heap.size, 0, none⟩ 1 1 [.int .u8 ((s[i]'hlt).toNat : Int)] rfl rfl ?d31 ?d32 ?d33 ?d34 ?d35 ?_))
          try case d31 =>
            intro j y hj
            match j, hj with
            | 0, hj => simp at hj; subst hj; simp [Addr.add]
          try case d32 =>
            intro y hy
            simp only [List.mem_cons, List.not_mem_nil, or_false] at hy
            subst hy
            rfl
          case d33 => unfold maxLen; omega
          case d34 => omega
          case d35 => have := HB.out.size; simp; omega
          intro v' w3 hown' hgrow _
          have HB3 := Lib.hid ((HB.out.alloc HB.out.size (.cells #[.int .u8 ((s[i]'hlt).toNat : Int)] 5)).grown hgrow (by have := HB.out.size; simp; omega) (fun k hk => (HR.out.lt k hk).1))
          have HR3 : Hid (w3.ownsRow w.heap.size 5 1 v' (O ++ [c]).length (Lib.byteCells (O ++ [c]))) := Lib.hid (by
            rw [byteCells_append, List.length_append]
            simpa [Lib.byteCells, HCN.out] using hown')
          clear hown' hgrow
          go_wp2
          go_roundw
          case rel => exact ⟨i + 1, _, _, _, rfl, rfl, by go_num, by omega, HO2, HA2, HR3, HB3⟩
          case measure => simp [intOf]; omega
    · have hd : s.data.toList.drop i = [] := List.drop_of_length_le (by omega)
      have hO := HO.out
      have hA := HA.out
      rw [hd] at hO hA
      simp only [quoteB, List.flatMap_nil, List.append_nil, List.all_nil, Bool.and_true] at hO hA
      cases b with
      | true =>
        have HF : Hid (quoteS s.data.toList = s.data.toList) := Lib.hid (by rw [HQ.out, hA]; rfl)
        clear hO hA hd
        go_wp2
        go_ret
        exact ⟨by rw [HF.out]; rfl, HB.out⟩
      | false =>
        have HF : Hid (quoteS s.data.toList = 39 :: O ++ [39]) := Lib.hid (by rw [HQ.out, hA]; show 39 :: quoteB s.data.toList ++ [39] = _; unfold quoteB; rw [hO])
        have hcv := conv_own HR.out
        have hc1 : ((⟨#[39]⟩ : ByteArray) ++ ⟨O.toArray⟩) = ⟨(39 :: O).toArray⟩ := by apply bs_ext; simp
        have hc2 : ((⟨(39 :: O).toArray⟩ : ByteArray) ++ ⟨#[39]⟩) = ⟨(39 :: O ++ [39]).toArray⟩ := by apply bs_ext; simp
        have hz1 : ¬ 9223372036854775807 < 1 + O.length := by omega
        have hz2 : ¬ 9223372036854775807 < O.length + 1 + 1 := by omega
        clear hO hA hd
        go_wp2
        go_ret
        refine ⟨?_, HB.out⟩
        rw [HF.out]
        show Ending.returned (.string ⟨(39 :: (O ++ [39])).toArray⟩) = _
        simp
end Go.Proofs.YtmagggflamdahaaGreatDoor

namespace Go.Proofs.YtmagggflamdahaaGreatDoor
open Go.RowKit

/-- nothing, or a byte that ends a word -/
def Brk (r : List UInt8) : Prop := r = [] ∨ ∃ c r', r = c :: r' ∧ stopB c = true
theorem wordS_brk {r : List UInt8} (h : Brk r) : wordS r = some 0 := by
  rcases h with rfl | ⟨c, r', rfl, hc⟩
  · exact wordS_nil
  · exact wordS_stop c r' hc
/-- t is a word that means m -/
structure Wd (t m : List UInt8) : Prop where
  word : ∀ r, Brk r → wordS (t ++ r) = some t.length
  mean : meanS t = some m
  first : ∃ c r, t = c :: r ∧ stopB c = false

theorem toksS_word {t m r : List UInt8} (h : Wd t m) (hr : Brk r) : toksS (t ++ r) = (toksS r).map (t :: ·) := by
  obtain ⟨c, u, rfl, hc⟩ := h.first
  have hw := h.word r hr
  have hc2 := hc
  rw [stopB_or, Bool.or_eq_false_iff] at hc2
  have hd : (c :: u ++ r).dropWhile blankB = c :: (u ++ r) := by
    rw [List.cons_append, List.dropWhile_cons, hc2.1]
    simp
  have ht : tokS (c :: (u ++ r)) = wordS (c :: (u ++ r)) := by
    cases u ++ r with
    | nil => simp [tokS, hc2.2]
    | cons d x => simp [tokS, hc2.2]
  rw [toksS_cons _ c (u ++ r) hd, ht, ← List.cons_append, hw]
  simp only
  rw [List.drop_left, List.take_left]
theorem toksS_blank (r : List UInt8) : toksS (32 :: r) = toksS r := by
  cases hd : r.dropWhile blankB with
  | nil => rw [toksS_none r hd, toksS_none (32 :: r) (by rw [List.dropWhile_cons]; exact hd)]
  | cons c u => rw [toksS_cons r c u hd, toksS_cons (32 :: r) c u (by rw [List.dropWhile_cons]; exact hd)]
/-- a bare operator of one byte, with a blank behind it -/
theorem toksS_one (c : UInt8) (r : List UInt8) (h : opB c = true) (h2 : blankB c = false) (h3 : c ≠ 32) : toksS (c :: 32 :: r) = (toksS r).map ([c] :: ·) := by
  have hd : (c :: 32 :: r).dropWhile blankB = c :: 32 :: r := by
    rw [List.dropWhile_cons, h2]
    simp
  rw [toksS_cons _ c (32 :: r) hd]
  have : tokS (c :: 32 :: r) = some 1 := by
    have h4 : ((32 : UInt8) == c) = false := by simpa using fun e => h3 e.symm
    simp [tokS, h, h4]
  rw [this]
  show (toksS (32 :: r)).map _ = _
  rw [toksS_blank]
  rfl

/-- a byte that is plain -/
def plainB (c : UInt8) : Bool := !stopB c && c != 92 && c != 39 && c != 34
theorem bare_plain (c : UInt8) (h : bareB c = true) : plainB c = true := by
  have key : ∀ n : Nat, n < 256 → (bareB (UInt8.ofNat n) = true → plainB (UInt8.ofNat n) = true) := by decide +kernel
  have := key c.toNat c.toNat_lt
  rw [UInt8.ofNat_toNat] at this
  exact this h
theorem plain_not (c : UInt8) (h : plainB c = true) : stopB c = false ∧ c ≠ 92 ∧ c ≠ 39 ∧ c ≠ 34 := by
  unfold plainB at h
  simp only [Bool.and_eq_true, Bool.not_eq_true', bne_iff_ne] at h
  exact ⟨h.1.1.1, h.1.1.2, h.1.2, h.2⟩
theorem span_plain (c : UInt8) (r : List UInt8) (h : plainB c = true) : spanS (c :: r) = (1, [c], true) := by
  obtain ⟨_, h1, h2, h3⟩ := plain_not c h
  simp [spanS, h1, h2, h3]
theorem wordS_plain (p r : List UInt8) (h : ∀ c ∈ p, plainB c = true) : wordS (p ++ r) = (wordS r).map (· + p.length) := by
  induction p with
  | nil => simp
  | cons c p ih =>
    have hc := h c List.mem_cons_self
    have hs := span_plain c (p ++ r) hc
    rw [List.cons_append, wordS_step c (p ++ r) (plain_not c hc).1 (by rw [hs]; simp), hs]
    show (wordS (p ++ r)).map _ = _
    rw [ih (fun d hd => h d (List.mem_cons_of_mem _ hd)), Option.map_map]
    congr 1
theorem meanS_plain (p r : List UInt8) (h : ∀ c ∈ p, plainB c = true) : meanS (p ++ r) = (meanS r).map (p ++ ·) := by
  induction p with
  | nil => simp
  | cons c p ih =>
    have hc := h c List.mem_cons_self
    have hs := span_plain c (p ++ r) hc
    rw [List.cons_append, meanS_step (c :: (p ++ r)) (by simp) (by rw [hs]), hs]
    show (meanS (p ++ r)).map _ = _
    rw [ih (fun d hd => h d (List.mem_cons_of_mem _ hd)), Option.map_map]
    congr 1
theorem wd_plain (p : List UInt8) (h0 : p ≠ []) (h : ∀ c ∈ p, plainB c = true) : Wd p p := by
  refine ⟨fun r hr => ?_, ?_, ?_⟩
  · rw [wordS_plain p r h, wordS_brk hr]
    simp
  · have := meanS_plain p [] h
    rw [List.append_nil, meanS_nil] at this
    simpa using this
  · cases p with
    | nil => exact absurd rfl h0
    | cons c p => exact ⟨c, p, rfl, (plain_not c (h c List.mem_cons_self)).1⟩

theorem index_here (p X : List UInt8) (h : ∀ c ∈ p, c ≠ 39) : Lib.indexByte (p ++ 39 :: X) 39 = p.length := by
  induction p with
  | nil => simp [Lib.indexByte]
  | cons c p ih =>
    have h1 : (c == 39) = false := by simpa using h c List.mem_cons_self
    have h2 := ih (fun d hd => h d (List.mem_cons_of_mem _ hd))
    have h3 : ((p.length : Int) == -1) = false := beq_eq_false_iff_ne.2 (by omega)
    simp [Lib.indexByte, h1, h2, h3]
theorem span_quote (p X : List UInt8) (h : ∀ c ∈ p, c ≠ 39) : spanS (39 :: (p ++ 39 :: X)) = (p.length + 2, p, true) := by
  have hi := index_here p X h
  have h1 : ¬ ((p.length : Int) < 0) := by omega
  simp [spanS, hi, h1]
theorem span_stroke (X : List UInt8) : spanS (92 :: 39 :: X) = (2, [39], true) := by simp [spanS]
theorem stop39 : stopB 39 = false := by decide
theorem stop92 : stopB 92 = false := by decide
theorem word_quote1 (p X : List UInt8) (h : ∀ c ∈ p, c ≠ 39) : wordS (39 :: (p ++ 39 :: X)) = (wordS X).map (· + (p.length + 2)) := by
  have hs := span_quote p X h
  rw [wordS_step 39 _ stop39 (by rw [hs]; simp), hs]
  have : (39 :: (p ++ 39 :: X)).drop (p.length + 2) = X := by
    have : (39 :: (p ++ 39 :: X)) = (39 :: p ++ [39]) ++ X := by simp
    rw [this]
    have hl : (39 :: p ++ [39]).length = p.length + 2 := by simp
    rw [← hl, List.drop_left]
  rw [this]
theorem mean_quote1 (p X : List UInt8) (h : ∀ c ∈ p, c ≠ 39) : meanS (39 :: (p ++ 39 :: X)) = (meanS X).map (p ++ ·) := by
  have hs := span_quote p X h
  rw [meanS_step _ (by simp) (by rw [hs]), hs]
  have : (39 :: (p ++ 39 :: X)).drop (p.length + 2) = X := by
    have : (39 :: (p ++ 39 :: X)) = (39 :: p ++ [39]) ++ X := by simp
    rw [this]
    have hl : (39 :: p ++ [39]).length = p.length + 2 := by simp
    rw [← hl, List.drop_left]
  rw [this]
theorem word_stroke (X : List UInt8) : wordS (92 :: 39 :: X) = (wordS X).map (· + 2) := by
  have hs := span_stroke X
  rw [wordS_step 92 _ stop92 (by rw [hs]; simp), hs]
  rfl
theorem mean_stroke (X : List UInt8) : meanS (92 :: 39 :: X) = (meanS X).map ([39] ++ ·) := by
  have hs := span_stroke X
  rw [meanS_step _ (by simp) (by rw [hs]), hs]
  rfl
theorem quoteB_cons (c : UInt8) (r : List UInt8) : quoteB (c :: r) = (if c == 39 then [39, 92, 39, 39] else [c]) ++ quoteB r := rfl
theorem word_quote (m : List UInt8) : ∀ p : List UInt8, (∀ c ∈ p, c ≠ 39) → ∀ X, wordS (39 :: (p ++ (quoteB m ++ 39 :: X))) = (wordS X).map (· + (p.length + (quoteB m).length + 2)) := by
  induction m with
  | nil =>
    intro p hp X
    exact word_quote1 p X hp
  | cons c m ih =>
    intro p hp X
    by_cases hc : c = 39
    · subst hc
      have hq : quoteB (39 :: m) = [39, 92, 39, 39] ++ quoteB m := rfl
      rw [hq]
      show wordS (39 :: (p ++ 39 :: (92 :: 39 :: (39 :: ([] ++ (quoteB m ++ 39 :: X)))))) = _
      rw [word_quote1 p _ hp, word_stroke, ih [] (by simp) X]
      simp only [Option.map_map]
      congr 1
      funext x
      simp only [Function.comp_apply, List.length_append, List.length_cons, List.length_nil]
      omega
    · have hb : (c == 39) = false := by simpa using hc
      have hq : quoteB (c :: m) = c :: quoteB m := by rw [quoteB_cons, hb]; rfl
      rw [hq]
      have : (39 :: (p ++ (c :: quoteB m ++ 39 :: X))) = 39 :: ((p ++ [c]) ++ (quoteB m ++ 39 :: X)) := by simp
      rw [this, ih (p ++ [c]) (fun d hd => by
        rcases List.mem_append.1 hd with h | h
        · exact hp d h
        · simp at h; subst h; exact hc) X]
      congr 1
      funext x
      simp only [List.length_append, List.length_cons, List.length_nil]
      omega
theorem mean_quote (m : List UInt8) : ∀ p : List UInt8, (∀ c ∈ p, c ≠ 39) → meanS (39 :: (p ++ (quoteB m ++ [39]))) = some (p ++ m) := by
  induction m with
  | nil =>
    intro p hp
    have := mean_quote1 p [] hp
    rw [meanS_nil] at this
    simpa [quoteB] using this
  | cons c m ih =>
    intro p hp
    by_cases hc : c = 39
    · subst hc
      have hq : quoteB (39 :: m) = [39, 92, 39, 39] ++ quoteB m := rfl
      rw [hq]
      show meanS (39 :: (p ++ 39 :: (92 :: 39 :: (39 :: ([] ++ (quoteB m ++ [39])))))) = _
      rw [mean_quote1 p _ hp, mean_stroke, ih [] (by simp)]
      simp
    · have hb : (c == 39) = false := by simpa using hc
      have hq : quoteB (c :: m) = c :: quoteB m := by rw [quoteB_cons, hb]; rfl
      rw [hq]
      have : (39 :: (p ++ (c :: quoteB m ++ [39]))) = 39 :: ((p ++ [c]) ++ (quoteB m ++ [39])) := by simp
      rw [this, ih (p ++ [c]) (fun d hd => by
        rcases List.mem_append.1 hd with h | h
        · exact hp d h
        · simp at h; subst h; exact hc)]
      simp
/-- a text in quotes is a word that means it -/
theorem wd_quote (m : List UInt8) : Wd (quoteS m) m := by
  unfold quoteS
  by_cases hb : (!m.isEmpty && m.all bareB) = true
  · rw [if_pos hb]
    simp only [Bool.and_eq_true, Bool.not_eq_true', List.isEmpty_eq_false_iff, List.all_eq_true] at hb
    exact wd_plain m hb.1 (fun c hc => bare_plain c (hb.2 c hc))
  · rw [if_neg hb]
    refine ⟨fun r hr => ?_, ?_, ⟨39, _, rfl, stop39⟩⟩
    · have := word_quote m [] (by simp) r
      rw [wordS_brk hr] at this
      simp only [List.nil_append, List.length_nil] at this
      have h2 : (39 :: quoteB m ++ [39] ++ r) = 39 :: (quoteB m ++ 39 :: r) := by simp
      rw [h2, this]
      simp
    · have := mean_quote m [] (by simp)
      simpa using this

theorem wd_ne {t m : List UInt8} (h : Wd t m) (o : List UInt8) (c : UInt8) (r : List UInt8) (ho : o = c :: r) (hc : stopB c = true) : t ≠ o := by
  obtain ⟨d, u, rfl, hd⟩ := h.first
  subst ho
  intro e
  injection e with e _
  subst e
  rw [hd] at hc
  cases hc
theorem readGo_wd {t m : List UInt8} (h : Wd t m) (r : List (List UInt8)) (cmds : List PCmd) (c : PCmd) (bad : Bool) : readGo (t :: r) cmds c bad = readGo r cmds { c with words := c.words ++ [m] } bad := by
  have hm : meanW t = m := by unfold meanW; rw [h.mean]; rfl
  rw [readGo_word t r cmds c bad (wd_ne h _ 59 [] rfl (by decide)) (wd_ne h _ 38 [38] rfl (by decide)) (wd_ne h _ 124 [124] rfl (by decide)) (wd_ne h _ 38 [] rfl (by decide)) (wd_ne h _ 124 [] rfl (by decide)) (wd_ne h _ 60 [] rfl (by decide)) (wd_ne h _ 62 [] rfl (by decide)) (wd_ne h _ 62 [62] rfl (by decide)), hm]
theorem readGo_wds (L : List (List UInt8)) : ∀ (r : List (List UInt8)) (cmds : List PCmd) (c : PCmd) (bad : Bool), readGo (L.map quoteS ++ r) cmds c bad = readGo r cmds { c with words := c.words ++ L } bad := by
  induction L with
  | nil => intro r cmds c bad; simp
  | cons x L ih =>
    intro r cmds c bad
    rw [List.map_cons, List.cons_append, readGo_wd (wd_quote x), ih]
    simp

/-- the texts in quotes, each behind a blank -/
def quotes (L : List (List UInt8)) : List UInt8 := L.flatMap (fun x => 32 :: quoteS x)
theorem brk_quotes (L : List (List UInt8)) (r : List UInt8) (hr : Brk r) : Brk (quotes L ++ r) := by
  cases L with
  | nil => exact hr
  | cons x L => exact .inr ⟨32, _, rfl, by decide⟩
theorem toksS_quotes (L : List (List UInt8)) (r : List UInt8) (hr : Brk r) : toksS (quotes L ++ r) = (toksS r).map (L.map quoteS ++ ·) := by
  induction L with
  | nil => simp [quotes]
  | cons x L ih =>
    have : quotes (x :: L) ++ r = 32 :: (quoteS x ++ (quotes L ++ r)) := by simp [quotes]
    rw [this, toksS_blank, toksS_word (wd_quote x) (brk_quotes L r hr), ih, Option.map_map]
    congr 1
end Go.Proofs.YtmagggflamdahaaGreatDoor

namespace Go.Proofs.YtmagggflamdahaaGreatDoor
open Go.RowKit

theorem wd_echo : Wd [101, 99, 104, 111] [101, 99, 104, 111] := wd_plain _ (by simp) (by decide)
theorem wd_cat : Wd [99, 97, 116] [99, 97, 116] := wd_plain _ (by simp) (by decide)
theorem wd_df : Wd [100, 47, 102] [100, 47, 102] := wd_plain _ (by simp) (by decide)
theorem brk_blank (r : List UInt8) : Brk (32 :: r) := .inr ⟨32, r, rfl, by decide⟩
theorem brk_semi (r : List UInt8) : Brk (59 :: r) := .inr ⟨59, r, rfl, by decide⟩
theorem brk_nil : Brk [] := .inl rfl

/-- an echo of texts in quotes -/
def echoL (L : List (List UInt8)) : List UInt8 := [101, 99, 104, 111] ++ quotes L
/-- the law's line -/
def saidL (L : List (List UInt8)) : List UInt8 := echoL L ++ [59, 32] ++ echoL L ++ [32, 62, 32, 100, 47, 102, 59, 32, 99, 97, 116, 32, 60, 32, 100, 47, 102]
theorem toksS_echo (L : List (List UInt8)) (r : List UInt8) (hr : Brk r) : toksS (echoL L ++ r) = (toksS r).map ([101, 99, 104, 111] :: L.map quoteS ++ ·) := by
  unfold echoL
  rw [List.append_assoc, toksS_word wd_echo (brk_quotes L r hr), toksS_quotes L r hr, Option.map_map]
  congr 1
theorem toksS_said (L : List (List UInt8)) : toksS (saidL L) = some ([101, 99, 104, 111] :: L.map quoteS ++ ([59] :: ([101, 99, 104, 111] :: L.map quoteS ++ [[62], [100, 47, 102], [59], [99, 97, 116], [60], [100, 47, 102]]))) := by
  have h1 : toksS [100, 47, 102] = some [[100, 47, 102]] := by
    have := toksS_word wd_df brk_nil
    rw [List.append_nil, toksS_none [] rfl] at this
    exact this
  have h2 : toksS (32 :: 60 :: 32 :: [100, 47, 102]) = some [[60], [100, 47, 102]] := by
    rw [toksS_blank, toksS_one 60 _ (by decide) (by decide) (by decide), h1]
    rfl
  have h3 : toksS (59 :: 32 :: ([99, 97, 116] ++ (32 :: 60 :: 32 :: [100, 47, 102]))) = some [[59], [99, 97, 116], [60], [100, 47, 102]] := by
    rw [toksS_one 59 _ (by decide) (by decide) (by decide), toksS_word wd_cat (brk_blank _), h2]
    rfl
  have h4 : toksS (32 :: 62 :: 32 :: ([100, 47, 102] ++ (59 :: 32 :: ([99, 97, 116] ++ (32 :: 60 :: 32 :: [100, 47, 102]))))) = some [[62], [100, 47, 102], [59], [99, 97, 116], [60], [100, 47, 102]] := by
    rw [toksS_blank, toksS_one 62 _ (by decide) (by decide) (by decide), toksS_word wd_df (brk_semi _), h3]
    rfl
  have e : saidL L = echoL L ++ (59 :: 32 :: (echoL L ++ (32 :: 62 :: 32 :: ([100, 47, 102] ++ (59 :: 32 :: ([99, 97, 116] ++ (32 :: 60 :: 32 :: [100, 47, 102]))))))) := by simp [saidL]
  rw [e, toksS_echo L _ (brk_semi _), toksS_one 59 _ (by decide) (by decide) (by decide), toksS_echo L _ (brk_blank _), h4]
  simp
/-- the commands of the line -/
def saidC (L : List (List UInt8)) : List PCmd := [⟨[], [101, 99, 104, 111] :: L, none, none, false⟩, ⟨[59], [101, 99, 104, 111] :: L, none, some [100, 47, 102], false⟩, ⟨[59], [[99, 97, 116]], some [100, 47, 102], none, false⟩]
theorem mean_df : meanW [100, 47, 102] = [100, 47, 102] := by unfold meanW; rw [wd_df.mean]; rfl
theorem readS_said (L : List (List UInt8)) (hl : (saidL L).length ≤ 65536) : readS (saidL L) = .ok (saidC L) := by
  unfold readS
  rw [if_neg (by omega), toksS_said]
  show readGo ([101, 99, 104, 111] :: (L.map quoteS ++ ([59] :: ([101, 99, 104, 111] :: (L.map quoteS ++ [[62], [100, 47, 102], [59], [99, 97, 116], [60], [100, 47, 102]]))))) [] (PCmd.fresh []) false = _
  rw [readGo_wd wd_echo, readGo_wds, readGo_sep _ _ _ _ _ (.inl rfl)]
  have n1 : nextS [59] [] ⟨[], [] ++ [[101, 99, 104, 111]] ++ L, none, none, false⟩ false = ([⟨[], [101, 99, 104, 111] :: L, none, none, false⟩], false) := by
    simp [nextS, PCmd.any]
  have e1 : ({ ({ PCmd.fresh [] with words := (PCmd.fresh []).words ++ [[101, 99, 104, 111]] } : PCmd) with words := ({ PCmd.fresh [] with words := (PCmd.fresh []).words ++ [[101, 99, 104, 111]] } : PCmd).words ++ L } : PCmd) = ⟨[], [] ++ [[101, 99, 104, 111]] ++ L, none, none, false⟩ := rfl
  rw [e1, n1]
  simp only
  rw [readGo_wd wd_echo, readGo_wds, readGo_out _ _ _ _ _ _ (.inl rfl) (by decide), readGo_sep _ _ _ _ _ (.inl rfl), mean_df]
  have e2 : ∀ (c : PCmd), c = ⟨[59], [101, 99, 104, 111] :: L, none, some [100, 47, 102], false⟩ → nextS [59] [⟨[], [101, 99, 104, 111] :: L, none, none, false⟩] c false = ([⟨[], [101, 99, 104, 111] :: L, none, none, false⟩, ⟨[59], [101, 99, 104, 111] :: L, none, some [100, 47, 102], false⟩], false) := by
    rintro c rfl
    simp [nextS, PCmd.any]
  show readGo [[99, 97, 116], [60], [100, 47, 102]] (nextS [59] [⟨[], [101, 99, 104, 111] :: L, none, none, false⟩] ⟨[59], [101, 99, 104, 111] :: L, none, some [100, 47, 102], false⟩ false).1 (PCmd.fresh [59]) (nextS [59] [⟨[], [101, 99, 104, 111] :: L, none, none, false⟩] ⟨[59], [101, 99, 104, 111] :: L, none, some [100, 47, 102], false⟩ false).2 = _
  rw [e2 _ rfl]
  simp only
  rw [readGo_wd wd_cat, readGo_in _ _ _ _ _ (by decide), mean_df]
  simp [readGo, nextS, PCmd.any, PCmd.fresh, saidC]
end Go.Proofs.YtmagggflamdahaaGreatDoor

namespace Go.Proofs.YtmagggflamdahaaGreatDoor
open Go.RowKit

def dfQ : List UInt8 := [47, 100, 47, 102]
theorem df_where : whereS [100, 47, 102] = some dfQ := by kernel_rfl
theorem df_where2 : whereS dfQ = some dfQ := by kernel_rfl
theorem st0_get : st0.get dfQ = none := by kernel_rfl
theorem st0_home : homeS st0 dfQ = 0 := by kernel_rfl
theorem st0_room : st0.room = 5000 := by kernel_rfl
theorem st0_used : st0.used = 0 := by kernel_rfl
theorem st0_len : st0.files.length = 2 := by kernel_rfl
theorem findF_put (p : List UInt8) (f : PFile) : ∀ fs : List (List UInt8 × PFile), findF p (putF p f fs) = some f
  | [] => by simp [putF, findF]
  | (q, g) :: r => by
    unfold putF
    by_cases h : (p == q) = true
    · rw [if_pos h]
      simp [findF]
    · rw [if_neg h]
      unfold findF
      rw [if_neg h]
      exact findF_put p f r
theorem write_df (t : List UInt8) (ht : t.length ≤ 5000) : writeF st0 [100, 47, 102] t = (st0.put dfQ ⟨t, 0, false⟩, 0) := by
  unfold writeF found
  rw [df_where]
  simp only
  rw [st0_get]
  simp only
  unfold writeAt
  rw [if_neg (by rw [st0_home]; simp), if_neg (by omega), if_neg (by rw [st0_room, st0_used, st0_len]; simp; omega)]
theorem read_df (p t : List UInt8) (hp : whereS p = some dfQ) : readF (st0.put dfQ ⟨t, 0, false⟩) p = (t, 0) := by
  have hg : (st0.put dfQ ⟨t, 0, false⟩).get dfQ = some ⟨t, IntKind.i64.wrap (st0.clock + 1), false⟩ := findF_put dfQ _ st0.files
  unfold readF found
  rw [hp]
  simp only
  rw [hg]
  simp
theorem skip_semi : skipS [59] 0 = false := by decide
theorem skip_none : skipS [] 0 = false := by decide

/-- what the law wants to be said -/
def wantL (L : List (List UInt8)) : List UInt8 := Lib.join L [32] ++ [10]
theorem runF_said (L : List (List UInt8)) (hl : (saidL L).length ≤ 65536) (hw : (wantL L).length ≤ 5000) (he : echoF L = wantL L) :
    runF runA st0 (saidL L) 9 = (st0.put dfQ ⟨wantL L, 0, false⟩, 0, wantL L ++ wantL L, 0) := by
  generalize hW : wantL L = t at *
  have hR : ∀ n st i, runA n st i ([101, 99, 104, 111] :: L) = ⟨0, t, st, false⟩ := fun n st i => by
    rw [← he]
    rfl
  have hC : ∀ n st i, runA n st i [[99, 97, 116]] = ⟨0, i, st, false⟩ := fun n st i => rfl
  unfold runF
  rw [readS_said L hl]
  simp only
  unfold saidC
  rw [runS_step (by simp) (by decide)]
  have s1 : stepF runA st0 ⟨[⟨[], [101, 99, 104, 111] :: L, none, none, false⟩, ⟨[59], [101, 99, 104, 111] :: L, none, some [100, 47, 102], false⟩, ⟨[59], [[99, 97, 116]], some [100, 47, 102], none, false⟩], 0, []⟩ =
      (st0, ⟨[⟨[59], [101, 99, 104, 111] :: L, none, some [100, 47, 102], false⟩, ⟨[59], [[99, 97, 116]], some [100, 47, 102], none, false⟩], 0, t⟩) := by
    unfold stepF leftS
    rw [List.dropWhile_cons, skip_none]
    simp only [Bool.false_eq_true, if_false]
    unfold doesF inOf
    simp only [hR]
    unfold doesOut
    simp only [Bool.false_eq_true, if_false, List.nil_append, List.length_nil]
    rw [List.take_of_length_le (by omega)]
  rw [s1]
  simp only
  rw [runS_step (by simp) (by decide)]
  have s2 : stepF runA st0 ⟨[⟨[59], [101, 99, 104, 111] :: L, none, some [100, 47, 102], false⟩, ⟨[59], [[99, 97, 116]], some [100, 47, 102], none, false⟩], 0, t⟩ =
      (st0.put dfQ ⟨t, 0, false⟩, ⟨[⟨[59], [[99, 97, 116]], some [100, 47, 102], none, false⟩], 0, t⟩) := by
    unfold stepF leftS
    rw [List.dropWhile_cons, skip_semi]
    simp only [Bool.false_eq_true, if_false]
    unfold doesF inOf
    simp only [hR]
    unfold doesOut
    simp only [Bool.false_eq_true, if_false]
    rw [write_df t hw]
    simp
  rw [s2]
  simp only
  rw [runS_step (by simp) (by decide)]
  have s3 : stepF runA (st0.put dfQ ⟨t, 0, false⟩) ⟨[⟨[59], [[99, 97, 116]], some [100, 47, 102], none, false⟩], 0, t⟩ = (st0.put dfQ ⟨t, 0, false⟩, ⟨[], 0, t ++ t⟩) := by
    unfold stepF leftS
    rw [List.dropWhile_cons, skip_semi]
    simp only [Bool.false_eq_true, if_false]
    have hin : inOf (st0.put dfQ ⟨t, 0, false⟩) (some [100, 47, 102]) = some t := by
      unfold inOf
      simp only
      rw [read_df _ t df_where]
      simp
    unfold doesF
    simp only
    rw [hin]
    simp only [hC]
    unfold doesOut
    simp only [Bool.false_eq_true, if_false]
    rw [List.take_of_length_le (by omega)]
  rw [s3]
  simp only
  rw [runS_done rfl]
theorem read_said2 (t : List UInt8) : readF (st0.put dfQ ⟨t, 0, false⟩) dfQ = (t, 0) := read_df _ t df_where2
theorem ok_said (L : List (List UInt8)) (hl : (saidL L).length ≤ 65536) (hn : L.length ≤ 900) (hx : ∀ x ∈ L, x.length ≤ 262144) : ∀ cs, readS (saidL L) = .ok cs → ∀ c ∈ cs, CmdOK OkA c := by
  intro cs h c hc
  rw [readS_said L hl] at h
  obtain rfl := Except.ok.inj h.symm
  have hE : OkA ([101, 99, 104, 111] :: L) := ⟨by simp only [List.length_cons]; omega, fun x hxm => by
    rcases List.mem_cons.1 hxm with rfl | h
    · decide
    · exact hx x h, .inl rfl⟩
  unfold saidC at hc
  rcases List.mem_cons.1 hc with rfl | hc
  · exact ⟨hE, fun p hp => (by cases hp), fun p hp => (by cases hp)⟩
  rcases List.mem_cons.1 hc with rfl | hc
  · exact ⟨hE, fun p hp => (by cases hp), fun p hp => (by cases hp; decide)⟩
  rcases List.mem_cons.1 hc with rfl | hc
  · exact ⟨⟨by decide, by decide, .inr (.inl rfl)⟩, fun p hp => (by cases hp; decide), fun p hp => (by cases hp)⟩
  · cases hc
end Go.Proofs.YtmagggflamdahaaGreatDoor
