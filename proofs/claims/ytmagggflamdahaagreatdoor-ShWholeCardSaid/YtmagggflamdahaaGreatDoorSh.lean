/- word.span and word.Mean as plain functions. word.Mean as a plain function. -/
import Derived.Test.YtmagggflamdahaaGreatDoorSa
namespace Go.Proofs.YtmagggflamdahaaGreatDoor
open Go.RowKit

theorem bs_ext {a b : ByteArray} (h : a.data.toList = b.data.toList) : a = b := by
  cases a; cases b
  simp only at h
  congr
  exact Array.toList_inj.1 h
theorem ext_str (s : ByteArray) (a b : Nat) (l : List UInt8) (h : (s.data.toList.drop a).take (b - a) = l) : s.extract a b = ⟨l.toArray⟩ := by
  apply bs_ext
  rw [Lib.extract_data, h]

theorem belowN (w : World) (n : Nat) : Below w.heap.size w (w.drewN n) := (Below.refl _ w).trans ⟨rfl, rfl, rfl, Nat.le_refl _, fun _ _ => rfl⟩

set_option maxHeartbeats 2000000 in
set_option maxRecDepth 100000 in
theorem span_any (s : ByteArray) (hs : s.size ≤ 140737488351232) (h0 : 0 < s.size) (w : World) :
    Calls Tryz.prog 68 #[.string s] w fun e w' => e = .returned (.tuple #[.int .i64 (spanS s.data.toList).1, .string ⟨(spanS s.data.toList).2.1.toArray⟩, .bool (spanS s.data.toList).2.2]) ∧ Below w.heap.size w w' := by
  have hl : s.data.toList.length = s.size := by simp
  have b92 := byte_eq s 0 h0 92 92 rfl
  have b39 := byte_eq s 0 h0 39 39 rfl
  have b34 := byte_eq s 0 h0 34 34 rfl
  obtain ⟨c, r, hcr⟩ : ∃ c r, s.data.toList = c :: r := by
    cases h : s.data.toList with
    | nil => rw [h] at hl; simp at hl; omega
    | cons c r => exact ⟨c, r, rfl⟩
  have hg : s.data.toList.getD 0 0 = c := by rw [hcr]; rfl
  rw [hg] at b92 b39 b34
  have hrl : r.length + 1 = s.size := by rw [← hl, hcr]; rfl
  by_cases h92 : c = 92
  · subst h92
    replace b92 : (((s[0]'h0).toNat : Int) == 92) = true := b92
    by_cases hlen : s.size < 2
    · have hS : Hid (spanS s.data.toList = (0, [], false)) := Lib.hid (by rw [hcr, List.eq_nil_of_length_eq_zero (l := r) (by omega)]; rfl)
      clear b39 b34 hg hcr
      go_enter Tryz.func68, Tryz.ntmps68
      go_wp2
      go_ret3
      exact ⟨by rw [hS.out]; rfl, Below.refl _ _⟩
    · have hS : Hid (spanS s.data.toList = (2, (s.extract 1 2).data.toList, true)) := Lib.hid (by
        rw [Lib.extract_data, hcr]
        cases r with
        | nil => simp at hrl; omega
        | cons d r => rfl)
      clear b39 b34 hg hcr
      go_enter Tryz.func68, Tryz.ntmps68
      go_wp2
      go_quiet (fail)
      go_wp2
      go_ret3
      exact ⟨by rw [hS.out, Lib.mk_data]; rfl, belowN _ _⟩
  · replace b92 : (((s[0]'h0).toNat : Int) == 92) = false := b92.trans (beq_eq_false_iff_ne.2 h92)
    by_cases h39 : c = 39
    · subst h39
      replace b39 : (((s[0]'h0).toNat : Int) == 39) = true := b39
      have hT : (s.extract 1 s.size).data.toList = r := by rw [tail_list, hcr]; rfl
      have hI := Lib.hid (fun w => index_any (s.extract 1 s.size) 39 w)
      rw [hT] at hI
      have hS : Hid (spanS s.data.toList = if Lib.indexByte r 39 < 0 then (0, [], false) else ((Lib.indexByte r 39).toNat + 2, r.take (Lib.indexByte r 39).toNat, true)) := Lib.hid (by
        rw [hcr]
        simp only [spanS]
        rw [if_neg (by decide)]
        simp only [if_true])
      have hR : ∀ k : Nat, Hid ((⟨(r.take k).toArray⟩ : ByteArray) = s.extract 1 (k + 1)) := fun k => Lib.hid (ext_str s 1 (k + 1) (r.take k) (by rw [hcr]; simp)).symm
      have hle := indexByte_le r 39
      generalize Lib.indexByte r 39 = n at hI hS hle
      obtain ⟨hle1, hle2⟩ := hle
      clear b34 hg hcr hT h92
      by_cases hn : n < 0
      · have hS2 : Hid (spanS s.data.toList = (0, [], false)) := Lib.hid (by rw [hS.out, if_pos hn])
        clear hS
        go_enter Tryz.func68, Tryz.ntmps68
        go_wp2_with (go_at_call 67; refine (hI.out _).mono ?_; rintro e w' ⟨rfl, rfl⟩)
        go_ret3
        exact ⟨by rw [hS2.out]; rfl, Below.refl _ _⟩
      · obtain ⟨m, rfl⟩ : ∃ m : Nat, n = m := ⟨n.toNat, by omega⟩
        have hS2 : Hid (spanS s.data.toList = (m + 2, r.take m, true)) := Lib.hid (by rw [hS.out, if_neg hn]; rfl)
        have hR2 := hR m
        have n1 : m + 2 ≤ s.size := by omega
        have hw1 : IntKind.i64.wrap ((m : Int) + 1) = ((m + 1 : Nat) : Int) := by rw [IntKind.wrap_i64]; omega
        have hsl : ∀ W : World, (Instr.slice 9 (.string s) (some (.int .i64 1)) (some (.int .i64 ((m : Int) + 1))) none).run Tryz.prog W = .ok (.string (s.extract 1 (m + 1))) W := fun W => run_slice_string W 9 s .i64 .i64 1 ((m : Int) + 1) Tryz.underlying9 (by omega) (by omega) (by omega)
        have hw2 : IntKind.i64.wrap ((m : Int) + 2) = ((m + 2 : Nat) : Int) := by rw [IntKind.wrap_i64]; omega
        clear hS hle2 hR hle1
        go_enter Tryz.func68, Tryz.ntmps68
        go_wp2_with (go_at_call 67; refine (hI.out _).mono ?_; rintro e w' ⟨rfl, rfl⟩)
        go_quiet (fail)
        go_wp2
        go_ret3
        exact ⟨by rw [hS2.out, hR2.out]; rfl, belowN _ _⟩
    · replace b39 : (((s[0]'h0).toNat : Int) == 39) = false := b39.trans (beq_eq_false_iff_ne.2 h39)
      by_cases h34 : c = 34
      · subst h34
        replace b34 : (((s[0]'h0).toNat : Int) == 34) = true := b34
        have hS : Hid (spanS s.data.toList = match dqS (s.data.toList.drop 1) with | none => (0, [], false) | some x => (x.1 + 1, x.2, true)) := Lib.hid (by
          rw [hcr]
          simp only [spanS, List.drop_succ_cons, List.drop_zero]
          rw [if_neg (by decide), if_neg (by decide)]
          simp only [if_true]
          cases dqS r <;> rfl)
        have HF : Hid (BLoc w.heap.size w.heap.size [] (w.alloc (.cells #[.pointer none, .slice none 0 0] 45))) := Lib.hid (BLoc.fresh (Nat.le_refl _))
        have HB0 : Hid (Below w.heap.size w (w.alloc (.cells #[.pointer none, .slice none 0 0] 45))) := Lib.hid ((Below.refl _ _).alloc (Nat.le_refl _) _)
        clear hg hcr h92 h39 hrl
        go_enter Tryz.func68, Tryz.ntmps68
        go_wp2
        go_loopw [7] (fun v7 wr => ∃ (i : Nat) (acc : List UInt8), v7 = .int .i64 i ∧ i ≤ s.size + 1 ∧ Hid (acc.length ≤ i) ∧ Hid (DqR s.data.toList i acc) ∧ Hid (BLoc w.heap.size w.heap.size acc wr) ∧ Hid (Below w.heap.size w wr)) (fun v7 _ => s.size + 2 - (intOf v7).toNat)
        case atStart => exact ⟨1, [], rfl, by omega, Lib.hid (by simp), Lib.hid (DqR.start _), HF, HB0⟩
        case round =>
          obtain ⟨i, acc, rfl, hi, HA, HR, HL, HB⟩ := hrel
          by_cases hlt : i < s.size
          · have c34 := byte_eq s i hlt 34 34 rfl
            have c92 := byte_eq s i hlt 92 92 rfl
            by_cases k34 : s.data.toList.getD i 0 = 34
            · rw [k34] at c34
              replace c34 : (((s[i]'hlt).toNat : Int) == 34) = true := c34
              have hF : Hid (spanS s.data.toList = (i + 1, acc, true)) := Lib.hid (by rw [hS.out, HR.out.close _ _ _ (by omega) k34])
              clear c92 k34
              go_wp2_with fail
              go_at_call 38
              refine (bldString_own _ HL.out HB.out.size).mono ?_
              rintro e w1 ⟨rfl, hl1, hb1⟩
              have HB1 := Lib.hid (HB.out.trans hb1)
              clear hl1 hb1
              go_wp2
              go_ret3
              exact ⟨by rw [hF.out]; rfl, HB1.out⟩
            · replace c34 : (((s[i]'hlt).toNat : Int) == 34) = false := c34.trans (beq_eq_false_iff_ne.2 k34)
              by_cases k92 : s.data.toList.getD i 0 = 92
              · rw [k92] at c92
                replace c92 : (((s[i]'hlt).toNat : Int) == 92) = true := c92
                by_cases hl2 : i + 1 < s.size
                · have HN := Lib.hid (HR.out.stroke _ _ _ (by omega) k92)
                  have HX := Lib.hid (byte_at s (i + 1) hl2)
                  clear k34 k92 hl
                  go_wp2_with fail
                  go_at_call 100
                  refine (writeByte_own _ HL.out HB.out.size (s[i + 1]'hl2) (by have := HA.out; omega)).mono ?_
                  rintro e w1 ⟨rfl, hl1, hb1⟩
                  rw [HX.out] at hl1
                  have HL1 := Lib.hid hl1
                  have HB1 := Lib.hid (HB.out.trans hb1)
                  have HA1 : Hid ((acc ++ [s.data.toList.getD (i + 1) 0]).length ≤ i + 2) := Lib.hid (by have := HA.out; simp; omega)
                  clear hl1 hb1
                  go_wp2
                  go_roundw
                  case rel => exact ⟨i + 2, _, by go_num, by omega, HA1, HN, HL1, HB1⟩
                  case measure => simp [intOf]; omega
                · have hN : Hid (dqS (s.data.toList.drop 1) = none) := Lib.hid (HR.out.lone _ _ _ (by omega) k34)
                  clear k34 k92 hl
                  go_wp2_with fail
                  go_at_call 100
                  refine (writeByte_own _ HL.out HB.out.size (s[i]'hlt) (by have := HA.out; omega)).mono ?_
                  rintro e w1 ⟨rfl, hl1, hb1⟩
                  have HL1 := Lib.hid hl1
                  have HB1 := Lib.hid (HB.out.trans hb1)
                  have HN : Hid (DqR s.data.toList (i + 1) (acc ++ [s[i]'hlt])) := Lib.hid ⟨by omega, by rw [hN.out, List.drop_of_length_le (by simp; omega)]; rfl⟩
                  have HA1 : Hid ((acc ++ [s[i]'hlt]).length ≤ i + 1) := Lib.hid (by have := HA.out; simp; omega)
                  clear hl1 hb1
                  go_wp2
                  go_roundw
                  case rel => exact ⟨i + 1, _, by go_num, by omega, HA1, HN, HL1, HB1⟩
                  case measure => simp [intOf]; omega
              · replace c92 : (((s[i]'hlt).toNat : Int) == 92) = false := c92.trans (beq_eq_false_iff_ne.2 k92)
                have HN : Hid (DqR s.data.toList (i + 1) (acc ++ [s[i]'hlt])) := Lib.hid (by
                  rw [byte_at]
                  by_cases hl2 : i + 1 < s.size
                  · exact HR.out.byte _ _ _ (by omega) k34 k92
                  · have hN := HR.out.lone _ _ _ (by omega) k34
                    exact ⟨by omega, by rw [hN, List.drop_of_length_le (by omega)]; rfl⟩)
                have HA1 : Hid ((acc ++ [s[i]'hlt]).length ≤ i + 1) := Lib.hid (by have := HA.out; simp; omega)
                clear k34 k92 hl
                go_wp2_with fail
                go_at_call 100
                refine (writeByte_own _ HL.out HB.out.size (s[i]'hlt) (by have := HA.out; omega)).mono ?_
                rintro e w1 ⟨rfl, hl1, hb1⟩
                have HL1 := Lib.hid hl1
                have HB1 := Lib.hid (HB.out.trans hb1)
                clear hl1 hb1
                go_wp2
                go_roundw
                case rel => exact ⟨i + 1, _, by go_num, by omega, HA1, HN, HL1, HB1⟩
                case measure => simp [intOf]; omega
          · have hF : Hid (spanS s.data.toList = (0, [], false)) := Lib.hid (by rw [hS.out, HR.out.none _ _ _ (by omega)])
            go_wp2
            go_ret3
            exact ⟨by rw [hF.out]; rfl, HB.out⟩
      · replace b34 : (((s[0]'h0).toNat : Int) == 34) = false := b34.trans (beq_eq_false_iff_ne.2 h34)
        have hS : Hid (spanS s.data.toList = (1, [c], true)) := Lib.hid (by
          rw [hcr]
          simp only [spanS]
          rw [if_neg h92, if_neg h39, if_neg h34])
        have hX : Hid ((⟨[c].toArray⟩ : ByteArray) = s.extract 0 1) := Lib.hid (ext_str s 0 1 [c] (by rw [hcr]; simp)).symm
        clear hg hcr h92 h39 h34
        go_enter Tryz.func68, Tryz.ntmps68
        go_wp2
        go_quiet (fail)
        go_wp2
        go_ret3
        exact ⟨by rw [hS.out, hX.out]; rfl, belowN _ _⟩
end Go.Proofs.YtmagggflamdahaaGreatDoor

namespace Go.Proofs.YtmagggflamdahaaGreatDoor
open Go.RowKit

/-- what a word means; none: its quotes do not end -/
def meanS (l : List UInt8) : Option (List UInt8) :=
  if _h : l = [] then some []
  else if _h2 : (spanS l).2.2 = false then none
  else (meanS (l.drop (spanS l).1)).map ((spanS l).2.1 ++ ·)
termination_by l.length
decreasing_by
  have := (spanS_le l).2.2.1 (by simpa using _h2)
  have : l.length ≠ 0 := fun e => _h (List.eq_nil_of_length_eq_zero e)
  rw [List.length_drop]
  omega

theorem meanS_nil : meanS [] = some [] := by rw [meanS]; rfl
theorem meanS_open (l : List UInt8) (h : l ≠ []) (h2 : (spanS l).2.2 = false) : meanS l = none := by rw [meanS, dif_neg h, dif_pos h2]
theorem meanS_step (l : List UInt8) (h : l ≠ []) (h2 : (spanS l).2.2 = true) : meanS l = (meanS (l.drop (spanS l).1)).map ((spanS l).2.1 ++ ·) := by
  rw [meanS, dif_neg h, dif_neg (by rw [h2]; simp)]
/-- what Mean says of it -/
def meanV (l : List UInt8) : Value := match meanS l with
  | none => .tuple #[.string ⟨#[]⟩, .int .i64 4]
  | some m => .tuple #[.string ⟨m.toArray⟩, .int .i64 0]

theorem emp_false {t : ByteArray} (h : t.size ≠ 0) : t.toList.isEmpty = false := by
  rw [← decide_eq_emptyBytes]
  exact decide_eq_false (fun e => h (by rw [e]; rfl))
theorem emp_true {t : ByteArray} (h : t.size = 0) : t.toList.isEmpty = true := by
  have : t = .empty := by
    apply bs_ext
    have : t.data.toList.length = 0 := by simpa using h
    rw [List.eq_nil_of_length_eq_zero this]
    rfl
  subst this
  rw [← decide_eq_emptyBytes]
  exact decide_eq_true rfl

set_option maxHeartbeats 2000000 in
set_option maxRecDepth 100000 in
theorem mean_any (s : ByteArray) (hs : s.size ≤ 140737488351232) (w : World) :
    Calls Tryz.prog 46 #[.string s] w fun e w' => e = .returned (meanV s.data.toList) ∧ Below w.heap.size w w' := by
  have HF : Hid (BLoc w.heap.size w.heap.size [] (w.alloc (.cells #[.pointer none, .slice none 0 0] 45))) := Lib.hid (BLoc.fresh (Nat.le_refl _))
  have HB0 : Hid (Below w.heap.size w (w.alloc (.cells #[.pointer none, .slice none 0 0] 45))) := Lib.hid ((Below.refl _ _).alloc (Nat.le_refl _) _)
  go_enter Tryz.func46, Tryz.ntmps46
  go_wp2
  go_loopw [0] (fun v0 wr => ∃ (t : ByteArray) (acc : List UInt8), v0 = .string t ∧ Hid (acc.length + t.size ≤ s.size) ∧ Hid (meanS s.data.toList = (meanS t.data.toList).map (acc ++ ·)) ∧ Hid (BLoc w.heap.size w.heap.size acc wr) ∧ Hid (Below w.heap.size w wr)) (fun v0 _ => match v0 with | .string t => t.size | _ => 0)
  case atStart => exact ⟨s, [], rfl, Lib.hid (by simp), Lib.hid (by cases meanS s.data.toList <;> simp), HF, HB0⟩
  case round =>
    obtain ⟨t, acc, rfl, HA, HM, HL, HB⟩ := hrel
    have htl : t.data.toList.length = t.size := by simp
    by_cases h0 : t.size = 0
    · have hemp := emp_true h0
      have hR : Hid (meanV s.data.toList = .tuple #[.string ⟨acc.toArray⟩, .int .i64 0]) := Lib.hid (by
        unfold meanV
        rw [HM.out, List.eq_nil_of_length_eq_zero (htl.trans h0), meanS_nil]
        simp)
      clear htl h0
      go_wp2_with fail
      go_at_call 38
      refine (bldString_own _ HL.out HB.out.size).mono ?_
      rintro e w1 ⟨rfl, hl1, hb1⟩
      have HB1 := Lib.hid (HB.out.trans hb1)
      clear hl1 hb1
      go_wp2
      go_ret2
      exact ⟨by rw [hR.out]; rfl, HB1.out⟩
    · have hemp := emp_false h0
      have hne : t.data.toList ≠ [] := fun e => h0 (by rw [← htl, e]; rfl)
      have hts : t.size ≤ 140737488351232 := by have := HA.out; omega
      have HS := Lib.hid (fun w => span_any t hts (by omega) w)
      have hle := spanS_le t.data.toList
      have hO := meanS_open t.data.toList hne
      have hN := meanS_step t.data.toList hne
      rcases hsp : spanS t.data.toList with ⟨n, m, ok⟩
      rw [hsp] at HS hle hO hN
      simp only at HS hle hO hN
      clear hsp hne
      cases ok with
      | false =>
        have hR : Hid (meanV s.data.toList = .tuple #[.string ⟨#[]⟩, .int .i64 4]) := Lib.hid (by
          unfold meanV
          rw [HM.out, hO rfl]
          rfl)
        clear hO hN hle htl
        go_wp2_with fail
        go_at_call 68
        refine (HS.out _).mono ?_
        rintro e w1 ⟨rfl, hb1⟩
        have HB1 := Lib.hid (HB.out.trans (hb1.mono HB.out.size))
        clear hb1
        go_wp2
        go_ret2
        exact ⟨by rw [hR.out]; rfl, HB1.out⟩
      | true =>
        have hn1 : 1 ≤ n := hle.2.2.1 rfl
        have hn2 : n ≤ t.size := by omega
        have hm2 : m.length ≤ n := hle.2.1
        have hR : Hid (meanS s.data.toList = (meanS (t.extract n t.size).data.toList).map ((acc ++ m) ++ ·)) := Lib.hid (by
          rw [HM.out, hN rfl, tail_list, Option.map_map]
          congr 1
          funext x
          simp)
        have hA : Hid ((acc ++ m).length + (t.extract n t.size).size ≤ s.size) := Lib.hid (by
          have := HA.out
          rw [List.length_append, ByteArray.size_extract]; omega)
        have HM2 := Lib.hid hm2
        have HT := Lib.hid (by have := HA.out; omega : acc.length + m.length ≤ 140737488351232)
        clear hO hN hle htl hm2
        go_wp2_with fail
        go_at_call 68
        refine (HS.out _).mono ?_
        rintro e w1 ⟨rfl, hb1⟩
        have HB1 := Lib.hid (HB.out.trans (hb1.mono HB.out.size))
        have HL1 := Lib.hid (HL.out.below hb1)
        clear hb1
        go_wp2_with fail
        go_at_call 59
        refine (writeString_own _ HL1.out HB1.out.size ⟨m.toArray⟩ (by have := HT.out; show _ + m.toArray.size ≤ _; simp; omega)).mono ?_
        rintro e w2 ⟨rfl, hl2, hb2⟩
        have HB2 := Lib.hid (HB1.out.trans hb2)
        have HL2 : Hid (BLoc w.heap.size w.heap.size (acc ++ m) w2) := Lib.hid (by simpa using hl2)
        clear hl2 hb2
        go_wp2
        go_roundw
        case rel => exact ⟨_, _, rfl, hA, hR, HL2, HB2⟩
        case measure => simp [ByteArray.size_extract]; omega
end Go.Proofs.YtmagggflamdahaaGreatDoor
