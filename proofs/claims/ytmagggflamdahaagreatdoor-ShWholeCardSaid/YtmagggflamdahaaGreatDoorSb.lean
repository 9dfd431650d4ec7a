/- sh.isOp, sh.token, sh.tokens as plain functions. sh.isOp, sh.token, sh.tokens: the walks. sh.tokens. What lies in memory and is only read: a stretch of a row, a text behind a pointer, sh's commands. sh.read: its closure, its loop. sh.read's closure. sh.read, sh.Check. -/
import Derived.Test.YtmagggflamdahaaGreatDoorSh
import Derived.Shelf.Strings.SlTrimAscii
namespace Go.Proofs.YtmagggflamdahaaGreatDoor
open Go.RowKit

/-- is a byte an operator's -/
def opB (c : UInt8) : Bool := ([59, 38, 124, 60, 62] : List UInt8).contains c
/-- .. one that may stand twice -/
def twiceB (c : UInt8) : Bool := ([38, 124, 62] : List UInt8).contains c
def blankB (c : UInt8) : Bool := ([32, 9] : List UInt8).contains c
def stopB (c : UInt8) : Bool := ([32, 9, 59, 38, 124, 60, 62] : List UInt8).contains c

theorem index_in (l : List UInt8) (c : UInt8) : (0 ≤ Lib.indexByte l c) ↔ l.contains c = true := by
  induction l with
  | nil => simp [Lib.indexByte]
  | cons b l ih =>
    have hle := (indexByte_le l c).1
    simp only [Lib.indexByte, List.contains_cons, Bool.or_eq_true, beq_iff_eq]
    by_cases h : b = c
    · subst h; simp
    · rw [if_neg h]
      have h2 : ¬ c = b := fun e => h e.symm
      simp only [h2, false_or]
      rw [← ih]
      split
      · omega
      · omega
theorem stopB_or (c : UInt8) : stopB c = (blankB c || opB c) := by
  unfold stopB blankB opB
  simp only [List.contains_cons, List.contains_nil, Bool.or_false, Bool.or_assoc]

/-- how long a word is; none: its quotes do not end -/
def wordS (l : List UInt8) : Option Nat :=
  match l with
  | [] => some 0
  | c :: r =>
    if stopB c then some 0
    else if (spanS (c :: r)).1 = 0 then none
    else (wordS (r.drop ((spanS (c :: r)).1 - 1))).map (· + (spanS (c :: r)).1)
termination_by l.length
decreasing_by
  rw [List.length_drop]
  simp
  omega
/-- how long a word or operator is that begins a text -/
def tokS : List UInt8 → Option Nat
  | [] => some 0
  | [c] => if opB c then some 1 else wordS [c]
  | c :: d :: r => if opB c then (if d == c && twiceB c then some 2 else some 1) else wordS (c :: d :: r)
/-- the words and operators of a text -/
def toksS (l : List UInt8) : Option (List (List UInt8)) :=
  match _h : l.dropWhile blankB with
  | [] => some []
  | c :: r => match tokS (c :: r) with
    | none => none
    | some n => (toksS (r.drop (n - 1))).map ((c :: r).take n :: ·)
termination_by l.length
decreasing_by
  have h1 := (List.dropWhile_suffix (l := l) blankB).length_le
  rw [_h] at h1
  rw [List.length_drop]
  simp at h1 ⊢
  omega

theorem wordS_nil : wordS [] = some 0 := by rw [wordS]
theorem wordS_stop (c : UInt8) (r : List UInt8) (h : stopB c = true) : wordS (c :: r) = some 0 := by rw [wordS, if_pos h]
theorem wordS_open (c : UInt8) (r : List UInt8) (h : stopB c = false) (h2 : (spanS (c :: r)).1 = 0) : wordS (c :: r) = none := by
  rw [wordS, if_neg (by rw [h]; simp), if_pos h2]
theorem wordS_step (c : UInt8) (r : List UInt8) (h : stopB c = false) (h2 : (spanS (c :: r)).1 ≠ 0) : wordS (c :: r) = (wordS ((c :: r).drop (spanS (c :: r)).1)).map (· + (spanS (c :: r)).1) := by
  rw [wordS, if_neg (by rw [h]; simp), if_neg h2]
  have : (c :: r).drop (spanS (c :: r)).1 = r.drop ((spanS (c :: r)).1 - 1) := by
    obtain ⟨k, hk⟩ : ∃ k, (spanS (c :: r)).1 = k + 1 := ⟨(spanS (c :: r)).1 - 1, by omega⟩
    rw [hk]
    rfl
  rw [this]
theorem wordS_le : ∀ (n : Nat) (l : List UInt8) (k : Nat), l.length ≤ n → wordS l = some k → k ≤ l.length
  | 0, l, k, hl, h => by
    obtain rfl : l = [] := List.eq_nil_of_length_eq_zero (by omega)
    rw [wordS_nil] at h
    cases h; simp
  | n + 1, [], k, hl, h => by rw [wordS_nil] at h; cases h; simp
  | n + 1, c :: r, k, hl, h => by
    cases hs : stopB c with
    | true => rw [wordS_stop c r hs] at h; cases h; simp
    | false =>
      by_cases h2 : (spanS (c :: r)).1 = 0
      · rw [wordS_open c r hs h2] at h; cases h
      · rw [wordS_step c r hs h2] at h
        obtain ⟨k', hk', rfl⟩ := Option.map_eq_some_iff.1 h
        have := wordS_le n _ _ (by rw [List.length_drop]; simp at hl ⊢; omega) hk'
        have := (spanS_le (c :: r)).1
        rw [List.length_drop] at *
        omega
theorem tokS_le (l : List UInt8) (k : Nat) (h : tokS l = some k) : k ≤ l.length := by
  match l, h with
  | [], h => simp [tokS] at h; omega
  | [c], h =>
    simp only [tokS] at h
    split at h
    · cases h; simp
    · exact wordS_le _ _ _ (Nat.le_refl _) h
  | c :: d :: r, h =>
    simp only [tokS] at h
    split at h
    · split at h <;> (cases h; simp)
    · exact wordS_le _ _ _ (Nat.le_refl _) h
theorem tokS_pos (c : UInt8) (r : List UInt8) (k : Nat) (hb : blankB c = false) (h : tokS (c :: r) = some k) : 1 ≤ k := by
  have hw : ∀ r k, opB c = false → wordS (c :: r) = some k → 1 ≤ k := by
    intro r k ho h
    have hs : stopB c = false := by rw [stopB_or, hb, ho]; rfl
    by_cases h2 : (spanS (c :: r)).1 = 0
    · rw [wordS_open c r hs h2] at h; cases h
    · rw [wordS_step c r hs h2] at h
      obtain ⟨k', hk', rfl⟩ := Option.map_eq_some_iff.1 h
      omega
  cases r with
  | nil =>
    simp only [tokS] at h
    split at h
    · cases h; simp
    · exact hw _ _ (by simpa using ‹¬ opB c = true›) h
  | cons d r =>
    simp only [tokS] at h
    split at h
    · split at h <;> (cases h; simp)
    · exact hw _ _ (by simpa using ‹¬ opB c = true›) h
theorem toksS_none (l : List UInt8) (h : l.dropWhile blankB = []) : toksS l = some [] := by
  rw [toksS]
  split
  · rfl
  · rename_i c r e
    rw [h] at e
    cases e
theorem toksS_cons (l : List UInt8) (c : UInt8) (r : List UInt8) (h : l.dropWhile blankB = c :: r) :
    toksS l = match tokS (c :: r) with | none => none | some n => (toksS ((c :: r).drop n)).map ((c :: r).take n :: ·) := by
  have hb : blankB c = false := by
    have := List.head?_dropWhile_not (p := blankB) (l := l)
    rw [h] at this
    simpa using this
  rw [toksS]
  split
  · rename_i e
    rw [h] at e
    cases e
  · rename_i c' r' e
    rw [h] at e
    cases e
    cases ht : tokS (c :: r) with
    | none => rfl
    | some n =>
      have := tokS_pos c r n hb ht
      obtain ⟨k, rfl⟩ : ∃ k, n = k + 1 := ⟨n - 1, by omega⟩
      rfl
end Go.Proofs.YtmagggflamdahaaGreatDoor

namespace Go.Proofs.YtmagggflamdahaaGreatDoor
open Go.RowKit

theorem ops_any (c : UInt8) : ∃ n : Int, Hid (-1 ≤ n ∧ n < 100) ∧ (decide (0 ≤ n)) = opB c ∧ ∀ W, Calls Tryz.prog 67 #[.string ⟨#[59, 38, 124, 60, 62]⟩, .int .u8 (c.toNat : Int)] W fun e w' => e = .returned (.int .i64 n) ∧ W = w' := by
  refine ⟨Lib.indexByte [59, 38, 124, 60, 62] c, Lib.hid ?_, ?_, fun W => index_any ⟨#[59, 38, 124, 60, 62]⟩ c W⟩
  · have := indexByte_le [59, 38, 124, 60, 62] c
    simp at this
    omega
  · rw [Bool.eq_iff_iff, decide_eq_true_iff]
    exact index_in _ c

set_option maxHeartbeats 1000000 in
set_option maxRecDepth 100000 in
theorem isOp_any (s : ByteArray) (h0 : 0 < s.size) (w : World) :
    Calls Tryz.prog 45 #[.string s] w fun e w' => e = .returned (.bool (opB (s.data.toList.getD 0 0))) ∧ w = w' := by
  obtain ⟨n, hn, hd, hI⟩ := ops_any (s[0]'h0)
  have hb := byte_at s 0 h0
  rw [← hb]
  generalize opB (s[0]'h0) = b at hd
  have HI := Lib.hid hI
  have HD := Lib.hid hd
  clear hI hb hd
  go_enter Tryz.func45, Tryz.ntmps45
  go_wp2_with (go_at_call 67; refine (HI.out _).mono ?_; rintro e w' ⟨rfl, rfl⟩)
  go_ret
  exact ⟨by rw [← HD.out]; rfl, rfl⟩

/-- what token says of a length -/
def tokV (s : ByteArray) : Value := match tokS s.data.toList with
  | none => .tuple #[.string ⟨#[]⟩, .bool false]
  | some n => .tuple #[.string (s.extract 0 n), .bool true]

/-- the walk through a word, at place i -/
def WdR (l : List UInt8) (i : Nat) : Prop := wordS l = (wordS (l.drop i)).map (· + i)

set_option maxHeartbeats 2000000 in
set_option maxRecDepth 100000 in
theorem token_any (s : ByteArray) (hs : s.size ≤ 140737488351232) (h0 : 0 < s.size) (w : World) :
    Calls Tryz.prog 66 #[.string s] w fun e w' => e = .returned (tokV s) ∧ Below w.heap.size w w' := by
  have hl : s.data.toList.length = s.size := by simp
  obtain ⟨c, r, hcr⟩ : ∃ c r, s.data.toList = c :: r := by
    cases h : s.data.toList with
    | nil => rw [h] at hl; simp at hl; omega
    | cons c r => exact ⟨c, r, rfl⟩
  have hc : s[0]'h0 = c := by rw [byte_at, hcr]; rfl
  obtain ⟨n, hn, hd, hI⟩ := ops_any (s[0]'h0)
  have HI := Lib.hid hI
  rw [hc] at hd
  clear hI
  have hrl : r.length + 1 = s.size := by rw [← hl, hcr]; rfl
  by_cases hop : opB c = true
  · rw [hop] at hd
    have hd2 : 0 ≤ n := by simpa using hd
    have HN := Lib.hid hn
    clear hd
    by_cases h1 : 1 < s.size
    · have h1i : (1 : Int) < (s.size : Int) := by omega
      have hd1 := byte_at s 1 h1
      obtain ⟨d, r2, rfl⟩ : ∃ d r2, r = d :: r2 := by
        cases r with
        | nil => simp at hrl; omega
        | cons d r2 => exact ⟨d, r2, rfl⟩
      rw [hcr] at hd1
      replace hd1 : s[1]'h1 = d := hd1
      by_cases hdc : d = c
      · have he : (((s[1]'h1).toNat : Int) == ((s[0]'h0).toNat : Int)) = true := by rw [hd1, hc, hdc]; simp
        obtain ⟨m, hm1, hm2, hIm⟩ : ∃ m : Int, Hid (-1 ≤ m ∧ m < 100) ∧ (decide (0 ≤ m)) = twiceB c ∧ ∀ W, Calls Tryz.prog 67 #[.string ⟨#[38, 124, 62]⟩, .int .u8 ((s[0]'h0).toNat : Int)] W fun e w' => e = .returned (.int .i64 m) ∧ W = w' := by
          rw [hc]
          refine ⟨Lib.indexByte [38, 124, 62] c, Lib.hid ?_, ?_, fun W => index_any ⟨#[38, 124, 62]⟩ c W⟩
          · have := indexByte_le [38, 124, 62] c
            simp at this
            omega
          · rw [Bool.eq_iff_iff, decide_eq_true_iff]
            exact index_in _ c
        have HIm := Lib.hid hIm
        cases htw : twiceB c with
        | true =>
          have hT : Hid (tokV s = .tuple #[.string (s.extract 0 2), .bool true]) := Lib.hid (by
            unfold tokV
            rw [hcr]
            simp only [tokS]
            rw [if_pos hop, hdc, htw]
            simp)
          have hm3 : 0 ≤ m := by rw [htw] at hm2; simpa using hm2
          clear hm2 hIm hd1 hc hcr hop hdc htw hl hrl
          go_enter Tryz.func66, Tryz.ntmps66
          go_wp2_with (go_at_call 67; refine (HI.out _).mono ?_; rintro e w' ⟨rfl, rfl⟩)
          go_quiet (exact Calls.quiet_of_same ((HIm.out _).mono fun _ _ ⟨h, k⟩ => ⟨h, k.symm⟩))
          go_wp2
          go_ret2
          exact ⟨by rw [hT.out]; rfl, belowN _ _⟩
        | false =>
          have hT : Hid (tokV s = .tuple #[.string (s.extract 0 1), .bool true]) := Lib.hid (by
            unfold tokV
            rw [hcr]
            simp only [tokS]
            rw [if_pos hop, hdc, htw]
            simp)
          have hm3 : m < 0 := by rw [htw] at hm2; simpa using hm2
          clear hm2 hIm hd1 hc hcr hop hdc htw hl hrl
          go_enter Tryz.func66, Tryz.ntmps66
          go_wp2_with (go_at_call 67; refine (HI.out _).mono ?_; rintro e w' ⟨rfl, rfl⟩)
          go_quiet (exact Calls.quiet_of_same ((HIm.out _).mono fun _ _ ⟨h, k⟩ => ⟨h, k.symm⟩))
          go_wp2
          go_ret2
          exact ⟨by rw [hT.out]; rfl, belowN _ _⟩
      · have he : (((s[1]'h1).toNat : Int) == ((s[0]'h0).toNat : Int)) = false := by
          rw [hd1, hc, beq_eq_false_iff_ne]
          intro e
          exact hdc (UInt8.toNat_inj.1 (Int.ofNat_inj.1 e))
        have hT : Hid (tokV s = .tuple #[.string (s.extract 0 1), .bool true]) := Lib.hid (by
          unfold tokV
          rw [hcr]
          simp only [tokS]
          rw [if_pos hop, if_neg (by simp [hdc])])
        clear hd1 hc hcr hop hdc hl hrl
        go_enter Tryz.func66, Tryz.ntmps66
        go_wp2_with (go_at_call 67; refine (HI.out _).mono ?_; rintro e w' ⟨rfl, rfl⟩)
        go_quiet (fail)
        go_wp2
        go_ret2
        exact ⟨by rw [hT.out]; rfl, belowN _ _⟩
    · have h1i : decide ((1 : Int) < (s.size : Int)) = false := decide_eq_false (by omega)
      have hT : Hid (tokV s = .tuple #[.string (s.extract 0 1), .bool true]) := Lib.hid (by
        unfold tokV
        rw [hcr, List.eq_nil_of_length_eq_zero (l := r) (by omega)]
        simp only [tokS]
        rw [if_pos hop])
      clear hc hcr hop hl hrl
      go_enter Tryz.func66, Tryz.ntmps66
      go_wp2_with (go_at_call 67; refine (HI.out _).mono ?_; rintro e w' ⟨rfl, rfl⟩)
      go_quiet (fail)
      go_wp2
      go_ret2
      exact ⟨by rw [hT.out]; rfl, belowN _ _⟩
  · replace hop : opB c = false := by simpa using hop
    have hd2 : n < 0 := by rw [hop] at hd; simpa using hd
    have hT : Hid (tokV s = match wordS s.data.toList with | none => .tuple #[.string ⟨#[]⟩, .bool false] | some n => .tuple #[.string (s.extract 0 n), .bool true]) := Lib.hid (by
      unfold tokV
      have : tokS s.data.toList = wordS s.data.toList := by
        rw [hcr]
        cases r with
        | nil => simp only [tokS]; rw [if_neg (by rw [hop]; simp)]
        | cons d r => simp only [tokS]; rw [if_neg (by rw [hop]; simp)]
      rw [this])
    have HN := Lib.hid hn
    clear hd hc hcr hop hrl hn
    go_enter Tryz.func66, Tryz.ntmps66
    go_wp2_with (go_at_call 67; refine (HI.out _).mono ?_; rintro e w' ⟨rfl, rfl⟩)
    clear HI
    go_loopw [4] (fun v4 wr => ∃ i : Nat, v4 = .int .i64 i ∧ i ≤ s.size ∧ Hid (WdR s.data.toList i) ∧ w = wr) (fun v4 _ => s.size + 2 - (intOf v4).toNat)
    case atStart => exact ⟨0, rfl, by omega, Lib.hid (by unfold WdR; cases h : wordS s.data.toList <;> simp [h]), rfl⟩
    case round =>
      obtain ⟨i, rfl, hi, HW, rfl⟩ := hrel
      by_cases hlt : i < s.size
      · have hci := byte_at s i hlt
        have hdr : s.data.toList.drop i = s[i]'hlt :: s.data.toList.drop (i + 1) := by
          rw [List.drop_eq_getElem_cons (by omega)]
          rfl
        obtain ⟨m, hm2, hIm⟩ : ∃ m : Int, (decide (m < 0)) = !stopB (s[i]'hlt) ∧ ∀ W, Calls Tryz.prog 67 #[.string ⟨#[32, 9, 59, 38, 124, 60, 62]⟩, .int .u8 ((s[i]'hlt).toNat : Int)] W fun e w' => e = .returned (.int .i64 m) ∧ W = w' := by
          refine ⟨Lib.indexByte [32, 9, 59, 38, 124, 60, 62] (s[i]'hlt), ?_, fun W => index_any ⟨#[32, 9, 59, 38, 124, 60, 62]⟩ (s[i]'hlt) W⟩
          rw [Bool.eq_iff_iff, decide_eq_true_iff]
          have := index_in [32, 9, 59, 38, 124, 60, 62] (s[i]'hlt)
          unfold stopB
          simp only [Bool.not_eq_true']
          rw [← Bool.not_eq_true, ← this]
          omega
        have HIm := Lib.hid hIm
        clear hIm
        cases hst : stopB (s[i]'hlt) with
        | true =>
          have hm3 : ¬ m < 0 := by rw [hst] at hm2; simpa using hm2
          have hF : Hid (tokV s = .tuple #[.string (s.extract 0 i), .bool true]) := Lib.hid (by
            rw [hT.out, HW.out, hdr, wordS_stop _ _ hst]
            simp)
          clear hm2 hst hdr hci
          go_wp2_with (go_at_call 67; refine (HIm.out _).mono ?_; rintro e w' ⟨rfl, rfl⟩)
          go_ret2
          exact ⟨by rw [hF.out]; rfl, Below.refl _ _⟩
        | false =>
          have hm3 : m < 0 := by rw [hst] at hm2; simpa using hm2
          have hsz : (s.extract i s.size).size = s.size - i := by simp [ByteArray.size_extract]
          have HQ := Lib.hid (fun W => quoted_any (s.extract i s.size) (by rw [hsz]; omega) (by rw [hsz]; omega) W)
          have htl := tail_list s i
          have hle := spanS_le (s.extract i s.size).data.toList
          rw [htl] at HQ hle
          have hO := wordS_open _ (s.data.toList.drop (i + 1)) hst
          have hN := wordS_step _ (s.data.toList.drop (i + 1)) hst
          rw [← hdr] at hO hN
          generalize (spanS (s.data.toList.drop i)).1 = k at HQ hO hN hle
          have hk : k ≤ s.size - i := by have := hle.1; rw [List.length_drop] at this; omega
          clear hm2 hst hdr hci htl hle
          by_cases hk0 : k = 0
          · subst hk0
            have hF : Hid (tokV s = .tuple #[.string ⟨#[]⟩, .bool false]) := Lib.hid (by
              rw [hT.out, HW.out, hO rfl]
              rfl)
            clear hO hN
            go_wp2_with fail
            go_at_call 67
            refine (HIm.out _).mono ?_
            rintro e w' ⟨rfl, rfl⟩
            go_wp2_with fail
            go_at_call 98
            refine (HQ.out _).mono ?_
            rintro e w' ⟨rfl, rfl⟩
            go_wp2
            go_ret2
            exact ⟨by rw [hF.out]; rfl, Below.refl _ _⟩
          · have HN2 : Hid (WdR s.data.toList (i + k)) := Lib.hid (by
              unfold WdR
              rw [HW.out, hN hk0, List.drop_drop, Option.map_map]
              congr 1
              funext x
              simp
              omega)
            clear hO hN
            go_wp2_with fail
            go_at_call 67
            refine (HIm.out _).mono ?_
            rintro e w' ⟨rfl, rfl⟩
            go_wp2_with fail
            go_at_call 98
            refine (HQ.out _).mono ?_
            rintro e w' ⟨rfl, rfl⟩
            go_wp2
            go_roundw
            case rel => exact ⟨i + k, by go_num, by omega, HN2, trivial⟩
            case measure => simp [intOf]; omega
      · have hF : Hid (tokV s = .tuple #[.string (s.extract 0 i), .bool true]) := Lib.hid (by
          rw [hT.out, HW.out, List.drop_of_length_le (by omega), wordS_nil]
          simp)
        go_wp2
        go_ret2
        exact ⟨by rw [hF.out]; rfl, Below.refl _ _⟩
end Go.Proofs.YtmagggflamdahaaGreatDoor

namespace Go.Proofs.YtmagggflamdahaaGreatDoor
open Go.RowKit

/-- a text as a value -/
def strV (l : List UInt8) : Value := .string ⟨l.toArray⟩

theorem strInfo : (Tryz.prog.info? 9).map (fun i => (i.zero, i.size, i.bytes)) = some (some (.string .empty), 1, 16) := by kernel_rfl

theorem trim_any (s : ByteArray) (w : World) : Calls Tryz.prog 65 #[.string s, .string ⟨#[32, 9]⟩] w fun e w' => e = .returned (.string ⟨(s.data.toList.dropWhile blankB).toArray⟩) ∧ Below w.heap.size w w' := by
  refine (Any.strings_TrimLeft_ascii Tryz.lays161 (fun w => (Tryz.zeroValue151 w).trans (by kernel_rfl)) (by kernel_rfl) s ⟨#[32, 9]⟩ w (by decide) ?_)
  intro j b hj
  match j, hj with
  | 0, hj => cases hj; decide
  | 1, hj => cases hj; decide

/-- what tokens hands back -/
def ToksQ (B : Nat) (l : List UInt8) (v : Value) (k : Int) (w : World) : Prop := match toksS l with
  | none => v = .slice none 0 0 ∧ k = 4
  | some L => k = 0 ∧ L.length ≤ l.length ∧ w.ownsRowF B 9 1 v L.length (L.map strV)

theorem drop_len (l : List UInt8) : (l.dropWhile blankB).length ≤ l.length := (List.dropWhile_suffix (l := l) blankB).length_le

set_option maxHeartbeats 2000000 in
set_option maxRecDepth 100000 in
theorem tokens_any (s : ByteArray) (hs : s.size ≤ 1048576) (w : World) :
    Calls Tryz.prog 42 #[.string s] w fun e w' => ∃ v k, e = .returned (.tuple #[v, .int .i64 k]) ∧ ToksQ w.heap.size s.data.toList v k w' ∧ Below w.heap.size w w' := by
  obtain ⟨i0, hi, hz0, hz1, hz2⟩ := info_parts strInfo
  have hl : s.data.toList.length = s.size := by simp
  have HL := Lib.hid hl
  clear hl
  go_enter Tryz.func42, Tryz.ntmps42
  go_wp2
  go_loopw [0, 4] (fun v0 v4 wr => ∃ (t : ByteArray) (acc : List (List UInt8)) (v : Value), v0 = .string t ∧ v = v4 ∧ Hid (acc.length + t.size ≤ s.size) ∧ Hid (toksS s.data.toList = (toksS t.data.toList).map (acc ++ ·)) ∧ Hid (wr.ownsRowF w.heap.size 9 1 v4 acc.length (acc.map strV)) ∧ Hid (Below w.heap.size w wr)) (fun v0 _ _ => match v0 with | .string t => t.size | _ => 0)
  case atStart => exact ⟨s, [], _, rfl, rfl, Lib.hid (by simp), Lib.hid (by cases toksS s.data.toList <;> simp), Lib.hid (World.ownsRowF_nil _ _ _ _), Lib.hid (Below.refl _ _)⟩
  case round =>
    obtain ⟨t, acc, v4, rfl, rfl, HA, HT, HO, HB⟩ := hrel
    go_wp2_with fail
    go_at_call 65
    refine (trim_any t _).mono ?_
    rintro e w1 ⟨rfl, hb1⟩
    have HB1 := Lib.hid (HB.out.trans (hb1.mono HB.out.size))
    have HO1 : Hid (w1.ownsRowF w.heap.size 9 1 v4 acc.length (acc.map strV)) := Lib.hid (ownsRowF_heap HO.out (fun k hk => hb1.block k (HO.out.lt k hk).2))
    clear hb1 HO HB
    have htl : t.data.toList.length = t.size := by simp
    cases hd : t.data.toList.dropWhile blankB with
    | nil =>
      have hQ : Hid (ToksQ w.heap.size s.data.toList v4 0 w1) := Lib.hid (by
        unfold ToksQ
        rw [HT.out, toksS_none _ hd]
        simp only [Option.map_some, List.append_nil]
        refine ⟨trivial, ?_, HO1.out⟩
        rw [HL.out]
        have := HA.out
        omega)
      clear hd htl
      go_wp2
      go_ret2
      exact ⟨_, _, rfl, hQ.out, HB1.out⟩
    | cons c r =>
      have hle : (c :: r).length ≤ t.size := by rw [← hd, ← htl]; exact drop_len _
      have hts := toksS_cons _ c r hd
      obtain ⟨u, hu⟩ : ∃ u : ByteArray, u = ⟨(c :: r).toArray⟩ := ⟨_, rfl⟩
      have hul : u.data.toList = c :: r := by rw [hu]
      have hus : u.size = (c :: r).length := by rw [← hul]; simp
      rw [← hu]
      have hpos : 0 < u.size := by rw [hus]; simp
      have hne : u.toList.isEmpty = false := emp_false (by omega)
      have hu2 : u.size ≤ t.size := by omega
      have HA2 := Lib.hid (show acc.length + u.size ≤ s.size by have := HA.out; omega)
      have HK := Lib.hid (fun w => token_any u (by have := HA.out; omega) hpos w)
      have hbl : blankB c = false := by
        have := List.head?_dropWhile_not (p := blankB) (l := t.data.toList)
        rw [hd] at this
        simpa using this
      unfold tokV at HK
      rw [hul] at HK
      cases htok : tokS (c :: r) with
      | none =>
        rw [htok] at HK hts
        have hQ : ∀ w', Hid (ToksQ w.heap.size s.data.toList (.slice none 0 0) 4 w') := fun w' => Lib.hid (by
          unfold ToksQ
          rw [HT.out, hts]
          exact ⟨rfl, rfl⟩)
        clear hd htl hle hts hu hul hus htok hbl hu2
        go_wp2_with fail
        go_at_call 66
        refine (HK.out _).mono ?_
        rintro e w2 ⟨rfl, hb2⟩
        have HB2 := Lib.hid (HB1.out.trans (hb2.mono HB1.out.size))
        clear hb2
        simp only
        go_wp2
        go_ret2
        exact ⟨_, _, rfl, (hQ _).out, HB2.out⟩
      | some n =>
        rw [htok] at HK hts
        have hn1 := tokS_pos c r n hbl htok
        have hn2 : n ≤ u.size := by rw [hus]; exact tokS_le _ _ htok
        have hsz : (u.extract 0 n).size = n := by simp [ByteArray.size_extract]; omega
        have hT : Hid (toksS s.data.toList = (toksS (u.extract n u.size).data.toList).map ((acc ++ [(c :: r).take n]) ++ ·)) := Lib.hid (by
          rw [HT.out, hts, tail_list, hul]
          simp only [Option.map_map]
          congr 1
          funext x
          simp)
        have hV : Hid (Value.string (u.extract 0 n) = strV ((c :: r).take n)) := Lib.hid (by
          unfold strV
          congr 1
          exact ext_str u 0 n _ (by rw [hul]; simp))
        have hA3 : Hid ((acc ++ [(c :: r).take n]).length + (u.extract n u.size).size ≤ s.size) := Lib.hid (by
          have := HA2.out
          rw [ByteArray.size_extract]
          simp
          omega)
        have HMS : Hid ((u.extract n u.size).size < t.size) := Lib.hid (by
          rw [ByteArray.size_extract]; omega)
        generalize (c :: r).take n = x at hT hV hA3
        clear hd htl hle hts hu hul hus htok hbl hu2
        go_wp2_with fail
        go_at_call 66
        refine (HK.out _).mono ?_
        rintro e w2 ⟨rfl, hb2⟩
        have HB2 := Lib.hid (HB1.out.trans (hb2.mono HB1.out.size))
        have HO2 : Hid (w2.ownsRowF w.heap.size 9 1 v4 acc.length (acc.map strV)) := Lib.hid (ownsRowF_heap HO1.out (fun k hk => hb2.block k (HO1.out.lt k hk).2))
        clear hb2
        simp only
        go_wp2_with (at_builtin; refine wpList_append_ownF _ rfl _ _ 29 rfl w.heap.size 9 i0 (.string .empty) 1 16 Tryz.underlying29 hi hz0 hz1 hz2 rfl (by decide) _ _ _ rfl (HO2.out.alloc _) ⟨w2.heap.size, 0, none⟩ 1 1 [.string (u.extract 0 n)] rfl rfl ?c1 ?c2 ?c3 ?c4 ?c5 ?_)
        case c1 =>
          intro j y hj
          match j, hj with
          | 0, hj => simp at hj; subst hj; simp [Addr.add]
        case c2 => intro y hy; simp at hy; subst hy; rfl
        case c3 => have := HA2.out; unfold maxLen; omega
        case c4 => have := HA2.out; omega
        case c5 => have := HB2.out.size; simp; omega
        intro v' w3 hown' hgrow _
        have HB3 := Lib.hid ((HB2.out.alloc HB2.out.size (.cells #[.string (u.extract 0 n)] 9)).grown hgrow (by have := HB2.out.size; simp; omega) (fun k hk => (HO2.out.lt k hk).1))
        have HO3 : Hid (w3.ownsRowF w.heap.size 9 1 v' (acc ++ [x]).length ((acc ++ [x]).map strV)) := Lib.hid (by
          rw [List.length_append, List.map_append, List.map_singleton, ← hV.out]
          exact hown')
        clear hown' hgrow
        go_wp2
        go_roundw
        case rel => exact ⟨_, _, _, rfl, rfl, hA3, hT, HO3, HB3⟩
        case measure => have := HMS.out; simp at this ⊢; omega
end Go.Proofs.YtmagggflamdahaaGreatDoor

namespace Go.Proofs.YtmagggflamdahaaGreatDoor
open Go.RowKit

/-- the slice v: n elements of size cells each, that hold xs; its row is one of K's -/
def SlAt (K : Nat → Prop) (w : World) (e : TypeId) (size : Nat) (v : Value) (n : Nat) (xs : List Value) : Prop :=
  xs.length = n * size ∧ ((n = 0 ∧ ∃ a c, v = .slice a 0 c) ∨
    ∃ g o cap cur fz, v = .slice (some ⟨g, o, none⟩) n cap ∧ n ≤ cap ∧ K g ∧ w.heap[g]? = some (.cells cur e fz) ∧ (cur.toList.drop o).take (n * size) = xs)
theorem SlAt.keep {K : Nat → Prop} {w w' : World} {e : TypeId} {size : Nat} {v : Value} {n : Nat} {xs : List Value} (h : SlAt K w e size v n xs) (hk : ∀ k, K k → k < w.heap.size → w'.heap[k]? = w.heap[k]?) : SlAt K w' e size v n xs := by
  refine ⟨h.1, h.2.imp id ?_⟩
  rintro ⟨g, o, cap, cur, fz, a, b, c, d, r⟩
  exact ⟨g, o, cap, cur, fz, a, b, c, (hk g c (Array.getElem?_eq_some_iff.1 d).1).trans d, r⟩
theorem SlAt.mono {K K' : Nat → Prop} {w : World} {e : TypeId} {size : Nat} {v : Value} {n : Nat} {xs : List Value} (h : SlAt K w e size v n xs) (hk : ∀ k, K k → k < w.heap.size → K' k) : SlAt K' w e size v n xs := by
  refine ⟨h.1, h.2.imp id ?_⟩
  rintro ⟨g, o, cap, cur, fz, a, b, c, d, r⟩
  exact ⟨g, o, cap, cur, fz, a, b, hk g c (Array.getElem?_eq_some_iff.1 d).1, d, r⟩
theorem SlAt.of_own {K : Nat → Prop} {B : Nat} {w : World} {e : TypeId} {size : Nat} {v : Value} {n : Nat} {xs : List Value} (h : w.ownsRowF B e size v n xs) (hk : ∀ k, v.ownBlock = some k → K k) : SlAt K w e size v n xs := by
  refine ⟨h.1, ?_⟩
  rcases h.2 with ⟨rfl, rfl⟩ | ⟨g, cap, cur, fz, rfl, _, hg, _, hn, _, _, ht⟩
  · exact .inl ⟨rfl, _, _, rfl⟩
  · exact .inr ⟨g, 0, cap, cur, fz, rfl, hn, hk g rfl, hg, by simpa using ht⟩
theorem SlAt.zero (K : Nat → Prop) (w : World) (e : TypeId) (size : Nat) (a : Option Addr) (c : Nat) : SlAt K w e size (.slice a 0 c) 0 [] := ⟨by simp, .inl ⟨rfl, _, _, rfl⟩⟩
/-- of a slice that has an element -/
theorem SlAt.ne0 {K : Nat → Prop} {w : World} {e : TypeId} {size : Nat} {v : Value} {n : Nat} {xs : List Value} (h : SlAt K w e size v n xs) (hn : n ≠ 0) :
    ∃ g o cap, v = .slice (some ⟨g, o, none⟩) n cap ∧ n ≤ cap ∧ K g ∧ g < w.heap.size ∧ (∀ j x, xs[j]? = some x → w.cell? ⟨g, o + j, none⟩ = some x) ∧
      ∀ a c, (n ≠ 1 → a = some ⟨g, o + size, none⟩) → n - 1 ≤ c → SlAt K w e size (.slice a (n - 1) c) (n - 1) (xs.drop size) := by
  obtain ⟨hx, ⟨h0, _⟩ | ⟨g, o, cap, cur, fz, rfl, hc, hK, hg, ht⟩⟩ := h
  · exact absurd h0 hn
  · refine ⟨g, o, cap, rfl, hc, hK, (Array.getElem?_eq_some_iff.1 hg).1, ?_, ?_⟩
    · intro j x hj
      rw [Lib.cell_of_heap hg]
      have := hj
      rw [← ht, List.getElem?_take] at this
      split at this
      · rw [List.getElem?_drop] at this
        simpa using this
      · cases this
    · intro a c ha hc'
      refine ⟨by rw [List.length_drop, hx, ← Nat.sub_one_mul], ?_⟩
      by_cases h1 : n = 1
      · exact .inl ⟨by omega, a, c, by rw [h1]⟩
      · refine .inr ⟨g, o + size, c, cur, fz, by rw [ha h1], hc', hK, hg, ?_⟩
        rw [← ht, List.drop_take, List.drop_drop, ← Nat.sub_one_mul]
theorem SlAt.isSlice {K : Nat → Prop} {w : World} {e : TypeId} {size : Nat} {v : Value} {n : Nat} {xs : List Value} (h : SlAt K w e size v n xs) : ∃ a c, v = .slice a n c := by
  obtain ⟨hx, ⟨rfl, a, c, rfl⟩ | ⟨g, o, cap, cur, fz, rfl, hc, hK, hg, ht⟩⟩ := h
  · exact ⟨_, _, rfl⟩
  · exact ⟨_, _, rfl⟩

/-- a slice of texts -/
def StrsAt (K : Nat → Prop) (w : World) (v : Value) (l : List (List UInt8)) : Prop := SlAt K w 9 1 v l.length (l.map strV)
theorem StrsAt.cons {K : Nat → Prop} {w : World} {v : Value} {x : List UInt8} {l : List (List UInt8)} (h : StrsAt K w v (x :: l)) :
    ∃ g o cap, v = .slice (some ⟨g, o, none⟩) (l.length + 1) cap ∧ l.length + 1 ≤ cap ∧ K g ∧ g < w.heap.size ∧ w.cell? ⟨g, o, none⟩ = some (.string ⟨x.toArray⟩) ∧
      (∀ y r, l = y :: r → w.cell? ⟨g, o + 1, none⟩ = some (.string ⟨y.toArray⟩)) ∧
      ∀ a c, (l ≠ [] → a = some ⟨g, o + 1, none⟩) → l.length ≤ c → StrsAt K w (.slice a l.length c) l := by
  obtain ⟨g, o, cap, hv, hc, hK, hg, hx, ht⟩ := SlAt.ne0 h (by simp)
  refine ⟨g, o, cap, hv, by simpa using hc, hK, hg, hx 0 _ rfl, ?_, ?_⟩
  · rintro y r rfl
    exact hx 1 _ rfl
  · intro a c ha hc'
    have := ht a c (fun h => ha (by rintro rfl; simp at h)) (by simpa using hc')
    simpa [StrsAt] using this

/-- a pointer to a text, or nil -/
def PtrAt (K : Nat → Prop) (w : World) (v : Value) : Option (List UInt8) → Prop
  | none => v = .pointer none
  | some t => ∃ b fr, v = .pointer (some ⟨b, 0, none⟩) ∧ K b ∧ w.heap[b]? = some (.cells #[strV t] 9 fr)
theorem PtrAt.keep {K : Nat → Prop} {w w' : World} {v : Value} {x : Option (List UInt8)} (h : PtrAt K w v x) (hk : ∀ k, K k → k < w.heap.size → w'.heap[k]? = w.heap[k]?) : PtrAt K w' v x := by
  cases x with
  | none => exact h
  | some t =>
    obtain ⟨b, fr, rfl, hK, hb⟩ := h
    exact ⟨b, fr, rfl, hK, (hk b hK (Array.getElem?_eq_some_iff.1 hb).1).trans hb⟩
theorem PtrAt.mono {K K' : Nat → Prop} {w : World} {v : Value} {x : Option (List UInt8)} (h : PtrAt K w v x) (hk : ∀ k, K k → k < w.heap.size → K' k) : PtrAt K' w v x := by
  cases x with
  | none => exact h
  | some t =>
    obtain ⟨b, fr, rfl, hK, hb⟩ := h
    exact ⟨b, fr, rfl, hk b hK (Array.getElem?_eq_some_iff.1 hb).1, hb⟩

/-- a command: what stands ahead of it, its words, where it reads and writes, whether it adds -/
structure PCmd where
  op : List UInt8
  words : List (List UInt8)
  inn : Option (List UInt8)
  out : Option (List UInt8)
  add : Bool
/-- .. of which nothing stands there yet -/
def PCmd.fresh (op : List UInt8) : PCmd := ⟨op, [], none, none, false⟩
def PCmd.any (c : PCmd) : Bool := !c.words.isEmpty || c.inn.isSome || c.out.isSome

def CmdAt (K : Nat → Prop) (w : World) (xs : List Value) (c : PCmd) : Prop :=
  ∃ wv iv ov, xs = [strV c.op, wv, iv, ov, .bool c.add] ∧ StrsAt K w wv c.words ∧ PtrAt K w iv c.inn ∧ PtrAt K w ov c.out
theorem CmdAt.keep {K : Nat → Prop} {w w' : World} {xs : List Value} {c : PCmd} (h : CmdAt K w xs c) (hk : ∀ k, K k → k < w.heap.size → w'.heap[k]? = w.heap[k]?) : CmdAt K w' xs c := by
  obtain ⟨wv, iv, ov, hx, h1, h2, h3⟩ := h
  exact ⟨wv, iv, ov, hx, SlAt.keep h1 hk, h2.keep hk, h3.keep hk⟩
theorem CmdAt.mono {K K' : Nat → Prop} {w : World} {xs : List Value} {c : PCmd} (h : CmdAt K w xs c) (hk : ∀ k, K k → k < w.heap.size → K' k) : CmdAt K' w xs c := by
  obtain ⟨wv, iv, ov, hx, h1, h2, h3⟩ := h
  exact ⟨wv, iv, ov, hx, SlAt.mono h1 hk, h2.mono hk, h3.mono hk⟩
theorem CmdAt.length {K : Nat → Prop} {w : World} {xs : List Value} {c : PCmd} (h : CmdAt K w xs c) : xs.length = 5 := by
  obtain ⟨wv, iv, ov, rfl, _⟩ := h
  rfl
def CmdsIn (K : Nat → Prop) (w : World) : List Value → List PCmd → Prop
  | xs, [] => xs = []
  | xs, c :: cs => CmdAt K w (xs.take 5) c ∧ CmdsIn K w (xs.drop 5) cs
theorem CmdsIn.keep {K : Nat → Prop} {w w' : World} (hk : ∀ k, K k → k < w.heap.size → w'.heap[k]? = w.heap[k]?) : ∀ {cs : List PCmd} {xs : List Value}, CmdsIn K w xs cs → CmdsIn K w' xs cs
  | [], _, h => h
  | _ :: _, _, h => ⟨h.1.keep hk, CmdsIn.keep hk h.2⟩
theorem CmdsIn.mono {K K' : Nat → Prop} {w : World} (hk : ∀ k, K k → k < w.heap.size → K' k) : ∀ {cs : List PCmd} {xs : List Value}, CmdsIn K w xs cs → CmdsIn K' w xs cs
  | [], _, h => h
  | _ :: _, _, h => ⟨h.1.mono hk, CmdsIn.mono hk h.2⟩
theorem CmdsIn.snoc {K : Nat → Prop} {w : World} {c : PCmd} {ys : List Value} (hc : CmdAt K w ys c) : ∀ {cs : List PCmd} {xs : List Value}, CmdsIn K w xs cs → CmdsIn K w (xs ++ ys) (cs ++ [c])
  | [], xs, h => by
    have : xs = [] := h
    subst this
    have hl := hc.length
    refine ⟨by rw [List.nil_append, List.take_of_length_le (by omega)]; exact hc, ?_⟩
    show ([] ++ ys).drop 5 = []
    rw [List.nil_append, List.drop_of_length_le (by omega)]
  | d :: cs, xs, h => by
    have hl := h.1.length
    rw [List.length_take] at hl
    refine ⟨by rw [List.take_append_of_le_length (by omega)]; exact h.1, ?_⟩
    show CmdsIn K w ((xs ++ ys).drop 5) (cs ++ [c])
    rw [List.drop_append_of_le_length (by omega)]
    exact CmdsIn.snoc hc h.2
/-- a slice of commands -/
def CmdsAt (K : Nat → Prop) (w : World) (v : Value) (cs : List PCmd) : Prop := ∃ xs, SlAt K w 90 5 v cs.length xs ∧ CmdsIn K w xs cs
theorem CmdsAt.keep {K : Nat → Prop} {w w' : World} {v : Value} {cs : List PCmd} (h : CmdsAt K w v cs) (hk : ∀ k, K k → k < w.heap.size → w'.heap[k]? = w.heap[k]?) : CmdsAt K w' v cs := by
  obtain ⟨xs, h1, h2⟩ := h
  exact ⟨xs, h1.keep hk, h2.keep hk⟩
theorem CmdsAt.mono {K K' : Nat → Prop} {w : World} {v : Value} {cs : List PCmd} (h : CmdsAt K w v cs) (hk : ∀ k, K k → k < w.heap.size → K' k) : CmdsAt K' w v cs := by
  obtain ⟨xs, h1, h2⟩ := h
  exact ⟨xs, h1.mono hk, h2.mono hk⟩
end Go.Proofs.YtmagggflamdahaaGreatDoor

namespace Go.Proofs.YtmagggflamdahaaGreatDoor
open Go.RowKit

/-- what a closure of read works on: the commands, the one that is built, whether something is wrong -/
structure RSx (B : Nat) (K : Nat → Prop) (wv iv ov outv : Value) (xs : List Value) (cmds : List PCmd) (c : PCmd) (bad : Bool) (w : World) : Prop where
  hO : w.heap[B]? = some (.cells #[outv] 41 (0, 0))
  hC : w.heap[B + 1]? = some (.cells #[strV c.op, wv, iv, ov, .bool c.add] 90 (0, 0))
  hB : w.heap[B + 2]? = some (.cells #[.int .i64 (if bad then 3 else 0)] 22 (0, 0))
  kr : ∀ k, K k → B + 2 < k ∧ k < w.heap.size
  wo : w.ownsRowF 0 9 1 wv c.words.length (c.words.map strV)
  oo : w.ownsRowF 0 90 5 outv cmds.length xs
  ci : CmdsIn K w xs cmds
  ip : PtrAt K w iv c.inn
  op : PtrAt K w ov c.out
  wn : ∀ k, wv.ownBlock = some k → B + 2 < k ∧ ¬ K k
  on : ∀ k, outv.ownBlock = some k → B + 2 < k ∧ ¬ K k
def RS (B : Nat) (cmds : List PCmd) (c : PCmd) (bad : Bool) (w : World) : Prop := ∃ K wv iv ov outv xs, RSx B K wv iv ov outv xs cmds c bad w

theorem own_slice {w : World} {B : Nat} {e : TypeId} {size : Nat} {v : Value} {n : Nat} {xs : List Value} (h : w.ownsRowF B e size v n xs) : ∃ a c, v = .slice a n c := by
  rcases h.2 with ⟨rfl, rfl⟩ | ⟨g, cap, cur, fz, rfl, _⟩
  · exact ⟨_, _, rfl⟩
  · exact ⟨_, _, rfl⟩
theorem ptr_ptr {K : Nat → Prop} {w : World} {v : Value} {x : Option (List UInt8)} (h : PtrAt K w v x) : ∃ a : Option Addr, v = .pointer a ∧ a.isSome = x.isSome := by
  cases x with
  | none => exact ⟨none, h, rfl⟩
  | some t =>
    obtain ⟨b, fr, rfl, _⟩ := h
    exact ⟨_, rfl, rfl⟩

set_option maxHeartbeats 1000000 in
set_option maxRecDepth 100000 in
theorem some_any (b : Nat) (opv : Value) (a iv ov : Option Addr) (n m : Nat) (add : Value) (w : World) (h : w.heap[b]? = some (.cells #[opv, .slice a n m, .pointer iv, .pointer ov, add] 90 (0, 0))) :
    Calls Tryz.prog 44 #[.pointer (some ⟨b, 0, none⟩)] w fun e w' => e = .returned (.bool (decide (0 < n) || iv.isSome || ov.isSome)) ∧ w = w' := by
  have c1 : w.cell? ⟨b, 1, none⟩ = some (.slice a n m) := by rw [Lib.cell_of_heap h]; rfl
  have c2 : w.cell? ⟨b, 2, none⟩ = some (.pointer iv) := by rw [Lib.cell_of_heap h]; rfl
  have c3 : w.cell? ⟨b, 3, none⟩ = some (.pointer ov) := by rw [Lib.cell_of_heap h]; rfl
  clear h
  by_cases hn : 0 < n
  · have hn1 : (0 : Int) < (n : Int) := by omega
    go_enter Tryz.func44, Tryz.ntmps44
    go_wp2
    go_ret
    exact ⟨by simp [hn], rfl⟩
  · have hn1 : decide ((0 : Int) < (n : Int)) = false := decide_eq_false (by omega)
    cases iv with
    | some p =>
      go_enter Tryz.func44, Tryz.ntmps44
      go_wp2
      go_ret
      exact ⟨by simp, rfl⟩
    | none =>
      cases ov with
      | some p =>
        go_enter Tryz.func44, Tryz.ntmps44
        go_wp2
        go_ret
        exact ⟨by simp, rfl⟩
      | none =>
        go_enter Tryz.func44, Tryz.ntmps44
        go_wp2
        go_ret
        exact ⟨by simp [hn], rfl⟩

theorem own_apart {w : World} {B B' : Nat} {e e' : TypeId} {size size' : Nat} {v v' : Value} {n n' : Nat} {xs xs' : List Value} (h : w.ownsRowF B e size v n xs) (h' : w.ownsRowF B' e' size' v' n' xs') (hne : e ≠ e') (k : Nat) (hk : v.ownBlock = some k) : v'.ownBlock ≠ some k := by
  intro hk'
  rcases h.2 with ⟨rfl, _⟩ | ⟨g, cap, cur, fz, rfl, _, hg, _⟩
  · simp [Value.ownBlock] at hk
  · rcases h'.2 with ⟨rfl, _⟩ | ⟨g', cap', cur', fz', rfl, _, hg', _⟩
    · simp [Value.ownBlock] at hk'
    · simp [Value.ownBlock] at hk hk'
      subst hk
      subst hk'
      rw [hg] at hg'
      simp only [Option.some.injEq, Obj.cells.injEq] at hg'
      exact hne hg'.2.1
theorem own_not {w : World} {B : Nat} {e e' : TypeId} {size : Nat} {v : Value} {n : Nat} {xs : List Value} (h : w.ownsRowF B e size v n xs) {b : Nat} {cs : Array Value} {fr : Nat × Nat} (hb : w.heap[b]? = some (.cells cs e' fr)) (hne : e ≠ e') : v.ownBlock ≠ some b := by
  intro hk
  rcases h.2 with ⟨rfl, _⟩ | ⟨g, cap, cur, fz, rfl, _, hg, _⟩
  · simp [Value.ownBlock] at hk
  · simp [Value.ownBlock] at hk
    subst hk
    rw [hg] at hb
    simp only [Option.some.injEq, Obj.cells.injEq] at hb
    exact hne hb.2.1

section
variable {B : Nat} {K : Nat → Prop} {wv iv ov outv : Value} {xs : List Value} {cmds : List PCmd} {c : PCmd} {bad : Bool} {w : World}
theorem RSx.ltB (h : RSx B K wv iv ov outv xs cmds c bad w) : B + 2 < w.heap.size := (Array.getElem?_eq_some_iff.1 h.hB).1
/-- what is only read stays -/
theorem RSx.ro (h : RSx B K wv iv ov outv xs cmds c bad w) {w' : World} (hk : ∀ k, K k → B + 2 < k → k < w.heap.size → wv.ownBlock ≠ some k → outv.ownBlock ≠ some k → w'.heap[k]? = w.heap[k]?) : CmdsIn K w' xs cmds ∧ PtrAt K w' iv c.inn ∧ PtrAt K w' ov c.out := by
  have hs : ∀ k, K k → k < w.heap.size → w'.heap[k]? = w.heap[k]? := fun k hK hl => hk k hK (h.kr k hK).1 hl (fun e => (h.wn k e).2 hK) (fun e => (h.on k e).2 hK)
  exact ⟨h.ci.keep hs, h.ip.keep hs, h.op.keep hs⟩

/-- something is wrong -/
theorem RSx.wrong (h : RSx B K wv iv ov outv xs cmds c bad w) : RSx B K wv iv ov outv xs cmds c true (w.setCell ⟨B + 2, 0, none⟩ (.int .i64 3)) := by
  have hk : ∀ k, k ≠ B + 2 → (w.setCell ⟨B + 2, 0, none⟩ (.int .i64 3)).heap[k]? = w.heap[k]? := fun k hk => Below.heap_setCell _ _ _ _ hk
  obtain ⟨r1, r2, r3⟩ := h.ro (w' := w.setCell ⟨B + 2, 0, none⟩ (.int .i64 3)) (fun k _ h _ _ _ => hk k (by omega))
  refine ⟨(hk _ (by omega)).trans h.hO, (hk _ (by omega)).trans h.hC, heap_set h.hB 0 _, fun k hK => ⟨(h.kr k hK).1, by simpa [World.setCell] using (h.kr k hK).2⟩, ?_, ?_, r1, r2, r3, h.wn, h.on⟩
  · exact ownsRowF_heap h.wo (fun k e => hk k (by have := (h.wn k e).1; omega))
  · exact ownsRowF_heap h.oo (fun k e => hk k (by have := (h.on k e).1; omega))

/-- a word more -/
theorem RSx.word (h : RSx B K wv iv ov outv xs cmds c bad w) {x : List UInt8} {v' : Value} {w2 : World}
    (hown : w2.ownsRowF 0 9 1 v' (c.words.length + 1) (c.words.map strV ++ [strV x])) (hg : (w.alloc (.cells #[strV x] 9)).grownBy w2 wv.ownBlock) (hf : RowFrom (w.heap.size + 1) wv v') :
    RSx B K v' iv ov outv xs cmds { c with words := c.words ++ [x] } bad (w2.setCell ⟨B + 1, 1, none⟩ v') := by
  have hlt := h.ltB
  have hsz : w.heap.size + 1 ≤ w2.heap.size := by have := hg.size; simpa using this
  have h1 : ∀ k, k < w.heap.size → wv.ownBlock ≠ some k → w2.heap[k]? = w.heap[k]? := fun k hl hn => (hg.block k (by simp; omega) (fun e => hn e.symm)).trans (Lib.alloc_old w _ k hl)
  have hk : ∀ k, k < w.heap.size → wv.ownBlock ≠ some k → k ≠ B + 1 → (w2.setCell ⟨B + 1, 1, none⟩ v').heap[k]? = w.heap[k]? := fun k hl hn hb => (Below.heap_setCell _ _ _ _ hb).trans (h1 k hl hn)
  obtain ⟨r1, r2, r3⟩ := h.ro (w' := w2.setCell ⟨B + 1, 1, none⟩ v') (fun k _ h1 h2 h3 _ => hk k h2 h3 (by omega))
  have hnw : ∀ k, k ≤ B + 2 → wv.ownBlock ≠ some k := fun k hk e => by have := (h.wn k e).1; omega
  have hC2 : w2.heap[B + 1]? = some (.cells #[strV c.op, wv, iv, ov, .bool c.add] 90 (0, 0)) := (h1 _ (by omega) (hnw _ (by omega))).trans h.hC
  have hv' : ∀ k, v'.ownBlock = some k → B + 2 < k ∧ ¬ K k := fun k e => by
    rcases hf k e with e | e
    · exact h.wn k e
    · exact ⟨by omega, fun hK => by have := (h.kr k hK).2; omega⟩
  refine ⟨(hk _ (by omega) (hnw _ (by omega)) (by omega)).trans h.hO, heap_set hC2 1 _, (hk _ (by omega) (hnw _ (by omega)) (by omega)).trans h.hB, fun k hK => ⟨(h.kr k hK).1, ?_⟩, ?_, ?_, r1, r2, r3, hv', h.on⟩
  · have := (h.kr k hK).2
    have : (w2.setCell ⟨B + 1, 1, none⟩ v').heap.size = w2.heap.size := by simp [World.setCell]
    omega
  · rw [List.length_append, List.map_append]
    exact ownsRowF_heap hown (fun k e => Below.heap_setCell _ _ _ _ (by have := (hv' k e).1; simp; omega))
  · exact ownsRowF_heap h.oo (fun k e => hk k (h.oo.lt k e).2 (fun e2 => own_apart h.oo h.wo (by decide) k e e2) (by have := (h.on k e).1; omega))

/-- where it reads -/
theorem RSx.reads (h : RSx B K wv iv ov outv xs cmds c bad w) {x : List UInt8} {w1 : World} (hs : w.heap.size < w1.heap.size) (h1 : ∀ k, k < w.heap.size → w1.heap[k]? = w.heap[k]?) (hn : w1.heap[w.heap.size]? = some (.cells #[strV x] 9 (0, 0))) :
    RSx B (fun k => K k ∨ k = w.heap.size) wv (.pointer (some ⟨w.heap.size, 0, none⟩)) ov outv xs cmds { c with inn := some x } bad (w1.setCell ⟨B + 1, 2, none⟩ (.pointer (some ⟨w.heap.size, 0, none⟩))) := by
  have hlt := h.ltB
  have hk : ∀ k, k < w.heap.size → k ≠ B + 1 → (w1.setCell ⟨B + 1, 2, none⟩ (.pointer (some ⟨w.heap.size, 0, none⟩))).heap[k]? = w.heap[k]? := fun k hl hb => (Below.heap_setCell _ _ _ _ hb).trans (h1 k hl)
  obtain ⟨r1, r2, r3⟩ := h.ro (w' := w1.setCell ⟨B + 1, 2, none⟩ (.pointer (some ⟨w.heap.size, 0, none⟩))) (fun k _ h1 h2 h3 _ => hk k h2 (by omega))
  have hsz : (w1.setCell ⟨B + 1, 2, none⟩ (.pointer (some ⟨w.heap.size, 0, none⟩))).heap.size = w1.heap.size := by simp [World.setCell]
  refine ⟨(hk _ (by omega) (by omega)).trans h.hO, heap_set ((h1 _ (by omega)).trans h.hC) 2 _, (hk _ (by omega) (by omega)).trans h.hB, ?_, ?_, ?_, r1.mono (fun _ h _ => .inl h), ?_, r3.mono (fun _ h _ => .inl h), ?_, ?_⟩
  · rintro k (hK | rfl)
    · have := h.kr k hK; omega
    · omega
  · exact ownsRowF_heap h.wo (fun k e => hk k (h.wo.lt k e).2 (by have := (h.wn k e).1; omega))
  · exact ownsRowF_heap h.oo (fun k e => hk k (h.oo.lt k e).2 (by have := (h.on k e).1; omega))
  · exact ⟨_, (0, 0), rfl, .inr rfl, (Below.heap_setCell _ _ _ _ (by simp; omega)).trans hn⟩
  · intro k e
    have hx := h.wn k e
    have := (h.wo.lt k e).2
    refine ⟨by omega, ?_⟩
    rintro (hK | hK)
    · exact hx.2 hK
    · omega
  · intro k e
    have hx := h.on k e
    have := (h.oo.lt k e).2
    refine ⟨by omega, ?_⟩
    rintro (hK | hK)
    · exact hx.2 hK
    · omega
/-- where it writes -/
theorem RSx.writes (h : RSx B K wv iv ov outv xs cmds c bad w) {x : List UInt8} {add : Bool} {w1 : World} (hs : w.heap.size < w1.heap.size) (h1 : ∀ k, k < w.heap.size → w1.heap[k]? = w.heap[k]?) (hn : w1.heap[w.heap.size]? = some (.cells #[strV x] 9 (0, 0))) :
    RSx B (fun k => K k ∨ k = w.heap.size) wv iv (.pointer (some ⟨w.heap.size, 0, none⟩)) outv xs cmds { c with out := some x, add := add } bad ((w1.setCell ⟨B + 1, 3, none⟩ (.pointer (some ⟨w.heap.size, 0, none⟩))).setCell ⟨B + 1, 4, none⟩ (.bool add)) := by
  have hlt := h.ltB
  obtain ⟨w2, hw2⟩ : ∃ w2, w2 = (w1.setCell ⟨B + 1, 3, none⟩ (.pointer (some ⟨w.heap.size, 0, none⟩))).setCell ⟨B + 1, 4, none⟩ (.bool add) := ⟨_, rfl⟩
  have hk1 : ∀ k, k ≠ B + 1 → w2.heap[k]? = w1.heap[k]? := fun k hb => by rw [hw2, Below.heap_setCell _ _ _ _ hb, Below.heap_setCell _ _ _ _ hb]
  have hk : ∀ k, k < w.heap.size → k ≠ B + 1 → w2.heap[k]? = w.heap[k]? := fun k hl hb => (hk1 k hb).trans (h1 k hl)
  have hC : w2.heap[B + 1]? = some (.cells #[strV c.op, wv, iv, .pointer (some ⟨w.heap.size, 0, none⟩), .bool add] 90 (0, 0)) := by
    rw [hw2]
    exact heap_set (heap_set ((h1 _ (by omega)).trans h.hC) 3 _) 4 _
  have hsz : w2.heap.size = w1.heap.size := by rw [hw2]; simp [World.setCell]
  rw [← hw2]
  obtain ⟨r1, r2, r3⟩ := h.ro (w' := w2) (fun k _ h1 h2 h3 _ => hk k h2 (by omega))
  refine ⟨(hk _ (by omega) (by omega)).trans h.hO, hC, (hk _ (by omega) (by omega)).trans h.hB, ?_, ?_, ?_, r1.mono (fun _ h _ => .inl h), r2.mono (fun _ h _ => .inl h), ?_, ?_, ?_⟩
  · rintro k (hK | rfl)
    · have := h.kr k hK; omega
    · omega
  · exact ownsRowF_heap h.wo (fun k e => hk k (h.wo.lt k e).2 (by have := (h.wn k e).1; omega))
  · exact ownsRowF_heap h.oo (fun k e => hk k (h.oo.lt k e).2 (by have := (h.on k e).1; omega))
  · exact ⟨_, (0, 0), rfl, .inr rfl, (hk1 _ (by omega)).trans hn⟩
  · intro k e
    have hx := h.wn k e
    have := (h.wo.lt k e).2
    refine ⟨by omega, ?_⟩
    rintro (hK | hK)
    · exact hx.2 hK
    · omega
  · intro k e
    have hx := h.on k e
    have := (h.oo.lt k e).2
    refine ⟨by omega, ?_⟩
    rintro (hK | hK)
    · exact hx.2 hK
    · omega
end
end Go.Proofs.YtmagggflamdahaaGreatDoor

namespace Go.Proofs.YtmagggflamdahaaGreatDoor
open Go.RowKit

def nextS (op : List UInt8) (cmds : List PCmd) (c : PCmd) (bad : Bool) : List PCmd × Bool :=
  if c.any then (cmds ++ [c], bad) else if op ≠ [] ∨ c.op ≠ [59] then (cmds, true) else (cmds, bad)

/-- the command that is built is begun anew -/
def wReset (w : World) (b : Nat) (op : List UInt8) : World :=
  ((((w.setCell ⟨b, 0, none⟩ (.string ⟨op.toArray⟩)).setCell ⟨b, 1, none⟩ (.slice none 0 0)).setCell ⟨b, 2, none⟩ (.pointer none)).setCell ⟨b, 3, none⟩ (.pointer none)).setCell ⟨b, 4, none⟩ (.bool false)
theorem wReset_heap {w : World} {b : Nat} {op : List UInt8} {a0 a1 a2 a3 a4 : Value} {T : TypeId} {fr : Nat × Nat} (h : w.heap[b]? = some (.cells #[a0, a1, a2, a3, a4] T fr)) :
    (wReset w b op).heap[b]? = some (.cells #[strV op, .slice none 0 0, .pointer none, .pointer none, .bool false] T fr) :=
  heap_set (heap_set (heap_set (heap_set (heap_set h 0 _) 1 _) 2 _) 3 _) 4 _
theorem wReset_other (w : World) (b : Nat) (op : List UInt8) (k : Nat) (h : k ≠ b) : (wReset w b op).heap[k]? = w.heap[k]? := by
  unfold wReset
  rw [Below.heap_setCell _ _ _ _ h, Below.heap_setCell _ _ _ _ h, Below.heap_setCell _ _ _ _ h, Below.heap_setCell _ _ _ _ h, Below.heap_setCell _ _ _ _ h]
theorem wReset_size (w : World) (b : Nat) (op : List UInt8) : (wReset w b op).heap.size = w.heap.size := by
  simp [wReset, World.setCell]
theorem wReset_below {B : Nat} {a w : World} (h : Below B a w) {b : Nat} (hb : B ≤ b) (op : List UInt8) : Below B a (wReset w b op) :=
  ((((h.setCell (p := ⟨b, 0, none⟩) hb _).setCell (p := ⟨b, 1, none⟩) hb _).setCell (p := ⟨b, 2, none⟩) hb _).setCell (p := ⟨b, 3, none⟩) hb _).setCell (p := ⟨b, 4, none⟩) hb _

section
variable {B : Nat} {K : Nat → Prop} {wv iv ov outv : Value} {xs : List Value} {cmds : List PCmd} {c : PCmd} {bad : Bool} {w : World}
theorem RSx.renew (h : RSx B K wv iv ov outv xs cmds c bad w) (op : List UInt8) : RSx B K (.slice none 0 0) (.pointer none) (.pointer none) outv xs cmds (PCmd.fresh op) bad (wReset w (B + 1) op) := by
  have hk := wReset_other w (B + 1) op
  obtain ⟨r1, _, _⟩ := h.ro (w' := wReset w (B + 1) op) (fun k _ h _ _ _ => hk k (by omega))
  refine ⟨(hk _ (by omega)).trans h.hO, wReset_heap h.hC, (hk _ (by omega)).trans h.hB, fun k hK => ⟨(h.kr k hK).1, by rw [wReset_size]; exact (h.kr k hK).2⟩, World.ownsRowF_nil _ _ _ _, ?_, r1, rfl, rfl, fun k e => by simp [Value.ownBlock] at e, h.on⟩
  exact ownsRowF_heap h.oo (fun k e => hk k (by have := (h.on k e).1; omega))

theorem RSx.push (h : RSx B K wv iv ov outv xs cmds c bad w) (op : List UInt8) {v' : Value} {w2 : World}
    (hown : w2.ownsRowF 0 90 5 v' (cmds.length + 1) (xs ++ [strV c.op, wv, iv, ov, .bool c.add])) (hg : (w.alloc (.cells #[strV c.op, wv, iv, ov, .bool c.add] 90)).grownBy w2 outv.ownBlock)
    (hf : RowFrom (w.heap.size + 1) outv v') :
    RS B (cmds ++ [c]) (PCmd.fresh op) bad (wReset (w2.setCell ⟨B, 0, none⟩ v') (B + 1) op) := by
  have hlt := h.ltB
  have hsz : w.heap.size + 1 ≤ w2.heap.size := by have := hg.size; simpa using this
  have h1 : ∀ k, k < w.heap.size → outv.ownBlock ≠ some k → w2.heap[k]? = w.heap[k]? := fun k hl hn => (hg.block k (by simp; omega) (fun e => hn e.symm)).trans (Lib.alloc_old w _ k hl)
  obtain ⟨w3, hw3⟩ : ∃ w3, w3 = w2.setCell ⟨B, 0, none⟩ v' := ⟨_, rfl⟩
  have h2 : ∀ k, k ≠ B → w3.heap[k]? = w2.heap[k]? := fun k hk => by rw [hw3]; exact Below.heap_setCell _ _ _ _ hk
  have hno : ∀ k, k ≤ B + 2 → outv.ownBlock ≠ some k := fun k hk e => by have := (h.on k e).1; omega
  have hO3 : w3.heap[B]? = some (.cells #[v'] 41 (0, 0)) := by rw [hw3]; exact heap_set ((h1 _ (by omega) (hno _ (by omega))).trans h.hO) 0 _
  have hs3 : w3.heap.size = w2.heap.size := by rw [hw3]; simp [World.setCell]
  rw [← hw3]
  have hk := wReset_other w3 (B + 1) op
  have hall : ∀ k, B + 2 < k → k < w.heap.size → outv.ownBlock ≠ some k → (wReset w3 (B + 1) op).heap[k]? = w.heap[k]? := fun k a b d => (hk k (by omega)).trans ((h2 k (by omega)).trans (h1 k b d))
  have hv' : ∀ k, v'.ownBlock = some k → B + 2 < k ∧ ¬ K k ∧ wv.ownBlock ≠ some k := fun k e => by
    rcases hf k e with e | e
    · exact ⟨(h.on k e).1, (h.on k e).2, own_apart h.oo h.wo (by decide) k e⟩
    · exact ⟨by omega, fun hK => by have := (h.kr k hK).2; omega, fun e2 => by have := (h.wo.lt k e2).2; omega⟩
  have hro : ∀ k, K k ∨ wv.ownBlock = some k → (wReset w3 (B + 1) op).heap[k]? = w.heap[k]? := by
    rintro k (hK | e)
    · exact hall k (h.kr k hK).1 (h.kr k hK).2 (fun e => (h.on k e).2 hK)
    · exact hall k (h.wn k e).1 (h.wo.lt k e).2 (fun e2 => own_apart h.oo h.wo (by decide) k e2 e)
  refine ⟨fun k => K k ∨ wv.ownBlock = some k, .slice none 0 0, .pointer none, .pointer none, v', xs ++ [strV c.op, wv, iv, ov, .bool c.add], (hk _ (by omega)).trans hO3, wReset_heap ((h2 _ (by omega)).trans ((h1 _ (by omega) (hno _ (by omega))).trans h.hC)), (hk _ (by omega)).trans ((h2 _ (by omega)).trans ((h1 _ (by omega) (hno _ (by omega))).trans h.hB)), ?_, World.ownsRowF_nil _ _ _ _, ?_, ?_, rfl, rfl, fun k e => by simp [Value.ownBlock] at e, ?_⟩
  · rintro k (hK | e)
    · rw [wReset_size]
      have := h.kr k hK
      omega
    · rw [wReset_size]
      have := (h.wn k e).1
      have := (h.wo.lt k e).2
      omega
  · rw [List.length_append]
    exact ownsRowF_heap hown (fun k e => (hk k (by have := (hv' k e).1; omega)).trans (h2 k (by have := (hv' k e).1; omega)))
  · refine CmdsIn.snoc ⟨wv, iv, ov, rfl, SlAt.of_own (ownsRowF_heap h.wo (fun k e => hro k (.inr e))) (fun k e => .inr e), ?_, ?_⟩ ?_
    · exact (h.ip.mono (K' := fun k => K k ∨ wv.ownBlock = some k) (fun _ h _ => .inl h)).keep (fun k hK _ => hro k hK)
    · exact (h.op.mono (K' := fun k => K k ∨ wv.ownBlock = some k) (fun _ h _ => .inl h)).keep (fun k hK _ => hro k hK)
    · exact (h.ci.mono (K' := fun k => K k ∨ wv.ownBlock = some k) (fun _ h _ => .inl h)).keep (fun k hK _ => hro k hK)
  · intro k e
    obtain ⟨a, b, d⟩ := hv' k e
    refine ⟨a, ?_⟩
    rintro (h | h)
    · exact b h
    · exact d h
end

theorem cmdInfo : (Tryz.prog.info? 90).map (fun i => (i.zero, i.size, i.bytes)) = some (some (.agg #[.string .empty, .slice none 0 0, .pointer none, .pointer none, .bool false]), 5, 64) := by kernel_rfl

set_option maxHeartbeats 2000000 in
set_option maxRecDepth 100000 in
theorem next_any {B : Nat} {K : Nat → Prop} {wv iv ov outv : Value} {xs : List Value} {cmds : List PCmd} {c : PCmd} {bad : Bool} (op : List UInt8) (w : World) (h : RSx B K wv iv ov outv xs cmds c bad w) (hn : cmds.length ≤ 1048576) :
    Calls Tryz.prog 43 #[.string ⟨op.toArray⟩, .pointer (some ⟨B + 1, 0, none⟩), .pointer (some ⟨B, 0, none⟩), .pointer (some ⟨B + 2, 0, none⟩)] w fun e w' => e = .returned (.tuple #[]) ∧ RS B (nextS op cmds c bad).1 (PCmd.fresh op) (nextS op cmds c bad).2 w' ∧ Below B w w' := by
  obtain ⟨a, m, rfl⟩ := own_slice h.wo
  obtain ⟨i, rfl, hi⟩ := ptr_ptr h.ip
  obtain ⟨o, rfl, ho⟩ := ptr_ptr h.op
  have HS := Lib.hid (some_any (B + 1) _ a i o c.words.length m _ w h.hC)
  have H := Lib.hid h
  have c0 : w.cell? ⟨B, 0, none⟩ = some outv := by rw [Lib.cell_of_heap h.hO]; rfl
  have d0 : w.cell? ⟨B + 1, 0, none⟩ = some (.string ⟨c.op.toArray⟩) := by rw [Lib.cell_of_heap h.hC]; rfl
  have d1 : w.cell? ⟨B + 1, 1, none⟩ = some (.slice a c.words.length m) := by rw [Lib.cell_of_heap h.hC]; rfl
  have d2 : w.cell? ⟨B + 1, 2, none⟩ = some (.pointer i) := by rw [Lib.cell_of_heap h.hC]; rfl
  have d3 : w.cell? ⟨B + 1, 3, none⟩ = some (.pointer o) := by rw [Lib.cell_of_heap h.hC]; rfl
  have d4 : w.cell? ⟨B + 1, 4, none⟩ = some (.bool c.add) := by rw [Lib.cell_of_heap h.hC]; rfl
  rw [show (decide (0 < c.words.length) || i.isSome || o.isSome) = c.any by
    unfold PCmd.any; rw [hi, ho]; cases c.words <;> rfl] at HS
  clear h
  obtain ⟨i0, hi0, hz0, hz1, hz2⟩ := info_parts cmdInfo
  cases hany : c.any with
  | true =>
    rw [hany] at HS
    go_enter Tryz.func43, Tryz.ntmps43
    go_wp2_with fail
    go_at_call 44
    refine HS.out.mono ?_
    rintro e w' ⟨rfl, rfl⟩
    go_wp2_with (at_builtin; refine wp_append_cells_from _ rfl _ _ 41 rfl 90 i0 _ 5 64 Tryz.underlying41 hi0 hz0 hz1 hz2 rfl (by decide) _ _ _ rfl (H.out.oo.alloc _) ⟨w.heap.size, 0, none⟩ 1 1 [.string ⟨c.op.toArray⟩, .slice a c.words.length m, .pointer i, .pointer o, .bool c.add] rfl rfl ?c1 ?c2 ?c3 ?c4 ?_)
    case c1 =>
      intro j u hj
      match j, hj with
      | 0, hj => simp at hj; subst hj; simp [Addr.add]
      | 1, hj => simp at hj; subst hj; simp [Addr.add]
      | 2, hj => simp at hj; subst hj; simp [Addr.add]
      | 3, hj => simp at hj; subst hj; simp [Addr.add]
      | 4, hj => simp at hj; subst hj; simp [Addr.add]
    case c2 => intro u hu; simp at hu; rcases hu with rfl | rfl | rfl | rfl | rfl <;> rfl
    case c3 => unfold maxLen; omega
    case c4 => omega
    intro v' w2 hown' hgrow hfrom
    have hlt := H.out.ltB
    have hO2 : w2.heap[B]? = some (.cells #[_] 41 (0, 0)) := (hgrow.block B (by simp; omega) (fun e => by have := (H.out.on B e.symm).1; omega)).trans ((Lib.alloc_old w _ B (by omega)).trans H.out.hO)
    have hC2 : w2.heap[B + 1]? = some (.cells _ 90 (0, 0)) := (hgrow.block (B + 1) (by simp; omega) (fun e => by have := (H.out.on (B + 1) e.symm).1; omega)).trans ((Lib.alloc_old w _ (B + 1) (by omega)).trans H.out.hC)
    have e0 : w2.cell? ⟨B, 0, none⟩ = some _ := Lib.cell_of_heap hO2 0
    have f0 : w2.frozen? ⟨B, 0, none⟩ = false := Lib.frozen_of_heap hO2 0
    have g0 : w2.cell? ⟨B + 1, 0, none⟩ = some _ := Lib.cell_of_heap hC2 0
    have g1 : w2.cell? ⟨B + 1, 1, none⟩ = some _ := Lib.cell_of_heap hC2 1
    have g2 : w2.cell? ⟨B + 1, 2, none⟩ = some _ := Lib.cell_of_heap hC2 2
    have g3 : w2.cell? ⟨B + 1, 3, none⟩ = some _ := Lib.cell_of_heap hC2 3
    have g4 : w2.cell? ⟨B + 1, 4, none⟩ = some _ := Lib.cell_of_heap hC2 4
    have k0 : w2.frozen? ⟨B + 1, 0, none⟩ = false := Lib.frozen_of_heap hC2 0
    have k1 : w2.frozen? ⟨B + 1, 1, none⟩ = false := Lib.frozen_of_heap hC2 1
    have k2 : w2.frozen? ⟨B + 1, 2, none⟩ = false := Lib.frozen_of_heap hC2 2
    have k3 : w2.frozen? ⟨B + 1, 3, none⟩ = false := Lib.frozen_of_heap hC2 3
    have k4 : w2.frozen? ⟨B + 1, 4, none⟩ = false := Lib.frozen_of_heap hC2 4
    obtain ⟨ao, mo, rfl⟩ := own_slice hown'
    have HOW := Lib.hid hown'
    have HG := Lib.hid hgrow
    have HF := Lib.hid hfrom
    have HO2 := Lib.hid hO2
    have HC2 := Lib.hid hC2
    clear hown' hgrow hfrom hO2 hC2 c0 d0 d1 d2 d3 d4
    go_wp2
    go_end0
    refine ⟨rfl, ?_, ?_⟩
    · rw [show (nextS op cmds c bad) = (cmds ++ [c], bad) by unfold nextS; rw [if_pos hany]]
      exact H.out.push op HOW.out HG.out HF.out
    · refine wReset_below (Below.setCell ?_ (p := ⟨B, 0, none⟩) (Nat.le_refl _) _) (Nat.le_succ B) op
      exact ((Below.refl B w).alloc (by omega) _).grown HG.out (by simp; omega) (fun k e => by have := (H.out.on k e).1; omega)
  | false =>
    rw [hany] at HS
    have hlt := H.out.ltB
    have hR := Lib.hid (H.out.renew op)
    have hW := Lib.hid ((H.out.wrong).renew op)
    have hBl : Hid (Below B w (wReset w (B + 1) op)) := Lib.hid (wReset_below (Below.refl B w) (Nat.le_succ B) op)
    have hBl2 : Hid (Below B w (wReset (w.setCell ⟨B + 2, 0, none⟩ (.int .i64 3)) (B + 1) op)) := Lib.hid (wReset_below ((Below.refl B w).setCell (p := ⟨B + 2, 0, none⟩) (show B ≤ B + 2 by omega) _) (Nat.le_succ B) op)
    have e2 : w.cell? ⟨B + 2, 0, none⟩ = some _ := Lib.cell_of_heap H.out.hB 0
    have f2 : w.frozen? ⟨B + 2, 0, none⟩ = false := Lib.frozen_of_heap H.out.hB 0
    have k0 : w.frozen? ⟨B + 1, 0, none⟩ = false := Lib.frozen_of_heap H.out.hC 0
    have k1 : w.frozen? ⟨B + 1, 1, none⟩ = false := Lib.frozen_of_heap H.out.hC 1
    have k2 : w.frozen? ⟨B + 1, 2, none⟩ = false := Lib.frozen_of_heap H.out.hC 2
    have k3 : w.frozen? ⟨B + 1, 3, none⟩ = false := Lib.frozen_of_heap H.out.hC 3
    have k4 : w.frozen? ⟨B + 1, 4, none⟩ = false := Lib.frozen_of_heap H.out.hC 4
    have hN : Hid (nextS op cmds c bad = if op ≠ [] ∨ c.op ≠ [59] then (cmds, true) else (cmds, bad)) := Lib.hid (by unfold nextS; rw [if_neg (by rw [hany]; simp)])
    clear hany
    cases hop : op.isEmpty with
    | false =>
      have hN2 : Hid (nextS op cmds c bad = (cmds, true)) := Lib.hid (by rw [hN.out, if_pos (.inl (by rintro rfl; simp at hop))])
      clear hN
      go_enter Tryz.func43, Tryz.ntmps43
      go_wp2_with fail
      go_at_call 44
      refine HS.out.mono ?_
      rintro e w' ⟨rfl, rfl⟩
      go_wp2
      go_end0
      exact ⟨rfl, by rw [hN2.out]; exact ⟨_, _, _, _, _, _, hW.out⟩, hBl2.out⟩
    | true =>
      obtain rfl : op = [] := List.isEmpty_iff.1 hop
      cases hco : (c.op == [59]) with
      | true =>
        have hN2 : Hid (nextS [] cmds c bad = (cmds, bad)) := Lib.hid (by rw [hN.out, if_neg (by simp only [beq_iff_eq] at hco; simp [hco])])
        clear hN
        go_enter Tryz.func43, Tryz.ntmps43
        go_wp2_with fail
        go_at_call 44
        refine HS.out.mono ?_
        rintro e w' ⟨rfl, rfl⟩
        go_wp2
        go_end0
        exact ⟨rfl, by rw [hN2.out]; exact ⟨_, _, _, _, _, _, hR.out⟩, hBl.out⟩
      | false =>
        have hN2 : Hid (nextS [] cmds c bad = (cmds, true)) := Lib.hid (by rw [hN.out, if_pos (.inr (by simpa using hco))])
        clear hN
        go_enter Tryz.func43, Tryz.ntmps43
        go_wp2_with fail
        go_at_call 44
        refine HS.out.mono ?_
        rintro e w' ⟨rfl, rfl⟩
        go_wp2
        go_end0
        exact ⟨rfl, by rw [hN2.out]; exact ⟨_, _, _, _, _, _, hW.out⟩, hBl2.out⟩
end Go.Proofs.YtmagggflamdahaaGreatDoor

namespace Go.Proofs.YtmagggflamdahaaGreatDoor
open Go.RowKit

def meanW (l : List UInt8) : List UInt8 := (meanS l).getD []
theorem meanV_word (l : List UInt8) : ∃ k : Int, meanV l = .tuple #[.string ⟨(meanW l).toArray⟩, .int .i64 k] := by
  unfold meanV meanW
  cases meanS l with
  | none => exact ⟨4, rfl⟩
  | some m => exact ⟨0, rfl⟩

def readGo : List (List UInt8) → List PCmd → PCmd → Bool → Except Nat (List PCmd)
  | [], cmds, c, bad => if (nextS [] cmds c bad).2 then .error 3 else .ok (nextS [] cmds c bad).1
  | t :: r, cmds, c, bad =>
    if t = [59] ∨ t = [38, 38] ∨ t = [124, 124] then readGo r (nextS t cmds c bad).1 (PCmd.fresh t) (nextS t cmds c bad).2
    else if t = [38] ∨ t = [124] then readGo r cmds c true
    else if t = [60] ∨ t = [62] ∨ t = [62, 62] then
      match r with
      | [] => .error 4
      | u :: r' => if opB (u.getD 0 0) then .error 4 else if t = [60] then readGo r' cmds { c with inn := some (meanW u) } bad else readGo r' cmds { c with out := some (meanW u), add := t == [62, 62] } bad
    else readGo r cmds { c with words := c.words ++ [meanW t] } bad
theorem readGo_sep (t : List UInt8) (r : List (List UInt8)) (cmds : List PCmd) (c : PCmd) (bad : Bool) (h : t = [59] ∨ t = [38, 38] ∨ t = [124, 124]) :
    readGo (t :: r) cmds c bad = readGo r (nextS t cmds c bad).1 (PCmd.fresh t) (nextS t cmds c bad).2 := by
  cases r <;> simp only [readGo, if_pos h]
theorem readGo_bad (t : List UInt8) (r : List (List UInt8)) (cmds : List PCmd) (c : PCmd) (bad : Bool) (h : t = [38] ∨ t = [124]) :
    readGo (t :: r) cmds c bad = readGo r cmds c true := by
  have h1 : ¬ (t = [59] ∨ t = [38, 38] ∨ t = [124, 124]) := by rcases h with rfl | rfl <;> simp
  cases r <;> simp only [readGo, if_neg h1, if_pos h]
theorem readGo_end (t : List UInt8) (cmds : List PCmd) (c : PCmd) (bad : Bool) (h : t = [60] ∨ t = [62] ∨ t = [62, 62]) :
    readGo [t] cmds c bad = .error 4 := by
  have h1 : ¬ (t = [59] ∨ t = [38, 38] ∨ t = [124, 124]) := by rcases h with rfl | rfl | rfl <;> simp
  have h2 : ¬ (t = [38] ∨ t = [124]) := by rcases h with rfl | rfl | rfl <;> simp
  simp only [readGo, if_neg h1, if_neg h2, if_pos h]
theorem readGo_op (t u : List UInt8) (r : List (List UInt8)) (cmds : List PCmd) (c : PCmd) (bad : Bool) (h : t = [60] ∨ t = [62] ∨ t = [62, 62]) (hu : opB (u.getD 0 0) = true) :
    readGo (t :: u :: r) cmds c bad = .error 4 := by
  have h1 : ¬ (t = [59] ∨ t = [38, 38] ∨ t = [124, 124]) := by rcases h with rfl | rfl | rfl <;> simp
  have h2 : ¬ (t = [38] ∨ t = [124]) := by rcases h with rfl | rfl | rfl <;> simp
  simp only [readGo, if_neg h1, if_neg h2, if_pos h, hu, if_true]
theorem readGo_in (u : List UInt8) (r : List (List UInt8)) (cmds : List PCmd) (c : PCmd) (bad : Bool) (hu : opB (u.getD 0 0) = false) :
    readGo ([60] :: u :: r) cmds c bad = readGo r cmds { c with inn := some (meanW u) } bad := by
  simp only [readGo, hu]
  simp
theorem readGo_out (t u : List UInt8) (r : List (List UInt8)) (cmds : List PCmd) (c : PCmd) (bad : Bool) (h : t = [62] ∨ t = [62, 62]) (hu : opB (u.getD 0 0) = false) :
    readGo (t :: u :: r) cmds c bad = readGo r cmds { c with out := some (meanW u), add := t == [62, 62] } bad := by
  rcases h with rfl | rfl <;> simp only [readGo, hu] <;> simp
theorem readGo_word (t : List UInt8) (r : List (List UInt8)) (cmds : List PCmd) (c : PCmd) (bad : Bool) (h1 : t ≠ [59]) (h2 : t ≠ [38, 38]) (h3 : t ≠ [124, 124]) (h4 : t ≠ [38]) (h5 : t ≠ [124]) (h6 : t ≠ [60]) (h7 : t ≠ [62]) (h8 : t ≠ [62, 62]) :
    readGo (t :: r) cmds c bad = readGo r cmds { c with words := c.words ++ [meanW t] } bad := by
  cases r <;> simp only [readGo, h1, h2, h3, h4, h5, h6, h7, h8, or_self, if_false]
/-- the commands of a line, or what is wrong with it -/
def readS (l : List UInt8) : Except Nat (List PCmd) :=
  if 65536 < l.length then .error 5 else match toksS l with
    | none => .error 4
    | some [] => .ok []
    | some (t :: r) => readGo (t :: r) [] (PCmd.fresh []) false
/-- what read hands back -/
def ReadR (B : Nat) (r : Except Nat (List PCmd)) (v : Value) (k : Int) (w : World) : Prop := match r with
  | .error n => v = .slice none 0 0 ∧ k = n ∧ n ≠ 0
  | .ok cs => k = 0 ∧ CmdsAt (fun k => B ≤ k) w v cs
def ReadQ (B : Nat) (l : List UInt8) (v : Value) (k : Int) (w : World) : Prop := ReadR B (readS l) v k w

theorem slice_tail (g o n cap : Nat) (hc : n + 1 ≤ cap) : ∃ a, (n ≠ 0 → a = some ⟨g, o + 1, none⟩) ∧
    ∀ W, (Instr.slice 29 (.slice (some ⟨g, o, none⟩) (n + 1) cap) (some (.int .i64 1)) none none).run Tryz.prog W = .ok (.slice a n (cap - 1)) W := by
  have he : Tryz.prog.elem 29 = 9 := by kernel_rfl
  refine ⟨if cap = 1 then some ⟨g, o, none⟩ else some ⟨g, o + 1, none⟩, fun hn => if_neg (by omega), fun W => ?_⟩
  rw [run_slice_l W 29 (some ⟨g, o, none⟩) (n + 1) cap (by rw [he]; exact Tryz.underlying29) .i64 1 (by omega) (by omega), he, Tryz.sizeOf9 W]
  simp only [Result.andThen, sliced]
  have h1 : (1 : Int).toNat = 1 := rfl
  rw [h1]
  by_cases hc1 : cap = 1
  · simp [hc1]
  · simp [hc1, Addr.add]
end Go.Proofs.YtmagggflamdahaaGreatDoor
