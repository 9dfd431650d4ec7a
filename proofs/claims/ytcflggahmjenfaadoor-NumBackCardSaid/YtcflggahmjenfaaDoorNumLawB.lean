/- The walks of NumBack and NumNoughts, and what they ask of plain digits. -/
import Derived.Test.YtcflggahmjenfaaDoorNumRefF
namespace Go.Proofs.YtcflggahmjenfaaDoor
open Go.RowKit

/-! ### digits that were formatted -/
theorem dec_digits (u : Nat) : (Lib.decDigits u).all (digB 10) = true ∧ natVal 10 0 (Lib.decDigits u) = u ∧ Lib.decDigits u ≠ [] := by
  induction u using Nat.strongRecOn with
  | _ u ih =>
    have hb : ∀ v, v < 10 → digB 10 (UInt8.ofNat (48 + v)) = true ∧ hexV (UInt8.ofNat (48 + v)).toNat = v := by decide
    by_cases h : u < 10
    · rw [Lib.decDigits_one h]
      refine ⟨by rw [List.all_cons, (hb u h).1]; rfl, ?_, by simp⟩
      simp only [natVal, (hb u h).2]
      omega
    · rw [Lib.decDigits, dif_neg h]
      obtain ⟨h1, h2, h3⟩ := ih (u / 10) (by omega)
      have hm := hb (u % 10) (by omega)
      refine ⟨by rw [List.all_append, h1, List.all_cons, hm.1]; rfl, ?_, by simp⟩
      rw [natVal_snoc, h2, hm.2]
      omega

/-- a text of digits alone -/
theorem dig_head (b : Nat) (hb : b = 10 ∨ b = 16) (d : List UInt8) (h : d.all (digB b) = true) : minusB d = false ∧ Lib.hasPrefix d [43] = false := by
  have hh : ∀ c : Fin 256, digB b (UInt8.ofNat c.val) = true → (45 == UInt8.ofNat c.val) = false ∧ (43 == UInt8.ofNat c.val) = false := by
    rcases hb with rfl | rfl <;> decide +kernel
  match d, h with
  | [], _ => exact ⟨rfl, rfl⟩
  | c :: r, h =>
    have hc : digB b c = true := by simp at h; exact h.1
    have := hh ⟨c.toNat, c.toNat_lt⟩ (by simpa using hc)
    simp only [UInt8.ofNat_toNat] at this
    exact ⟨by show (45 == c && ([] : List UInt8).isPrefixOf r) = false; rw [this.1]; rfl, by show (43 == c && ([] : List UInt8).isPrefixOf r) = false; rw [this.2]; rfl⟩
theorem dig_hex (d : List UInt8) (h : d.all (digB 10) = true) : hexB d = false := by
  have hh : digB 10 88 = false ∧ digB 10 120 = false := by decide
  have hm : ∀ c, c ∈ d → digB 10 c = true := List.all_eq_true.1 h
  unfold hexB
  by_cases h2 : 2 < d.length
  · have hg : d.getD 1 0 ∈ d := by
      rw [List.getD_eq_getElem?_getD, List.getElem?_eq_getElem (by omega)]
      exact List.getElem_mem _
    have hd := hm _ hg
    have h88 : (d.getD 1 0 == 88) = false := by
      rw [beq_eq_false_iff_ne]; intro e; rw [e, hh.1] at hd; cases hd
    have h120 : (d.getD 1 0 == 120) = false := by
      rw [beq_eq_false_iff_ne]; intro e; rw [e, hh.2] at hd; cases hd
    rw [h88, h120]
    simp
  · rw [decide_eq_false h2]
    rfl
theorem parse_body (m : Bool) (l d : List UInt8) (hm : minusB l = m) (hb : body1 l = d) (hne : d ≠ []) (h : d.all (digB 10) = true) : parseS l = valOf m (natVal 10 0 d) := by
  unfold parseS
  rw [hm, hb]
  have hx := dig_hex d h
  unfold baseN body2
  rw [hx, if_neg (by simp), if_neg (by simp), parseD, if_neg hne, if_pos h]
theorem parse_digits (d : List UInt8) (hne : d ≠ []) (h : d.all (digB 10) = true) : parseS d = valOf false (natVal 10 0 d) := by
  obtain ⟨h1, h2⟩ := dig_head 10 (.inl rfl) d h
  refine parse_body false d d h1 ?_ hne h
  unfold body1 Lib.trimPrefix
  rw [h1, if_neg (by simp), h2, if_neg (by simp)]
theorem parse_minus (d : List UInt8) (hne : d ≠ []) (h : d.all (digB 10) = true) : parseS (45 :: d) = valOf true (natVal 10 0 d) :=
  parse_body true (45 :: d) d rfl rfl hne h
theorem parse_plus (d : List UInt8) (hne : d ≠ []) (h : d.all (digB 10) = true) : parseS (43 :: d) = valOf false (natVal 10 0 d) :=
  parse_body false (43 :: d) d rfl rfl hne h

theorem parse_itoa (n : Int) : parseS (Lib.itoa n) = if n < -4611686018427387904 ∨ 4611686018427387904 < n then (0, 5) else (n, 0) := by
  unfold Lib.itoa
  by_cases hn : n < 0
  · rw [if_pos hn]
    obtain ⟨h1, h2, h3⟩ := dec_digits n.natAbs
    rw [parse_minus _ h3 h1, h2, valOf]
    by_cases hb : 4611686018427387904 < n.natAbs
    · rw [if_pos hb, if_pos (by omega)]
    · rw [if_neg hb, if_pos rfl, if_neg (by omega)]
      congr 1
      omega
  · rw [if_neg hn]
    obtain ⟨h1, h2, h3⟩ := dec_digits n.toNat
    rw [parse_digits _ h3 h1, h2, valOf]
    by_cases hb : 4611686018427387904 < n.toNat
    · rw [if_pos hb, if_pos (by omega)]
    · rw [if_neg hb, if_neg (by simp), if_neg (by omega)]
      congr 1
      omega
theorem itoa_size (n : Int) (h0 : -9223372036854775808 ≤ n) (h1 : n ≤ 9223372036854775807) : (⟨(Lib.itoa n).toArray⟩ : ByteArray).size ≤ 21 := by
  rw [Lib.size_eq]
  show (Lib.itoa n).length ≤ 21
  unfold Lib.itoa
  split
  · have := nDigits_le 19 n.natAbs (by omega)
    rw [List.length_cons, Lib.decDigits_length]
    omega
  · have := nDigits_le 19 n.toNat (by omega)
    rw [Lib.decDigits_length]
    omega

set_option maxHeartbeats 1000000 in
set_option maxRecDepth 100000 in
theorem numBack_walk (n : Int) (h0 : -9223372036854775808 ≤ n) (h1 : n ≤ 9223372036854775807) (w : World) (hG : Gl w) :
    Calls Tryd.prog 5 #[.int .i64 n] w fun e w' => e = .returned (.bool true) ∧ Below w.heap.size w w' := by
  have H1 := Lib.hid (fun w hw => format_any n h0 h1 w hw)
  have hsz := itoa_size n h0 h1
  have H2 := Lib.hid (fun w hw => parse_any ⟨(Lib.itoa n).toArray⟩ (by omega) w hw)
  have e2 : parseS (⟨(Lib.itoa n).toArray⟩ : ByteArray).data.toList = if n < -4611686018427387904 ∨ 4611686018427387904 < n then (0, 5) else (n, 0) := parse_itoa n
  rw [e2] at H2
  clear e2
  generalize (⟨(Lib.itoa n).toArray⟩ : ByteArray) = t at H1 H2 hsz
  by_cases hn : n < -4611686018427387904 ∨ 4611686018427387904 < n
  · rw [if_pos hn] at H2
    have fin : ∀ w, Gl w → (n < -4611686018427387904 ∨ ¬ n < -4611686018427387904) → Calls Tryd.prog 5 #[.int .i64 n] w fun e w' => e = .returned (.bool true) ∧ Below w.heap.size w w' := by
      intro w hG hc
      rcases hc with hc | hc
      all_goals
        have hd : n < -4611686018427387904 ∨ 4611686018427387904 < n := hn
        have hd' : ¬ n < -4611686018427387904 → 4611686018427387904 < n := by omega
        try have hd2 := hd' hc
        clear hd hd' hn
        go_enter Tryd.func5, Tryd.ntmps5
        go_wp2_with fail
        refine (H1.out _ hG).mono ?_
        rintro e w1 ⟨rfl, hb1⟩
        have hG1 := hG.below hb1
        clear hG
        go_wp2_with fail
        refine (H2.out _ hG1).mono ?_
        rintro e w2 ⟨rfl, hb2⟩
        have hb12 := hb1.trans (hb2.mono hb1.size)
        have hG2 := hG1.below hb2
        clear hb1 hb2 hG1
        go_wp2_with fail
        refine (alive_any _ hG2).mono ?_
        rintro e w6 ⟨rfl, hb6⟩
        have hb16 := hb12.trans (hb6.mono hb12.size)
        clear hb12 hb6 hG2
        go_wp2
        go_ret
        exact ⟨rfl, hb16⟩
    exact fin w hG (by omega)
  · rw [if_neg hn] at H2
    have n0 : -4611686018427387904 ≤ n := by omega
    have n1 : n ≤ 4611686018427387904 := by omega
    clear hn
    go_enter Tryd.func5, Tryd.ntmps5
    go_wp2_with fail
    refine (H1.out _ hG).mono ?_
    rintro e w1 ⟨rfl, hb1⟩
    have hG1 := hG.below hb1
    clear hG
    go_wp2_with fail
    refine (H2.out _ hG1).mono ?_
    rintro e w2 ⟨rfl, hb2⟩
    have hb12 := hb1.trans (hb2.mono hb1.size)
    have hG2 := hG1.below hb2
    clear hb1 hb2 hG1
    go_wp2_with fail
    refine (alive_any _ hG2).mono ?_
    rintro e w6 ⟨rfl, hb6⟩
    have hb16 := hb12.trans (hb6.mono hb12.size)
    clear hb12 hb6 hG2
    go_wp2
    go_ret
    exact ⟨rfl, hb16⟩

/-! ### noughts ahead -/
theorem noughts (k : Nat) (d : List UInt8) : natVal 10 0 (List.replicate k 48 ++ d) = natVal 10 0 d := by
  induction k with
  | zero => rfl
  | succ k ih => exact ih
theorem noughts_all (k : Nat) (d : List UInt8) (h : d.all (digB 10) = true) : (List.replicate k 48 ++ d).all (digB 10) = true := by
  rw [List.all_append, h, Bool.and_true, List.all_eq_true]
  intro c hc
  rw [(List.mem_replicate.1 hc).2]
  decide

/-- what NumNoughts asks, of s: noughts ahead of n's digits -/
structure NoughtR (n : Int) (s : List UInt8) : Prop where
  plain : parseS s = (n, 0)
  plus : parseS (43 :: s) = (n, 0)
  minus : parseS (45 :: s) = (-n, 0)
theorem nought_of (n : Int) (h0 : 0 ≤ n) (h1 : n ≤ 4611686018427387904) (k : Nat) : NoughtR n (List.replicate k 48 ++ Lib.itoa n) := by
  have hi : Lib.itoa n = Lib.decDigits n.toNat := by unfold Lib.itoa; rw [if_neg (by omega)]
  obtain ⟨d1, d2, d3⟩ := dec_digits n.toNat
  rw [hi]
  have ha := noughts_all k _ d1
  have hne : List.replicate k 48 ++ Lib.decDigits n.toNat ≠ [] := by simp [d3]
  have hv : natVal 10 0 (List.replicate k 48 ++ Lib.decDigits n.toNat) = n.toNat := by rw [noughts, d2]
  have e : ((n.toNat : Nat) : Int) = n := by omega
  refine ⟨?_, ?_, ?_⟩
  · rw [parse_digits _ hne ha, hv, valOf, if_neg (by omega), if_neg (by simp), e]
  · rw [parse_plus _ hne ha, hv, valOf, if_neg (by omega), if_neg (by simp), e]
  · rw [parse_minus _ hne ha, hv, valOf, if_neg (by omega), if_pos rfl, e]

set_option maxHeartbeats 4000000 in
set_option maxRecDepth 100000 in
theorem numNoughts_walk (n m : Int) (h0 : -9223372036854775808 ≤ n) (h1 : n ≤ 9223372036854775807) (m0 : 0 ≤ m) (m1 : m ≤ 255) (w : World) (hG : Gl w) :
    Calls Tryd.prog 7 #[.int .i64 n, .int .u8 m] w fun e w' => e = .returned (.bool true) ∧ Below w.heap.size w w' := by
  by_cases hn : n < 0
  · go_enter Tryd.func7, Tryd.ntmps7
    go_wp2_with fail
    refine (alive_any _ hG).mono ?_
    rintro e w6 ⟨rfl, hb6⟩
    go_wp2
    go_ret
    exact ⟨rfl, hb6⟩
  · by_cases hn2 : 4611686018427387904 < n
    · go_enter Tryd.func7, Tryd.ntmps7
      go_wp2_with fail
      refine (alive_any _ hG).mono ?_
      rintro e w6 ⟨rfl, hb6⟩
      go_wp2
      go_ret
      exact ⟨rfl, hb6⟩
    · have n0 : 0 ≤ n := by omega
      have n1 : n ≤ 4611686018427387904 := by omega
      clear hn hn2
      have hsz := itoa_size n h0 h1
      have H1 := Lib.hid (fun w hw => format_any n h0 h1 w hw)
      have hsz2 := itoa_size (-n) (by omega) (by omega)
      have H2 := Lib.hid (fun w hw => format_any (-n) (by omega) (by omega) w hw)
      have HP2 : Hid (parseS (⟨(Lib.itoa (-n)).toArray⟩ : ByteArray).data.toList = (-n, 0)) := Lib.hid ((parse_itoa (-n)).trans (if_neg (by omega)))
      have HN := Lib.hid (nought_of n n0 n1)
      generalize (⟨(Lib.itoa (-n)).toArray⟩ : ByteArray) = t2 at H2 hsz2 HP2
      have HT : Hid ((⟨(Lib.itoa n).toArray⟩ : ByteArray).data.toList = Lib.itoa n) := Lib.hid rfl
      generalize (⟨(Lib.itoa n).toArray⟩ : ByteArray) = t at H1 hsz HT
      go_enter Tryd.func7, Tryd.ntmps7
      go_wp2_with fail
      refine (H1.out _ hG).mono ?_
      rintro e w1 ⟨rfl, hb1⟩
      have hG1 := hG.below hb1
      clear hG
      go_wp2_with fail
      go_loop [5, 22] (fun v5 v22 => ∃ (k : Nat) (s : ByteArray), v5 = .string s ∧ v22 = .int .u8 k ∧ (k : Int) ≤ m ∧ s.size ≤ 21 + k ∧ Hid (s.data.toList = List.replicate k 48 ++ Lib.itoa n)) (fun _ v22 => 256 - (intOf v22).toNat)
      case atStart => exact ⟨0, t, rfl, rfl, by omega, by omega, Lib.hid (by rw [HT.out]; rfl)⟩
      case round =>
        obtain ⟨k, s, rfl, rfl, hk, hks, HS⟩ := hrel
        by_cases hlt : (k : Int) < m
        · have hz : ((⟨#[48]⟩ : ByteArray) ++ s).size ≤ 21 + (k + 1) := by
            have : ((⟨#[48]⟩ : ByteArray) ++ s).size = 1 + s.size := by rw [ByteArray.size_append]; rfl
            omega
          have HS2 : Hid (((⟨#[48]⟩ : ByteArray) ++ s).data.toList = List.replicate (k + 1) 48 ++ Lib.itoa n) := Lib.hid (by
            have : ((⟨#[48]⟩ : ByteArray) ++ s).data.toList = 48 :: s.data.toList := by simp
            rw [this, HS.out]
            rfl)
          go_wp2
          go_round
          case rel => exact ⟨k + 1, _, rfl, by go_num, by omega, hz, HS2⟩
          case measure => simp [intOf]; omega
        · have HR := Lib.hid (HN.out k)
          rw [← HS.out] at HR
          have e1 : ((⟨#[43]⟩ : ByteArray) ++ s).data.toList = 43 :: s.data.toList := by simp
          have e2 : ((⟨#[45]⟩ : ByteArray) ++ s).data.toList = 45 :: s.data.toList := by simp
          have z1 : ((⟨#[43]⟩ : ByteArray) ++ s).size = 1 + s.size := by rw [ByteArray.size_append]; rfl
          have z2 : ((⟨#[45]⟩ : ByteArray) ++ s).size = 1 + s.size := by rw [ByteArray.size_append]; rfl
          have HA := Lib.hid (fun w hw => parse_any s (by omega) w hw)
          have HB := Lib.hid (fun w hw => parse_any ((⟨#[43]⟩ : ByteArray) ++ s) (by omega) w hw)
          have HC := Lib.hid (fun w hw => compare_any ((⟨#[45]⟩ : ByteArray) ++ s) t2 (by omega) (by omega) w hw)
          have hcc : cmpS ((⟨#[45]⟩ : ByteArray) ++ s).data.toList t2.data.toList = (0, 0) := by
            unfold cmpS isS
            rw [e2, HR.out.minus, HP2.out]
            simp [Lib.compareInt]
          rw [hcc] at HC
          rw [e1, HR.out.plus] at HB
          rw [HR.out.plain] at HA
          clear hcc e1 e2 z1 z2 HR
          go_wp2_with fail
          refine (HA.out _ hG1).mono ?_
          rintro e w2 ⟨rfl, hb2⟩
          have hb12 := hb1.trans (hb2.mono hb1.size)
          have hG2 := hG1.below hb2
          clear hb1 hb2 hG1
          go_wp2_with fail
          refine (HB.out _ hG2).mono ?_
          rintro e w3 ⟨rfl, hb3⟩
          have hb13 := hb12.trans (hb3.mono hb12.size)
          have hG3 := hG2.below hb3
          clear hb12 hb3 hG2
          go_wp2_with fail
          refine (H2.out _ hG3).mono ?_
          rintro e w4 ⟨rfl, hb4⟩
          have hb14 := hb13.trans (hb4.mono hb13.size)
          have hG4 := hG3.below hb4
          clear hb13 hb4 hG3
          go_wp2_with fail
          refine (HC.out _ hG4).mono ?_
          rintro e w5 ⟨rfl, hb5⟩
          have hb15 := hb14.trans (hb5.mono hb14.size)
          have hG5 := hG4.below hb5
          clear hb14 hb5 hG4
          go_wp2_with fail
          refine (alive_any _ hG5).mono ?_
          rintro e w6 ⟨rfl, hb6⟩
          have hb16 := hb15.trans (hb6.mono hb15.size)
          clear hb15 hb6 hG5
          go_wp2
          go_ret
          exact ⟨rfl, hb16⟩
end Go.Proofs.YtcflggahmjenfaaDoor
