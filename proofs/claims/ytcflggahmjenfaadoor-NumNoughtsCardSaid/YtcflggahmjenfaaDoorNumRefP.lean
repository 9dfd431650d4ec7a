/- The reference's Parse, for every text: 'parseS' of its bytes, too. -/
import Derived.Test.YtcflggahmjenfaaDoorNumParse
namespace Go.Proofs.YtcflggahmjenfaaDoor
open Go.RowKit

theorem ret_int {k : IntKind} {a b : Int} (h : a = b) : Ending.returned (.int k a) = .returned (.int k b) := by rw [h]

def valI (c : Int) : Int := if 48 ≤ c ∧ c ≤ 57 then c - 48 else if 97 ≤ c ∧ c ≤ 102 then c - 87 else if 65 ≤ c ∧ c ≤ 70 then c - 55 else -1
theorem value_any (c : Int) (h0 : 0 ≤ c) (h1 : c < 256) (w : World) :
    Calls Tryd.prog 27 #[.int .u8 c] w fun e w' => e = .returned (.int .i64 (valI c)) ∧ w = w' := by
  by_cases a : 48 ≤ c ∧ c ≤ 57
  · have H : Hid (valI c = c - 48) := Lib.hid (by unfold valI; rw [if_pos a])
    obtain ⟨a1, a2⟩ := a
    go_enter Tryd.func27, Tryd.ntmps27
    go_wp2
    go_ret
    exact ⟨by rw [H.out]; rfl, rfl⟩
  · by_cases b : 97 ≤ c ∧ c ≤ 102
    · have H : Hid (valI c = c - 87) := Lib.hid (by unfold valI; rw [if_neg a, if_pos b])
      obtain ⟨b1, b2⟩ := b
      clear a
      go_enter Tryd.func27, Tryd.ntmps27
      go_wp2
      go_ret
      exact ⟨by rw [H.out]; exact ret_int (by omega), rfl⟩
    · by_cases d : 65 ≤ c ∧ c ≤ 70
      · have H : Hid (valI c = c - 55) := Lib.hid (by unfold valI; rw [if_neg a, if_neg b, if_pos d])
        obtain ⟨d1, d2⟩ := d
        clear a b
        go_enter Tryd.func27, Tryd.ntmps27
        go_wp2
        go_ret
        exact ⟨by rw [H.out]; exact ret_int (by omega), rfl⟩
      · have H : Hid (valI c = -1) := Lib.hid (by unfold valI; rw [if_neg a, if_neg b, if_neg d])
        go_enter Tryd.func27, Tryd.ntmps27
        go_wp2
        all_goals first
          | (exfalso; omega)
          | (go_ret; exact ⟨by rw [H.out]; rfl, rfl⟩)

theorem valI_lt (b : Nat) (hb : b = 10 ∨ b = 16) (c : UInt8) : digB b c = true → 0 ≤ valI c.toNat ∧ valI c.toNat < b ∧ valI c.toNat = (hexV c.toNat : Int) := by
  intro h
  have h' := (digB_iff b c).1 h
  unfold isDig isHex at h'
  unfold valI hexV
  rcases hb with rfl | rfl
  · rw [if_pos (by omega), if_pos (by omega)]
    omega
  · by_cases a : c.toNat ≤ 57
    · rw [if_pos (by omega), if_pos a]
      omega
    · rw [if_neg (by omega), if_neg a]
      by_cases d : c.toNat ≤ 70
      · rw [if_neg (by omega), if_pos (by omega), if_pos d]
        omega
      · rw [if_pos (by omega), if_neg d]
        omega
theorem valI_no (b : Nat) (hb : b = 10 ∨ b = 16) (c : UInt8) : digB b c = false → valI c.toNat < 0 ∨ (b : Int) ≤ valI c.toNat := by
  intro h
  have h' : ¬ isDig b c.toNat := fun h2 => by rw [(digB_iff b c).2 h2] at h; cases h
  unfold isDig isHex at h'
  unfold valI
  rcases hb with rfl | rfl
  · by_cases a : 48 ≤ (c.toNat : Int) ∧ (c.toNat : Int) ≤ 57
    · omega
    · rw [if_neg a]
      split
      · omega
      · split <;> omega
  · rw [if_neg (by omega), if_neg (by omega), if_neg (by omega)]
    omega

theorem natVal_snoc (b : Nat) (c : UInt8) : ∀ (l : List UInt8) (acc : Nat), natVal b acc (l ++ [c]) = natVal b acc l * b + hexV c.toNat
  | [], _ => rfl
  | d :: l, acc => natVal_snoc b c l (acc * b + hexV d.toNat)

theorem minus_short (l : List UInt8) (h : ¬ 0 < l.length) : minusB l = false := by
  obtain rfl : l = [] := List.eq_nil_of_length_eq_zero (by omega)
  rfl
theorem minus_at (l : List UInt8) (h : 0 < l.length) : minusB l = (l.getD 0 0 == 45) := by
  match l, h with
  | c :: r, _ =>
    show (45 == c && ([] : List UInt8).isPrefixOf r) = (c == 45)
    simp [Bool.beq_comm]
theorem plus_at (l : List UInt8) (h : 0 < l.length) : Lib.hasPrefix l [43] = (l.getD 0 0 == 43) := by
  match l, h with
  | c :: r, _ =>
    show (43 == c && ([] : List UInt8).isPrefixOf r) = (c == 43)
    simp [Bool.beq_comm]
theorem at_eq (s : ByteArray) (i : Nat) (p : i < s.size) (c : UInt8) (n : Int) (h : n = (c.toNat : Int)) : (((s[i]'p).toNat : Int) == n) = (s.data.toList.getD i 0 == c) := by
  have e : s.data.toList.getD i 0 = s[i]'p := by
    have : i < s.data.toList.length := by simpa using p
    rw [List.getD_eq_getElem?_getD, List.getElem?_eq_getElem this]
    rfl
  rw [e, h, Bool.eq_iff_iff, beq_iff_eq, beq_iff_eq]
  exact ⟨fun h => UInt8.toNat_inj.1 (Int.ofNat_inj.1 h), fun h => by rw [h]⟩
/-- what the reference's loop keeps -/
def RefR (b : Nat) (t : List UInt8) (n : Int) (over : Bool) : Prop := t.all (digB b) = true ∧ (over = false → n = natVal b 0 t) ∧ (over = true → 4611686018427387904 < natVal b 0 t)
/-- the body behind a sign, as the reference has it -/
theorem body_ref (l : List UInt8) : body1 l = if minusB l || (decide (0 < l.length) && l.getD 0 0 == 43) then l.drop 1 else l := by
  unfold body1 Lib.trimPrefix
  cases hm : minusB l
  · rw [if_neg (by simp)]
    by_cases h : 0 < l.length
    · rw [plus_at l h, decide_eq_true h]
      rfl
    · obtain rfl : l = [] := List.eq_nil_of_length_eq_zero (by omega)
      rfl
  · rw [if_pos rfl]
    rfl

set_option maxHeartbeats 4000000 in
set_option maxRecDepth 100000 in
theorem refParse_any (s : ByteArray) (hs : s.size ≤ 140737488351232) (w : World) :
    Calls Tryd.prog 10 #[.string s] w fun e w' => e = .returned (.tuple #[.int .i64 (parseS s.data.toList).1, .int .i64 (parseS s.data.toList).2]) ∧ w = w' := by
  have hl : s.data.toList.length = s.size := by simp
  have hl1 : (body1 s.data.toList).length ≤ 140737488351232 := by
    have := body1_le s.data.toList
    omega
  have HP : Hid (parseS s.data.toList = parseD (minusB s.data.toList) (baseN (body1 s.data.toList)) (body2 (body1 s.data.toList))) := Lib.hid rfl
  have HB := Lib.hid (body_ref s.data.toList)
  obtain ⟨r, hr⟩ : ∃ r, r = parseS s.data.toList := ⟨_, rfl⟩
  rw [← hr] at HP ⊢
  clear hr
  go_enter Tryd.func10, Tryd.ntmps10
  go_upto_region 1 with fail
  go_cut [4] (fun v4 wc => v4 = .bool (minusB s.data.toList) ∧ w = wc)
  case first =>
    by_cases h0 : 0 < s.size
    · have H := Lib.hid ((at_eq s 0 h0 45 45 rfl).trans (minus_at _ (by omega)).symm)
      go_wp2
      go_meet
      exact ⟨by rw [H.out], rfl⟩
    · have H := Lib.hid (minus_short s.data.toList (by omega))
      go_wp2
      go_meet
      exact ⟨by rw [H.out], rfl⟩
  case rest =>
    obtain ⟨rfl, rfl⟩ := hcut
    have HM : Hid (minusB s.data.toList = true → 0 < s.size) := Lib.hid (fun h => by
      by_cases h0 : 0 < s.size
      · exact h0
      · rw [minus_short _ (by omega)] at h; cases h)
    generalize minusB s.data.toList = m at HB HP HM
    go_upto_region 2 with fail
    go_cut [28] (fun v28 wc => v28 = .bool (m || (decide (0 < s.data.toList.length) && s.data.toList.getD 0 0 == 43)) ∧ w = wc)
    case first =>
      by_cases h0 : 0 < s.size
      · have H := Lib.hid (at_eq s 0 h0 43 43 rfl)
        have H2 := Lib.hid (decide_eq_true (show 0 < s.data.toList.length by omega))
        cases m
        all_goals
          go_wp2
          go_meet
          exact ⟨by rw [H2.out, ← H.out]; rfl, rfl⟩
      · have H2 := Lib.hid (decide_eq_false (show ¬ 0 < s.data.toList.length by omega))
        cases m
        all_goals
          go_wp2
          go_meet
          exact ⟨by rw [H2.out]; rfl, rfl⟩
    case rest =>
      obtain ⟨rfl, rfl⟩ := hcut
      generalize hs1 : body1 s.data.toList = l1 at HB HP hl1
      clear hs1
      go_upto_if 28 with fail
      go_cut [0] (fun v0 wc => (∃ s1 : ByteArray, v0 = .string s1 ∧ Hid (s1.data.toList = l1)) ∧ w = wc)
      case first =>
        cases hq : (m || (decide (0 < s.data.toList.length) && s.data.toList.getD 0 0 == 43))
        · have HE := Lib.hid (HB.out.trans (by rw [hq, if_neg (by simp)]))
          clear HB hq
          go_wp2
          go_meet
          exact ⟨⟨s, rfl, Lib.hid HE.out.symm⟩, rfl⟩
        · have HE := Lib.hid (HB.out.trans (by rw [hq, if_pos rfl]))
          have h0 : 0 < s.size := by
            rcases Bool.or_eq_true_iff.1 hq with h | h
            · exact HM.out h
            · have := of_decide_eq_true (Bool.and_eq_true_iff.1 h).1
              omega
          clear HB hq HM
          go_wp2
          go_meet
          refine ⟨⟨_, rfl, Lib.hid ?_⟩, rfl⟩
          rw [HE.out]
          simp
          rw [List.take_of_length_le (by simp)]
      case rest =>
        obtain ⟨⟨s1, rfl, Hs1⟩, rfl⟩ := hcut
        obtain rfl := Hs1.out
        clear HB HM Hs1
        have hl2 : s1.data.toList.length = s1.size := by simp
        go_upto_region 5 with fail
        go_cut [48] (fun v48 wc => v48 = .bool (hexB s1.data.toList) ∧ w = wc)
        case first =>
          by_cases h2 : 2 < s1.size
          · have e0 := at_eq s1 0 (by omega) 48 48 rfl
            have e1 := at_eq s1 1 (by omega) 120 120 rfl
            have e2 := at_eq s1 1 (by omega) 88 88 rfl
            have HX : Hid (hexB s1.data.toList = (s1.data.toList.getD 0 0 == 48 && (s1.data.toList.getD 1 0 == 88 || s1.data.toList.getD 1 0 == 120))) := Lib.hid (by
              unfold hexB
              rw [decide_eq_true (by omega)]
              rfl)
            generalize (s1.data.toList.getD 0 0 == 48) = b0 at e0 HX
            generalize (s1.data.toList.getD 1 0 == 120) = b1 at e1 HX
            generalize (s1.data.toList.getD 1 0 == 88) = b2 at e2 HX
            cases b0
            · go_wp2
              go_meet
              exact ⟨by rw [HX.out]; rfl, rfl⟩
            · cases b1
              · cases b2
                all_goals
                  go_wp2
                  go_meet
                  exact ⟨by rw [HX.out]; rfl, rfl⟩
              · go_wp2
                go_meet
                exact ⟨by rw [HX.out, Bool.or_true]; rfl, rfl⟩
          · have HX : Hid (hexB s1.data.toList = false) := Lib.hid (by
              unfold hexB
              rw [decide_eq_false (by omega)]
              rfl)
            go_wp2
            go_meet
            exact ⟨by rw [HX.out], rfl⟩
        case rest =>
          obtain ⟨rfl, rfl⟩ := hcut
          have HH1 := Lib.hid (hex_all s1.data.toList)
          have hl3 : (body2 s1.data.toList).length ≤ 140737488351232 := Nat.le_trans (body2_le _) hl1
          have hb0 := base_two s1.data.toList
          generalize hexB s1.data.toList = h at HH1
          generalize body2 s1.data.toList = d at HH1 HP hl3
          generalize baseN s1.data.toList = b at HH1 HP hb0
          go_upto_if 48 with fail
          go_cut [0, 5] (fun v0 v5 wc => (∃ s2 : ByteArray, v0 = .string s2 ∧ Hid (s2.data.toList = d)) ∧ (∃ j : Int, v5 = .int .i64 j ∧ Hid (j = (b : Int))) ∧ w = wc)
          case first =>
            cases h
            · have HE := Lib.hid (HH1.out.2 rfl)
              clear HH1
              go_wp2
              go_meet
              exact ⟨⟨_, rfl, Lib.hid HE.out.1.symm⟩, ⟨10, rfl, Lib.hid (by rw [HE.out.2]; rfl)⟩, rfl⟩
            · have HE := Lib.hid (HH1.out.1 rfl)
              have h2 : 2 ≤ s1.size := by have := (HE.out).1; omega
              clear HH1
              go_wp2
              go_meet
              refine ⟨⟨_, rfl, Lib.hid ?_⟩, ⟨16, rfl, Lib.hid (by rw [HE.out.2.2]; rfl)⟩, rfl⟩
              rw [HE.out.2.1]
              simp
              rw [List.take_of_length_le (by simp)]
          case rest =>
            obtain ⟨⟨s2, rfl, Hs2⟩, ⟨j, rfl, Hj⟩, rfl⟩ := hcut
            have hsz : s2.size ≤ 140737488351232 := by rw [Lib.size_eq, Hs2.out]; exact hl3
            have j0 : 0 < j := by have := Hj.out; omega
            have j1 : j ≤ 16 := by have := Hj.out; omega
            have j2 : (j == 0) = false := by rw [beq_eq_false_iff_ne]; omega
            clear HH1
            go_wp2_with fail
            go_loop [6, 7, 8] (fun v6 v7 v8 => ∃ (k : Nat) (n : Int) (over : Bool), v6 = .int .i64 n ∧ v7 = .bool over ∧ v8 = .int .i64 k ∧ k ≤ s2.size ∧ 0 ≤ n ∧ n ≤ 4611686018427387904 ∧
              Hid (RefR b (d.take k) n over)) (fun _ _ v8 => s2.size - (intOf v8).toNat)
            case atStart => exact ⟨0, 0, false, rfl, rfl, rfl, by omega, by omega, by omega, Lib.hid ⟨rfl, (fun _ => rfl), (fun h => by cases h)⟩⟩
            case round =>
              obtain ⟨k, n, over, rfl, rfl, rfl, hk, n0, n1, HR⟩ := hrel
              by_cases hlt : k < s2.size
              · have hc0 : 0 ≤ ((s2[k]'hlt).toNat : Int) := by omega
                have hc1 : ((s2[k]'hlt).toNat : Int) < 256 := by have := (s2[k]'hlt).toNat_lt; omega
                have hdk : d.take (k + 1) = d.take k ++ [s2[k]'hlt] := by
                  have : k < s2.data.toList.length := by simpa using hlt
                  rw [← Hs2.out, List.take_succ_eq_append_getElem this]
                  rfl
                have hmem : (s2[k]'hlt) ∈ d := List.mem_of_mem_take (by rw [hdk]; simp : (s2[k]'hlt) ∈ d.take (k + 1))
                have HV := Lib.hid (fun w => value_any ((s2[k]'hlt).toNat : Int) hc0 hc1 w)
                cases hd : digB b (s2[k]'hlt)
                · have hno := valI_no b hb0 _ hd
                  obtain rfl : r = (0, 3) := by
                    rw [HP.out, parseD, if_neg (fun h => by rw [h] at hmem; cases hmem), if_neg]
                    intro h
                    have := List.all_eq_true.1 h _ hmem
                    rw [hd] at this
                    cases this
                  have hno' : valI ((s2[k]'hlt).toNat : Int) < 0 ∨ j ≤ valI ((s2[k]'hlt).toNat : Int) := by have := Hj.out; omega
                  generalize valI ((s2[k]'hlt).toNat : Int) = x at HV hno'
                  clear hno HR hd hmem hdk HP
                  by_cases hx : x < 0
                  · go_wp2_with (go_at_call 27; refine (HV.out _).mono ?_; rintro e w' ⟨rfl, rfl⟩)
                    go_ret2
                    exact ⟨rfl, rfl⟩
                  · have hx2 : j ≤ x := by omega
                    clear hno'
                    go_wp2_with (go_at_call 27; refine (HV.out _).mono ?_; rintro e w' ⟨rfl, rfl⟩)
                    go_ret2
                    exact ⟨rfl, rfl⟩
                · obtain ⟨q0, q1, q2⟩ := valI_lt b hb0 _ hd
                  have HS := Lib.hid (natVal_snoc b (s2[k]'hlt) (d.take k) 0)
                  rw [← hdk] at HS
                  have HA : Hid ((d.take (k + 1)).all (digB b) = true) := Lib.hid (by rw [hdk, List.all_append, HR.out.1]; simp [hd])
                  have HQ := Lib.hid q2
                  have q1' : valI ((s2[k]'hlt).toNat : Int) < j := by have := Hj.out; omega
                  generalize valI ((s2[k]'hlt).toNat : Int) = x at HV q0 q1' HQ
                  clear q1 q2 hd hmem hdk
                  cases over
                  · have hn := HR.out.2.1 rfl
                    have hj := Hj.out
                    have hq : decide ((4611686018427387904 - x) / j < n) = decide (4611686018427387904 < n * j + x) := by
                      rw [decide_eq_decide, Int.ediv_lt_iff_lt_mul j0]
                      omega
                    have hS : (natVal b 0 (d.take (k + 1)) : Int) = n * j + x := by
                      rw [HS.out, hn, hj, HQ.out]
                      simp
                    have m0 : 0 ≤ n * j := Int.mul_nonneg n0 (by omega)
                    by_cases hbig : 4611686018427387904 < n * j + x
                    · have hqt := hq.trans (decide_eq_true hbig)
                      have HN : Hid (RefR b (d.take (k + 1)) n true) :=
                        Lib.hid ⟨HA.out, (fun h => by cases h), fun _ => by omega⟩
                      clear hq hS hn hj HR HS HA HQ m0 hbig
                      go_wp2_with (go_at_call 27; refine (HV.out _).mono ?_; rintro e w' ⟨rfl, rfl⟩)
                      go_round
                      case rel => exact ⟨k + 1, n, true, rfl, rfl, by go_num, by omega, n0, n1, HN⟩
                      case measure => simp [intOf]; omega
                    · have hqt := hq.trans (decide_eq_false hbig)
                      have HN : Hid (RefR b (d.take (k + 1)) (n * j + x) false) :=
                        Lib.hid ⟨HA.out, (fun _ => hS.symm), (fun h => by cases h)⟩
                      have m1 : n * j ≤ 4611686018427387904 := by omega
                      have m2 : n * j + x ≤ 4611686018427387904 := by omega
                      clear hq hS hn hj HR HS HA HQ hbig
                      go_wp2_with (go_at_call 27; refine (HV.out _).mono ?_; rintro e w' ⟨rfl, rfl⟩)
                      go_round
                      case rel => exact ⟨k + 1, n * j + x, false, by first | rfl | (congr 1; unfold wrap64; omega), rfl, by go_num, by omega, by omega, m2, HN⟩
                      case measure => simp [intOf]; omega
                  · have hb1 : 1 ≤ b := by rcases hb0 with h | h <;> omega
                    have HN : Hid (RefR b (d.take (k + 1)) n true) :=
                      Lib.hid ⟨HA.out, (fun h => by cases h), fun _ => by
                        have h1 := HR.out.2.2 rfl
                        have h2 : natVal b 0 (d.take k) * 1 ≤ natVal b 0 (d.take k) * b := Nat.mul_le_mul_left _ hb1
                        show 4611686018427387904 < natVal b 0 (d.take (k + 1))
                        rw [HS.out]
                        omega⟩
                    clear HR HS HA HQ hb1
                    go_wp2_with (go_at_call 27; refine (HV.out _).mono ?_; rintro e w' ⟨rfl, rfl⟩)
                    go_round
                    case rel => exact ⟨k + 1, n, true, rfl, rfl, by go_num, by omega, n0, n1, HN⟩
                    case measure => simp [intOf]; omega
              · obtain rfl : k = s2.size := by omega
                have hdl : d.take s2.size = d := List.take_of_length_le (by rw [← Hs2.out]; simp)
                have HR2 := HR.out
                rw [hdl] at HR2
                have HR3 := Lib.hid HR2
                clear HR2 HR hdl
                by_cases h0 : s2.size = 0
                · obtain rfl : r = (0, 3) := by
                    rw [HP.out, parseD, if_pos]
                    apply List.eq_nil_of_length_eq_zero
                    rw [← Hs2.out]
                    simpa using h0
                  have h0' : ((s2.size : Int) == 0) = true := by rw [beq_iff_eq]; omega
                  clear HR3 HP h0
                  go_wp2
                  go_ret2
                  exact ⟨rfl, rfl⟩
                · have hr : r = valOf m (natVal b 0 d) := by
                    rw [HP.out, parseD, if_neg, if_pos HR3.out.1]
                    intro h
                    apply h0
                    rw [Lib.size_eq, Hs2.out, h]
                    rfl
                  have h0' : ((s2.size : Int) == 0) = false := by rw [beq_eq_false_iff_ne]; omega
                  clear HP h0
                  cases over
                  · have hn := HR3.out.2.1 rfl
                    cases m
                    · obtain rfl : r = (n, 0) := by
                        rw [hr, valOf, if_neg (by omega), hn]
                        rfl
                      clear HR3 hr hn
                      go_wp2
                      go_ret2
                      exact ⟨rfl, rfl⟩
                    · obtain rfl : r = (-n, 0) := by
                        rw [hr, valOf, if_neg (by omega), hn]
                        rfl
                      clear HR3 hr hn
                      go_wp2
                      go_ret2
                      exact ⟨rfl, rfl⟩
                  · have hn := HR3.out.2.2 rfl
                    obtain rfl : r = (0, 5) := by
                      rw [hr, valOf, if_pos hn]
                    clear HR3 hr hn
                    go_wp2
                    go_ret2
                    exact ⟨rfl, rfl⟩
end Go.Proofs.YtcflggahmjenfaaDoor
