/- num.Parse, for every text: 'parseS' of its bytes. -/
import Derived.Test.YtcflggahmjenfaaDoorNumSpec
import Derived.Test.YtcflggahmjenfaaDoorNumIs
import Derived.Deep.DeepCutAuto
import Derived.Deep.CutBlock
import Derived.Deep.QuietTactic
import Derived.BigQuiet
namespace Go.Proofs.YtcflggahmjenfaaDoor
open Go.RowKit

theorem or32 (c : Nat) (h : c < 256) : ((bits .or .u8 (c : Int) 32) == 120) = (c == 88 || c == 120) := by
  have h' : ∀ c : Fin 256, ((bits .or .u8 ((c.val : Nat) : Int) 32) == 120) = (c.val == 88 || c.val == 120) := by decide +kernel
  exact h' ⟨c, h⟩

theorem cut_minus (s : ByteArray) (w : World) :
    Calls Tryd.prog 21 #[.string s, .string ⟨#[45]⟩] w fun e w' => e = .returned (.tuple #[.string ⟨(Lib.trimPrefix s.data.toList [45]).toArray⟩, .bool (minusB s.data.toList)]) ∧ w = w' :=
  (Tryd.strings_CutPrefix s ⟨#[45]⟩ w).mono fun _ _ ⟨he, hw⟩ => ⟨he, hw.symm⟩
theorem trim_plus (s : ByteArray) (w : World) :
    Calls Tryd.prog 22 #[.string s, .string ⟨#[43]⟩] w fun e w' => e = .returned (.string ⟨(Lib.trimPrefix s.data.toList [43]).toArray⟩) ∧ w = w' :=
  (Tryd.strings_TrimPrefix s ⟨#[43]⟩ w).mono fun _ _ ⟨he, hw⟩ => ⟨he, hw.symm⟩
theorem trim_yes (l : List UInt8) (h : minusB l = true) : Lib.trimPrefix l [45] = body1 l := by
  unfold body1 Lib.trimPrefix
  rw [if_pos h, show Lib.hasPrefix l [45] = true from h, if_pos rfl]
  rfl
theorem trim_no (l : List UInt8) (h : minusB l = false) : Lib.trimPrefix l [43] = body1 l := by
  unfold body1
  rw [h, if_neg (by simp)]

theorem at_toArray (l : List UInt8) (i : Nat) (h : i < (⟨l.toArray⟩ : ByteArray).size) : (⟨l.toArray⟩ : ByteArray)[i]'h = l.getD i 0 := by
  have h' : i < l.length := by simpa [ByteArray.size] using h
  rw [List.getD_eq_getElem?_getD, List.getElem?_eq_getElem h']
  rfl
theorem hex_short (l : List UInt8) (h : (l.length : Int) ≤ 2) : hexB l = false := by
  unfold hexB
  rw [decide_eq_false (by omega)]
  rfl
theorem hex_no0 (l : List UInt8) (_h : 2 < (l.length : Int)) {p : 0 < (⟨l.toArray⟩ : ByteArray).size} (h0 : ¬ ((((⟨l.toArray⟩ : ByteArray)[0]'p).toNat : Int) = 48)) : hexB l = false := by
  unfold hexB
  rw [at_toArray] at h0
  have e : (l.getD 0 0 == 48) = false := by
    rw [beq_eq_false_iff_ne]
    intro e
    rw [e] at h0
    exact h0 rfl
  rw [e]
  simp
theorem hex_yes (l : List UInt8) (h : 2 < (l.length : Int)) {p : 0 < (⟨l.toArray⟩ : ByteArray).size} {q : 1 < (⟨l.toArray⟩ : ByteArray).size} (h0 : (((⟨l.toArray⟩ : ByteArray)[0]'p).toNat : Int) = 48) :
    hexB l = (bits .or .u8 (((⟨l.toArray⟩ : ByteArray)[1]'q).toNat : Int) 32 == 120) := by
  have e88 : ∀ c : UInt8, (c == 88) = (c.toNat == 88) := by
    intro c
    rw [Bool.eq_iff_iff, beq_iff_eq, beq_iff_eq]
    exact ⟨fun h => by rw [h]; rfl, fun h => UInt8.toNat_inj.1 h⟩
  have e120 : ∀ c : UInt8, (c == 120) = (c.toNat == 120) := by
    intro c
    rw [Bool.eq_iff_iff, beq_iff_eq, beq_iff_eq]
    exact ⟨fun h => by rw [h]; rfl, fun h => UInt8.toNat_inj.1 h⟩
  rw [at_toArray] at h0 ⊢
  unfold hexB
  have e : (l.getD 0 0 == 48) = true := by
    rw [beq_iff_eq]
    apply UInt8.toNat_inj.1
    exact Int.ofNat_inj.1 h0
  rw [e, decide_eq_true (by omega), or32 _ (UInt8.toNat_lt _), e88, e120]
  rfl
theorem bl_drewN {a w : World} (n : Nat) (h : Below a.heap.size a w) : Below a.heap.size a (w.drewN n) := h.trans ⟨rfl, rfl, rfl, Nat.le_refl _, fun _ _ => rfl⟩
theorem hex_body (l : List UInt8) : hexB l = true → 2 ≤ l.length := by
  unfold hexB
  intro h
  have := (Bool.and_eq_true _ _ ▸ h).1
  simp at this
  omega
theorem hex_all (l : List UInt8) : (hexB l = true → 2 ≤ l.length ∧ body2 l = l.drop 2 ∧ baseN l = 16) ∧ (hexB l = false → body2 l = l ∧ baseN l = 10) := by
  unfold body2 baseN
  constructor
  · intro h
    exact ⟨hex_body l h, by rw [if_pos h], by rw [if_pos h]⟩
  · intro h
    exact ⟨by rw [h, if_neg (by simp)], by rw [h, if_neg (by simp)]⟩
theorem base_two (l : List UInt8) : baseN l = 10 ∨ baseN l = 16 := by
  unfold baseN
  split
  · exact .inr rfl
  · exact .inl rfl

set_option maxHeartbeats 4000000 in
set_option maxRecDepth 100000 in
theorem parse_any (s : ByteArray) (hs : s.size ≤ 140737488351232) (w : World) (hG : Gl w) :
    Calls Tryd.prog 9 #[.string s] w fun e w' => e = .returned (.tuple #[.int .i64 (parseS s.data.toList).1, .int .i64 (parseS s.data.toList).2]) ∧ Below w.heap.size w w' := by
  have hl1 : (body1 s.data.toList).length ≤ 140737488351232 := by
    have := body1_le s.data.toList
    have h2 : s.data.toList.length = s.size := by simp
    omega
  have HP : Hid (parseS s.data.toList = parseD (minusB s.data.toList) (baseN (body1 s.data.toList)) (body2 (body1 s.data.toList))) := Lib.hid rfl
  have HT1 := Lib.hid (trim_yes s.data.toList)
  have HT2 := Lib.hid (trim_no s.data.toList)
  obtain ⟨r, hr⟩ : ∃ r, r = parseS s.data.toList := ⟨_, rfl⟩
  rw [← hr] at HP ⊢
  clear hr
  go_enter Tryd.func9, Tryd.ntmps9
  go_upto_if 16 with (go_at_call 21; refine (cut_minus _ _).mono ?_; rintro e w' ⟨rfl, rfl⟩)
  generalize hm : minusB s.data.toList = m at HP HT1 HT2
  clear hm
  generalize body1 s.data.toList = l1 at HP HT1 HT2 hl1
  go_cut [0, 4] (fun v0 v4 wc => v0 = .string ⟨l1.toArray⟩ ∧ (∃ i : Int, v4 = .int .u64 i ∧ Hid (i = if m then 1 else 0)) ∧ w = wc)
  case first =>
    cases m
    · go_wp2_with (go_at_call 22; refine (trim_plus _ _).mono ?_; rintro e w' ⟨rfl, rfl⟩)
      go_meet
      exact ⟨by rw [HT2.out trivial], ⟨0, rfl, Lib.hid rfl⟩, rfl⟩
    · go_wp2
      go_meet
      exact ⟨by rw [HT1.out trivial], ⟨1, rfl, Lib.hid rfl⟩, rfl⟩
  case rest =>
    obtain ⟨rfl, ⟨i, rfl, Hi⟩, rfl⟩ := hcut
    clear HT1 HT2
    go_upto_region 7 with fail
    go_cut [33] (fun v33 wc => v33 = .bool (hexB l1) ∧ w = wc)
    case first =>
      go_wp2
      · go_meet
        exact ⟨by rw [hex_yes l1 (by assumption) (by assumption)], rfl⟩
      · go_meet
        exact ⟨by rw [hex_no0 l1 (by assumption) (by assumption)], rfl⟩
      · go_meet
        exact ⟨by rw [hex_short l1 (by assumption)], rfl⟩
    case rest =>
      obtain ⟨rfl, rfl⟩ := hcut
      have HH1 := Lib.hid (hex_all l1)
      have hl2 : (body2 l1).length ≤ 140737488351232 := Nat.le_trans (body2_le l1) hl1
      have hb0 := base_two l1
      generalize hexB l1 = h at HH1
      generalize body2 l1 = d at HH1 HP hl2
      generalize baseN l1 = b at HH1 HP hb0
      go_upto_if 33 with fail
      go_cut [0, 7, 8] (fun v0 v7 v8 wc => (∃ s2 : ByteArray, v0 = .string s2 ∧ Hid (s2.data.toList = d)) ∧ (∃ j : Int, v7 = .int .i64 j ∧ Hid (j = (b : Int))) ∧ v8 = .string (digsOf b) ∧ Below w.heap.size w wc)
      case first =>
        cases h
        · have HE := Lib.hid (HH1.out.2 rfl)
          clear HH1
          go_wp2
          go_meet
          exact ⟨⟨_, rfl, Lib.hid (by rw [HE.out.1])⟩, ⟨10, rfl, Lib.hid (by rw [HE.out.2]; rfl)⟩, by rw [HE.out.2]; rfl, Below.refl _ _⟩
        · have HE := Lib.hid (HH1.out.1 rfl)
          have h2 : 2 ≤ l1.length := (HE.out).1
          clear HH1
          have h2' : (2 : Int) ≤ (l1.length : Int) := by omega
          go_wp2_with fail
          go_quiet (fail)
          go_wp2
          go_meet
          refine ⟨⟨_, rfl, Lib.hid ?_⟩, ⟨16, rfl, Lib.hid (by rw [HE.out.2.2]; rfl)⟩, ?_, bl_drewN _ (Below.refl _ _)⟩
          · rw [HE.out.2.1]
            simp
            rw [List.take_of_length_le (by simp)]
          · rw [HE.out.2.2]
            exact rfl
      case rest =>
        obtain ⟨⟨s2, rfl, Hs2⟩, ⟨j, rfl, Hj⟩, rfl, hbw⟩ := hcut
        have hsz : s2.size ≤ 140737488351232 := by rw [Lib.size_eq, Hs2.out]; exact hl2
        have hG1 := hG.below hbw
        clear HH1 hl1 hl2 hG
        by_cases h0 : s2.size = 0
        · obtain rfl : s2 = ⟨#[]⟩ := by
            apply ByteArray.ext
            exact Array.eq_empty_of_size_eq_zero h0
          obtain rfl : r = (0, 3) := by
            rw [HP.out, ← Hs2.out]
            rfl
          clear HP
          go_wp2
          go_ret2
          exact ⟨rfl, hbw⟩
        · have hemp : s2.toList.isEmpty = false := by
            rw [← decide_eq_emptyBytes]
            exact decide_eq_false (fun h => h0 (by rw [h]; rfl))
          have hc := cuts b hb0 s2
          rw [Hs2.out] at hc
          have hd : d ≠ [] := fun h => h0 (by rw [Lib.size_eq, Hs2.out, h]; rfl)
          have hL := cutLeft_any s2 (digsOf b)
          have htsz : (s2.extract (cutAt s2 (digsOf b) s2.size 0) s2.size).size ≤ 140737488351232 := by rw [ByteArray.size_extract]; omega
          generalize s2.extract (cutAt s2 (digsOf b) s2.size 0) s2.size = t at hc hL htsz
          have hR := cutRight_any t (digsOf b)
          have HL := Lib.hid hL
          have HR := Lib.hid hR
          have HC := Lib.hid hc
          clear hL hR hc
          cases hall : d.all (digB b)
          · obtain rfl : r = (0, 3) := by
              rw [HP.out, parseD, if_neg hd, hall]
              rfl
            have hpos := HC.out.2 hall
            generalize t.extract 0 (cutEnd t (digsOf b) t.size) = u at hpos HR
            have hu : u.toList.isEmpty = false := by
              rw [← decide_eq_emptyBytes]
              exact decide_eq_false (fun h => by rw [h] at hpos; exact absurd hpos (by decide))
            clear HC HP hall hpos
            go_wp2_with fail
            refine (HL.out _ (digs_ascii b)).mono ?_
            rintro e w1 ⟨rfl, hb1⟩
            have hbw1 := hbw.trans (hb1.mono hbw.size)
            have hG2 := hG1.below hb1
            clear hb1 hG1
            go_wp2_with fail
            refine (HR.out _ (digs_ascii b) htsz hG2).mono ?_
            rintro e w2 ⟨rfl, hb2⟩
            have hbw2 := hbw1.trans (hb2.mono hbw1.size)
            go_wp2
            go_ret2
            exact ⟨rfl, hbw2⟩
          · have hr : r = valOf m (natVal b 0 d) := by
              rw [HP.out, parseD, if_neg hd, if_pos hall]
            have ht := HC.out.1 hall
            clear HP HC
            subst ht
            have hx : ∀ c ∈ s2.data.toList, isDig b c.toNat := fun c hc => (digB_iff b c).1 (List.all_eq_true.1 hall c (Hs2.out ▸ hc))
            have hu : (⟨#[]⟩ : ByteArray).extract 0 (cutEnd ⟨#[]⟩ (digsOf b) (⟨#[]⟩ : ByteArray).size) = ⟨#[]⟩ := by
              apply ByteArray.ext
              simp
            have HR1 : Hid (∀ w : World, Gl w → Calls Tryd.prog 23 #[.string ⟨#[]⟩, .string (digsOf b)] w fun e w' => e = .returned (.string ⟨#[]⟩) ∧ Below w.heap.size w w') :=
              Lib.hid (fun w hw => by have := HR.out w (digs_ascii b) htsz hw; rw [hu] at this; exact this)
            have HX := Lib.hid hx
            clear hx hu HR htsz hall hd
            go_wp2_with fail
            refine (HL.out _ (digs_ascii b)).mono ?_
            rintro e w1 ⟨rfl, hb1⟩
            have hbw1 := hbw.trans (hb1.mono hbw.size)
            have hG2 := hG1.below hb1
            clear hb1 hG1 HL hbw
            go_wp2_with fail
            refine (HR1.out _ hG2).mono ?_
            rintro e w2 ⟨rfl, hb2⟩
            have hbw2 := hbw1.trans (hb2.mono hbw1.size)
            have hG3 := hG2.below hb2
            clear hb2 hG2 hbw1 HR1
            obtain rfl : j = (b : Int) := Hj.out
            by_cases hv : natVal b 0 d < 18446744073709551616
            · have HPU := Lib.hid (fun w => pub_ok b hb0 s2 hsz h0 HX.out w (Hs2.out ▸ hv))
              rw [Hs2.out] at HPU
              generalize natVal b 0 d = v at HPU hr hv
              obtain ⟨a, ha⟩ : ∃ a : Int, a = (v : Int) := ⟨_, rfl⟩
              rw [← ha] at HPU
              have a0 : 0 ≤ a := by omega
              have a1 : a < 18446744073709551616 := by omega
              have HA := Lib.hid ha
              have HRR := Lib.hid hr
              clear ha hv hr
              go_wp2_with fail
              refine (HPU.out _).mono ?_
              rintro e w3 ⟨rfl, hb3⟩
              have hbw3 := hbw2.trans (hb3.mono hbw2.size)
              have hG4 := hG3.below hb3
              clear hb3 hG3 hbw2 HPU
              obtain ⟨ra, hra⟩ := hG4.rng
              go_wp2_with fail
              refine (is_nil ra _).mono ?_
              rintro e w4 ⟨rfl, hw4⟩
              obtain rfl := hw4.symm
              by_cases hbig : 4611686018427387904 < a
              · obtain rfl : r = (0, 5) := by
                  rw [HRR.out, valOf, if_pos (by have := HA.out; omega)]
                clear HRR HA
                go_wp2
                go_ret2
                exact ⟨rfl, hbw3⟩
              · have hsm : a ≤ 4611686018427387904 := by omega
                clear hbig
                cases m
                · obtain rfl : r = (a, 0) := by
                    rw [HRR.out, valOf, if_neg (by have := HA.out; omega), HA.out]
                    rfl
                  obtain rfl : i = 0 := Hi.out
                  clear HRR HA Hi
                  go_wp2
                  go_ret2
                  exact ⟨rfl, hbw3⟩
                · obtain rfl : r = (-a, 0) := by
                    rw [HRR.out, valOf, if_neg (by have := HA.out; omega), HA.out]
                    rfl
                  obtain rfl : i = 1 := Hi.out
                  clear HRR HA Hi
                  go_wp2
                  go_ret2
                  exact ⟨rfl, hbw3⟩
            · have HPU := Lib.hid (fun w hw => pub_range b hb0 s2 hsz h0 HX.out w hw (by rw [Hs2.out]; omega))
              obtain rfl : r = (0, 5) := by
                rw [hr, valOf, if_pos (by omega)]
              clear hr hv
              go_wp2_with fail
              refine (HPU.out _ hG3).mono ?_
              rintro e w3 ⟨N, ra, rfl, hN, hra, hb3⟩
              have hbw3 := hbw2.trans (hb3.mono hbw2.size)
              clear hb3 hG3 hbw2 HPU
              go_wp2_with fail
              refine (is_wrap_same N 0 ra _ hN).mono ?_
              rintro e w4 ⟨rfl, hw4⟩
              obtain rfl := hw4.symm
              go_wp2
              go_ret2
              exact ⟨rfl, hbw3⟩
end Go.Proofs.YtcflggahmjenfaaDoor
