/- The walk of CondNumbers. -/
import Derived.Test.YtpjmccajkcmmaaaGreatDoorCnAM
import Derived.Test.YtpjmccajkcmmaaaGreatDoorTu
namespace Go.Proofs.YtpjmccajkcmmaaaGreatDoor
open Go.RowKit

theorem dec_no_dollar (u : Nat) : ∀ c ∈ Lib.decDigits u, c ≠ 36 := by
  intro c hc e
  subst e
  have h := List.all_eq_true.1 (dec_digits u).1 36 hc
  exact absurd h (by decide)
theorem itoa_no_dollar (n : Int) : ∀ c ∈ Lib.itoa n, c ≠ 36 := by
  intro c hc
  unfold Lib.itoa at hc
  split at hc
  · rcases List.mem_cons.1 hc with rfl | h
    · decide
    · exact dec_no_dollar _ c h
  · exact dec_no_dollar _ c hc
theorem itoa_len (n : Int) (h0 : -1099511627776 ≤ n) (h1 : n ≤ 1099511627776) : (Lib.itoa n).length ≤ 21 := by
  unfold Lib.itoa
  split
  · have := nDigits_le 19 n.natAbs (by omega)
    rw [List.length_cons, Lib.decDigits_length]
    omega
  · have := nDigits_le 19 n.toNat (by omega)
    rw [Lib.decDigits_length]
    omega
theorem parse_plus0 (m : Int) (h0 : 0 ≤ m) (h1 : m ≤ 1099511627776) : parseS (43 :: 48 :: Lib.itoa m) = (m, 0) := by
  have hi : Lib.itoa m = Lib.decDigits m.toNat := by unfold Lib.itoa; rw [if_neg (by omega)]
  obtain ⟨d1, d2, d3⟩ := dec_digits m.toNat
  rw [hi]
  have ha : (48 :: Lib.decDigits m.toNat).all (digB 10) = true := noughts_all 1 _ d1
  have hv : natVal 10 0 (48 :: Lib.decDigits m.toNat) = m.toNat := by
    have := noughts 1 (Lib.decDigits m.toNat)
    rw [d2] at this
    exact this
  rw [parse_plus _ (by simp) ha, hv, valOf, if_neg (by omega), if_neg (by simp)]
  congr 1
  omega

def opsL : List (List UInt8) := [[61, 61], [33, 61], [60], [60, 61], [62], [62, 61]]
def wantsL (n m : Int) : List Bool := [n == m, n != m, decide (n < m), decide (n ≤ m), decide (m < n), decide (m ≤ n)]
theorem want_all {vb : Nat} {mb : Nat → Nat} {la lm : List UInt8} {sp : Option Addr} {n m : Int} (hl1 : la.length ≤ 100) (hl2 : lm.length ≤ 100) (hp1 : ∀ c ∈ la, c ≠ 36) (hp2 : ∀ c ∈ lm, c ≠ 36) (hv1 : parseS la = (n, 0)) (hv2 : parseS lm = (m, 0)) (i : Nat) (hi : i < 6) :
    ∃ op want x, opsL[i]? = some op ∧ (wantsL n m)[i]? = some want ∧ op.length ≤ 2 ∧ readC (opTxt op) 12 = some (x, 0, 0) ∧ ∀ W, asksA (mkA W vb mb [([65], la), ([66], lm)] 200 sp) x (0, 0) = some (want, (0, 0)) := by
  have hg1 : getS (putAll newVs [([65], la), ([66], lm)]) [65] = some la := by simp [putAll, putVs, newVs, getS, getFrom, putT, findT]
  have hg2 : getS (putAll newVs [([65], la), ([66], lm)]) [66] = some lm := by simp [putAll, putVs, newVs, getS, getFrom, putT, findT]
  have H := fun W op (ho : op ≠ []) => cmp_nums (mkA W vb mb [([65], la), ([66], lm)] 200 sp) op la lm n m rfl (by show (150 : Int) ≤ 200; omega) hg1 hg2 hp1 hp2 hl1 hl2 hv1 hv2 ho
  match i, hi with
  | 0, _ => exact ⟨_, _, _, rfl, rfl, by decide, read_eq, fun W => by rw [H W _ (by simp)]; simp⟩
  | 1, _ => exact ⟨_, _, _, rfl, rfl, by decide, read_ne, fun W => by rw [H W _ (by simp)]; simp [bne]⟩
  | 2, _ => exact ⟨_, _, _, rfl, rfl, by decide, read_lt, fun W => by rw [H W _ (by simp)]; simp⟩
  | 3, _ => exact ⟨_, _, _, rfl, rfl, by decide, read_le, fun W => by rw [H W _ (by simp)]; simp⟩
  | 4, _ => exact ⟨_, _, _, rfl, rfl, by decide, read_gt, fun W => by rw [H W _ (by simp)]; simp⟩
  | 5, _ => exact ⟨_, _, _, rfl, rfl, by decide, read_ge, fun W => by rw [H W _ (by simp)]; simp⟩
abbrev litO (n m : Int) : Obj := .cells #[.string ⟨#[61, 61]⟩, .bool (n == m), .string ⟨#[33, 61]⟩, .bool (n != m), .string ⟨#[60]⟩, .bool (decide (n < m)), .string ⟨#[60, 61]⟩, .bool (decide (n ≤ m)), .string ⟨#[62]⟩, .bool (decide (m < n)), .string ⟨#[62, 61]⟩, .bool (decide (m ≤ n))] 48 (0, 0)
theorem lit_at {W : World} {b : Nat} {n m : Int} (h : W.heap[b]? = some (litO n m)) (i : Nat) (hi : i < 6) (op : List UInt8) (want : Bool) (ho : opsL[i]? = some op) (hw : (wantsL n m)[i]? = some want) : W.cell? ⟨b, i * 2, none⟩ = some (.string ⟨op.toArray⟩) ∧ W.cell? ⟨b, i * 2 + 1, none⟩ = some (.bool want) := by
  match i, hi with
  | 0, _ => cases ho; cases hw; exact ⟨Lib.cell_of_heap h 0, Lib.cell_of_heap h 1⟩
  | 1, _ => cases ho; cases hw; exact ⟨Lib.cell_of_heap h 2, Lib.cell_of_heap h 3⟩
  | 2, _ => cases ho; cases hw; exact ⟨Lib.cell_of_heap h 4, Lib.cell_of_heap h 5⟩
  | 3, _ => cases ho; cases hw; exact ⟨Lib.cell_of_heap h 6, Lib.cell_of_heap h 7⟩
  | 4, _ => cases ho; cases hw; exact ⟨Lib.cell_of_heap h 8, Lib.cell_of_heap h 9⟩
  | 5, _ => cases ho; cases hw; exact ⟨Lib.cell_of_heap h 10, Lib.cell_of_heap h 11⟩
structure CnJ (w : World) (p lit vb : Nat) (mb : Nat → Nat) (L : TMap) (sp : Option Addr) (n m : Int) (W : World) : Prop where
  box : W.heap[p]? = some (wO vb sp 200)
  lit : W.heap[lit]? = some (litO n m)
  vars : IsVars vb mb (putAll newVs L) W
  below : Below w.heap.size w W
theorem CnJ.go {w : World} {p lit vb : Nat} {mb : Nat → Nat} {L : TMap} {sp : Option Addr} {n m : Int} {W W' : World} (h : CnJ w p lit vb mb L sp n m W) (hb : Below W.heap.size W W') : CnJ w p lit vb mb L sp n m W' :=
  ⟨(hb.block _ (Array.getElem?_eq_some_iff.1 h.box).1).trans h.box, (hb.block _ (Array.getElem?_eq_some_iff.1 h.lit).1).trans h.lit, h.vars.below hb, h.below.trans (hb.mono h.below.size)⟩

set_option maxHeartbeats 8000000 in
set_option maxRecDepth 100000 in
theorem condNumbers_any (a b : Int) (w : World) (hG : Gl w) : Calls Tryz.prog 5 #[.int .i64 a, .int .i64 b] w fun e w' => e = .returned (.bool true) ∧ Below w.heap.size w w' := by
  have HD := Lib.hid (fun n h0 h1 W => digits_any n h0 h1 W)
  have hn : -1099511627776 < a.tmod 1099511627776 ∧ a.tmod 1099511627776 < 1099511627776 := ⟨Int.lt_tmod_of_pos a (by omega), Int.tmod_lt_of_pos a (by omega)⟩
  have hm : -1099511627776 < b.tmod 1099511627776 ∧ b.tmod 1099511627776 < 1099511627776 := ⟨Int.lt_tmod_of_pos b (by omega), Int.tmod_lt_of_pos b (by omega)⟩
  go_enter Tryz.func5, Tryz.ntmps5
  go_wp2_with fail
  generalize a.tmod 1099511627776 = n at hn ⊢
  generalize b.tmod 1099511627776 = m0 at hm ⊢
  obtain ⟨m, hmm⟩ : ∃ m, m = max m0 0 := ⟨_, rfl⟩
  go_at_call 11
  refine (HD.out n (by omega) (by omega) _).mono ?_
  rintro e w1 ⟨rfl, hb1⟩
  have HB1 := Lib.hid hb1
  go_wp2_with fail
  rw [← hmm]
  have hm0 : 0 ≤ m ∧ m < 1099511627776 := by omega
  have hmx : max m0 0 = m := hmm.symm
  have hmxm : max m 0 = m := by omega
  clear hmm hm
  go_at_call 11
  refine (HD.out m (by omega) (by omega) _).mono ?_
  rintro e w2 ⟨rfl, hb2⟩
  have HB2 := Lib.hid (hb1.trans (hb2.mono hb1.size))
  have hl1 := itoa_len n (by omega) (by omega)
  have hl2 := itoa_len m (by omega) (by omega)
  have hp1 := itoa_no_dollar n
  have hp2 := itoa_no_dollar m
  have hv1 : parseS (Lib.itoa n) = (n, 0) := by
    have := parse_itoa n
    rw [if_neg (by omega)] at this
    exact this
  have hv2 := parse_plus0 m hm0.1 (by omega)
  generalize Lib.itoa n = la at *
  generalize Lib.itoa m = lb at *
  have hcat : ((⟨#[43, 48]⟩ : ByteArray) ++ ⟨lb.toArray⟩) = ⟨(43 :: 48 :: lb).toArray⟩ := by apply bs_ext; simp
  have hbig : ¬ 9223372036854775807 < 2 + lb.length := by omega
  have hbig2 : ¬ 9223372036854775807 < lb.length + 1 + 1 := by omega
  obtain ⟨lm, hlm⟩ : ∃ lm : List UInt8, lm = 43 :: 48 :: lb := ⟨_, rfl⟩
  have hW3 := heap_alloc_new w2 (.cells #[.string ⟨#[65]⟩, .string ⟨la.toArray⟩, .string ⟨#[66]⟩, .string ⟨lm.toArray⟩] 47)
  have HW : Hid (Calls Tryz.prog 8 #[.agg #[.slice (some ⟨w2.heap.size, 0, none⟩) 2 2, .slice none 0 0, .slice none 0 0, .slice none 0 0, .slice none 0 0, .int .i64 200]] (w2.alloc (.cells #[.string ⟨#[65]⟩, .string ⟨la.toArray⟩, .string ⟨#[66]⟩, .string ⟨lm.toArray⟩] 47)) _) := Lib.hid (worlds_any [([65], la), ([66], lm)] (by simp) (fun p hp => by
      simp only [List.mem_cons, List.not_mem_nil, or_false] at hp
      rcases hp with rfl | rfl
      · refine ⟨fun j b h => ?_, (by show rightS [65] = true; decide), by simp, by show la.length ≤ _; omega⟩
        match j, h with
        | 0, h => cases h; decide
      · refine ⟨fun j b h => ?_, (by show rightS [66] = true; decide), by simp, by show lm.length ≤ _; rw [hlm]; simp only [List.length_cons]; omega⟩
        match j, h with
        | 0, h => cases h; decide) (some ⟨w2.heap.size, 0, none⟩) 2 200 _ ⟨fun i p h => by
      match i, h with
      | 0, h =>
        cases h
        exact ⟨w2.heap.size, rfl, by simp, Lib.cell_of_heap hW3 0, Lib.cell_of_heap hW3 1⟩
      | 1, h =>
        cases h
        exact ⟨w2.heap.size, rfl, by simp, Lib.cell_of_heap hW3 2, Lib.cell_of_heap hW3 3⟩⟩)
  have hlm2 : lm.length ≤ 100 := by rw [hlm]; simp only [List.length_cons]; omega
  have hp3 : ∀ c ∈ lm, c ≠ 36 := by
    rw [hlm]
    intro c hc
    rcases List.mem_cons.1 hc with rfl | hc
    · decide
    · rcases List.mem_cons.1 hc with rfl | hc
      · decide
      · exact hp2 c hc
  rw [← hlm] at hv2 hcat
  have HBa := Lib.hid (HB2.out.trans (((Below.refl w2.heap.size w2).alloc (Nat.le_refl _) (.cells #[.string ⟨#[65]⟩, .string ⟨la.toArray⟩, .string ⟨#[66]⟩, .string ⟨lm.toArray⟩] 47)).mono HB2.out.size))
  have HV := Lib.hid (And.intro hl1 (And.intro hlm2 (And.intro hp1 (And.intro hp3 (And.intro hv1 hv2)))))
  clear hb1 hb2 HB1 HB2 HD hl1 hlm2 hp1 hp2 hp3 hv1 hv2 hW3 hlm hl2
  go_wp2_with fail
  go_at_call 8
  refine HW.out.mono ?_
  rintro e w3 ⟨vb, mb, sp, up, rp, rfl, hv3, hb3⟩
  have hbw := HBa.out.trans (hb3.mono HBa.out.size)
  have HV3 := Lib.hid hv3
  have HBw := Lib.hid hbw
  obtain ⟨w6, hw6⟩ : ∃ w6, w6 = ((w3.alloc (.cells #[.pointer (some ⟨vb, 0, none⟩), .pointer sp, .slice none 0 0, .slice none 0 0, .slice none 0 0, .int .i64 200] 31)).alloc (.cells #[.pointer up, .pointer rp, .slice none 0 0, .slice none 0 0, .slice none 0 0, .int .i64 200] 35)).alloc (.cells #[.string ⟨#[61, 61]⟩, .bool (n == m), .string ⟨#[33, 61]⟩, .bool (n != m), .string ⟨#[60]⟩, .bool (decide (n < m)), .string ⟨#[60, 61]⟩, .bool (decide (n ≤ m)), .string ⟨#[62]⟩, .bool (decide (m < n)), .string ⟨#[62, 61]⟩, .bool (decide (m ≤ n))] 48) := ⟨_, rfl⟩
  have b36 : Below w3.heap.size w3 w6 := by rw [hw6]; exact (((Below.refl _ _).alloc (Nat.le_refl _) _).alloc (by simp) _).alloc (by simp <;> omega) _
  have HJ6 : Hid (CnJ w w3.heap.size (w3.heap.size + 1 + 1) vb mb [([65], la), ([66], lm)] sp n m w6) := Lib.hid (by
    refine ⟨by rw [hw6]; exact (Below.heap_alloc _ _ _ (by simp <;> omega)).trans (heap_alloc2_old w3 _ _), ?_, hv3.below b36, hbw.trans (b36.mono hbw.size)⟩
    rw [hw6]
    have := heap_alloc_new ((w3.alloc (.cells #[.pointer (some ⟨vb, 0, none⟩), .pointer sp, .slice none 0 0, .slice none 0 0, .slice none 0 0, .int .i64 200] 31)).alloc (.cells #[.pointer up, .pointer rp, .slice none 0 0, .slice none 0 0, .slice none 0 0, .int .i64 200] 35)) (.cells #[.string ⟨#[61, 61]⟩, .bool (n == m), .string ⟨#[33, 61]⟩, .bool (n != m), .string ⟨#[60]⟩, .bool (decide (n < m)), .string ⟨#[60, 61]⟩, .bool (decide (n ≤ m)), .string ⟨#[62]⟩, .bool (decide (m < n)), .string ⟨#[62, 61]⟩, .bool (decide (m ≤ n))] 48)
    rw [show ((w3.alloc (.cells #[.pointer (some ⟨vb, 0, none⟩), .pointer sp, .slice none 0 0, .slice none 0 0, .slice none 0 0, .int .i64 200] 31)).alloc (.cells #[.pointer up, .pointer rp, .slice none 0 0, .slice none 0 0, .slice none 0 0, .int .i64 200] 35)).heap.size = w3.heap.size + 1 + 1 by simp] at this
    exact this)
  clear HW HBa hv3 hb3 hbw hcat hbig hbig2 b36 HV3 HBw
  go_wp2
  rw [← hw6]
  clear hw6
  have HG := Lib.hid hG
  clear hG
  go_loopw [8, 9, 10, 57] (fun _ _ _ v57 wr => ∃ i : Nat, v57 = .int .i64 i ∧ i ≤ 6 ∧ Hid (CnJ w w3.heap.size (w3.heap.size + 1 + 1) vb mb [([65], la), ([66], lm)] sp n m wr)) (fun _ _ _ v57 _ => 7 - (intOf v57).toNat)
  case atStart => exact ⟨0, rfl, by omega, HJ6⟩
  case round =>
    clear HJ6
    obtain ⟨i, rfl, hi, HJ⟩ := hrel
    by_cases hlt : i < 6
    · obtain ⟨hl1, hl2, hp1, hp2, hv1, hv2⟩ := HV.out
      obtain ⟨op, want, x, ho, hwn, hol, hrd, hask⟩ := want_all (vb := vb) (mb := mb) (sp := sp) (by omega) hl2 hp1 hp2 hv1 hv2 i hlt
      obtain ⟨c0, c1⟩ := lit_at HJ.out.lit i hlt op want ho hwn
      have hii : (i : Int) < 6 := by omega
      have HJ1 := Lib.hid (HJ.out.go ((Below.refl _ _).alloc (Nat.le_refl _) (.cells #[.string ⟨op.toArray⟩, .bool want] 48)))
      have hbox := heap_alloc_new wr (.cells #[.string ⟨op.toArray⟩, .bool want] 48)
      have hcat : ((⟨#[36, 123, 65, 125]⟩ : ByteArray) ++ ⟨op.toArray⟩ ++ ⟨#[36, 66]⟩) = ⟨(opTxt op).toArray⟩ := by apply bs_ext; simp [opTxt]
      have hbig : ¬ 9223372036854775807 < 4 + op.length := by omega
      have hbig2 : ¬ 9223372036854775807 < 4 + op.length + 2 := by omega
      obtain ⟨d0, d1, d2, d3, d4, d5⟩ := wO_at HJ1.out.box
      have HH := Lib.hid (holds_put vb mb [([65], la), ([66], lm)] 200 sp (by omega) (by omega) (opTxt op) x hrd want hask _ (HG.out.below HJ1.out.below) HJ1.out.vars)
      clear hl1 hl2 hp1 hp2 hv1 hv2 ho hwn hrd hask
      have HBox := Lib.hid hbox
      clear hbox
      go_wp2_with fail
      go_at_call 9
      refine HH.out.mono ?_
      rintro e w7 ⟨rfl, hb7⟩
      have b78 : Below w7.heap.size w7 (w7.alloc (.cells #[.int .i64 0, .int .i64 0] 40)) := (Below.refl _ _).alloc (Nat.le_refl _) _
      have hb8 := hb7.trans (b78.mono hb7.size)
      have HJ8 := Lib.hid (HJ1.out.go hb8)
      have e1 : (w7.alloc (.cells #[.int .i64 0, .int .i64 0] 40)).cell? ⟨wr.heap.size, 1, none⟩ = some (.bool want) := Lib.cell_of_heap ((hb8.block _ (Array.getElem?_eq_some_iff.1 HBox.out).1).trans HBox.out) 1
      have hq := fun W => fault_ne 0 0 W
      clear hb7 b78 hb8 HBox HH HJ1 c0 c1 d0 d1 d2 d3 d4 d5 hcat hbig hbig2
      cases want
      all_goals
        go_wp2
        go_roundw
        case rel => exact ⟨i + 1, by go_num, by omega, HJ8⟩
        case measure => simp [intOf]; omega
    · have HA := Lib.hid (alive_any wr (HG.out.below HJ.out.below))
      have hii : ¬ (i : Int) < 6 := by omega
      go_wp2_with fail
      go_at_call 7
      refine HA.out.mono ?_
      rintro e w7 ⟨rfl, hb7⟩
      go_wp2
      go_ret
      exact ⟨rfl, HJ.out.below.trans (hb7.mono HJ.out.below.size)⟩
end Go.Proofs.YtpjmccajkcmmaaaGreatDoor
