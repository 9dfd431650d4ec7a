/- cond.reader: part, parts, ways together. cond.read, cond.Check. -/
import Derived.Test.YtpjmccajkcmmaaaGreatDoorTm
namespace Go.Proofs.YtpjmccajkcmmaaaGreatDoor
open Go.RowKit

theorem part_of (l : List UInt8) (n : Nat) (HP : PartOK l n) (HW : WaysOK l n) : PartOK l (n + 1) := by
  intro rb r w x r2 h hx
  unfold partC at hx
  simp only at hx
  by_cases hb : (takeC l [33] (r.rest l)).1 = true
  · rw [if_pos hb] at hx
    by_cases hop : (takeC l [33] (r.rest l)).2.op = 32
    · rw [if_pos hop] at hx
      cases hx
      have hv : exprV .nothing = .nilIface := by rw [exprV]
      rw [hv]
      exact partMany_any w h hb hop
    · rw [if_neg hop] at hx
      cases hp : partC l n { (takeC l [33] (r.rest l)).2 with op := (takeC l [33] (r.rest l)).2.op + 1 } with
      | none => rw [hp] at hx; simp at hx
      | some q =>
        obtain ⟨y, r1⟩ := q
        rw [hp] at hx
        have h6 := Option.some.inj hx
        have h7 : CX.neg y = x := congrArg (fun q : CX × CR => q.1) h6
        have h8 := congrArg (fun q : CX × CR => q.2) h6
        simp only at h8
        rw [← h7, ← h8]
        exact partNot_any HP w h hb hop y r1 hp
  · rw [if_neg hb] at hx
    have hb' : (takeC l [33] (r.rest l)).1 = false := by simpa using hb
    by_cases hq : (takeC l [40] (takeC l [33] (r.rest l)).2).1 = true
    · rw [if_pos hq] at hx
      by_cases hop : (takeC l [40] (takeC l [33] (r.rest l)).2).2.op = 32
      · rw [if_pos hop] at hx
        cases hx
        have hv : exprV .nothing = .nilIface := by rw [exprV]
        rw [hv]
        exact partMany2_any w h hb' hq hop
      · rw [if_neg hop] at hx
        cases hp : waysC l n { (takeC l [40] (takeC l [33] (r.rest l)).2).2 with op := (takeC l [40] (takeC l [33] (r.rest l)).2).2.op + 1 } with
        | none => rw [hp] at hx; simp at hx
        | some q =>
          obtain ⟨y, r1⟩ := q
          rw [hp] at hx
          simp only at hx
          by_cases ht : (takeC l [41] r1).1 = true
          · rw [if_pos ht] at hx
            have h6 := Option.some.inj hx
            have h7 : y = x := congrArg (fun q : CX × CR => q.1) h6
            have h8 := congrArg (fun q : CX × CR => q.2) h6
            simp only at h8
            rw [← h7, ← h8]
            exact partIn_any HW w h hb' hq hop y r1 hp ht
          · rw [if_neg ht] at hx
            have ht' : (takeC l [41] r1).1 = false := by simpa using ht
            have h5 := partCut_any HW w h hb' hq hop y r1 hp ht'
            have h6 := Option.some.inj hx
            have h7 : y = x := congrArg (fun q : CX × CR => q.1) h6
            have h8 := congrArg (fun q : CX × CR => q.2) h6
            simp only at h8
            rw [← h7, ← h8]
            unfold cutC at h5
            have e1 : ∀ (c : CR) a n, { c.wrong 13 a with op := c.op - n } = { c.wrong 13 a with op := (c.wrong 13 a).op - n } := fun c a n => by rw [wrong_op]
            first | exact h5 | (rw [e1] at h5; exact h5) | (simp only [wrong_op] at h5 ⊢; exact h5)
    · rw [if_neg hq] at hx
      have hq' : (takeC l [40] (takeC l [33] (r.rest l)).2).1 = false := by simpa using hq
      have h5 := partTest_any w h hb' hq'
      have h6 := Option.some.inj hx
      rw [h6] at h5
      exact h5

theorem until_at (l t : List UInt8) (r : CR) : (untilC l t r).2.2.at' = r.at' := by
  unfold untilC
  generalize untilGo l t (l.length + 1) r.at' = q
  obtain ⟨i, b, x⟩ := q
  cases x with
  | some y => exact wrong_at r 13 y
  | none => cases b <;> rfl
theorem rest_ge (l : List UInt8) (r : CR) : r.at' ≤ (r.rest l).at' := by show _ ≤ skipAt l r.at'; unfold skipAt; omega
theorem side_ge (l : List UInt8) (r : CR) : r.at' ≤ (sideC l r).2.2.at' := by
  have h0 := take_ge l [34] r
  unfold sideC
  split
  · have h := until_at l [34] (takeC l [34] r).2
    generalize untilC l [34] (takeC l [34] r).2 = u at h
    obtain ⟨x, b, r2⟩ := u
    cases b with
    | true => show _ ≤ r2.at' + _; simp only at h; omega
    | false => show _ ≤ (r2.wrong _ _).at'; rw [wrong_at]; simp only at h; omega
  · have h := until_at l stopsC ((takeC l [34] r).2.rest l)
    have h1 := rest_ge l (takeC l [34] r).2
    generalize untilC l stopsC ((takeC l [34] r).2.rest l) = u at h
    obtain ⟨x, b, r2⟩ := u
    simp only at h
    show r.at' ≤ r2.at' + x.length
    omega
theorem opC_ge (l a : List UInt8) (aq : Bool) (t : Nat) (os : List (List UInt8)) (r : CR) : r.at' ≤ (opC l a aq t os r).2.at' := by
  induction os generalizing r with
  | nil => exact Nat.le_refl _
  | cons o os ih =>
    unfold opC
    split
    · exact Nat.le_trans (take_ge l o r) (side_ge l (takeC l o r).2)
    · exact Nat.le_trans (take_ge l o r) (ih _)
theorem test_ge (l : List UInt8) (t : Nat) (r : CR) : r.at' ≤ (testC l t r).2.at' := by
  unfold testC
  split
  · have h := until_at l [41] (takeC l [40] { r with at' := r.at' + (wordC l r).length }).2
    have h0 := take_ge l [40] { r with at' := r.at' + (wordC l r).length }
    simp only at h0
    generalize untilC l [41] (takeC l [40] { r with at' := r.at' + (wordC l r).length }).2 = u at h
    obtain ⟨x, b, r2⟩ := u
    cases b with
    | true => show _ ≤ r2.at' + _; simp only at h; omega
    | false => show _ ≤ (r2.wrong _ _).at'; rw [wrong_at]; simp only at h; omega
  · exact Nat.le_trans (side_ge l r) (opC_ge _ _ _ _ _ _)

theorem reads_ge (l : List UInt8) (n : Nat) :
    (∀ r x r2, waysC l n r = some (x, r2) → r.at' ≤ r2.at') ∧ (∀ y r x r2, waysGo l n y r = some (x, r2) → r.at' ≤ r2.at') ∧
    (∀ r x r2, partsC l n r = some (x, r2) → r.at' ≤ r2.at') ∧ (∀ y r x r2, partsGo l n y r = some (x, r2) → r.at' ≤ r2.at') ∧
    (∀ r x r2, partC l n r = some (x, r2) → r.at' ≤ r2.at') := by
  induction n with
  | zero => exact ⟨by simp [waysC], by simp [waysGo], by simp [partsC], by simp [partsGo], by simp [partC]⟩
  | succ n ih =>
    obtain ⟨i1, i2, i3, i4, i5⟩ := ih
    refine ⟨?_, ?_, ?_, ?_, ?_⟩
    · intro r x r2 h
      unfold waysC at h
      cases hp : partsC l n r with
      | none => rw [hp] at h; simp at h
      | some q =>
        obtain ⟨y, r1⟩ := q
        rw [hp] at h
        exact Nat.le_trans (i3 r y r1 hp) (i2 y r1 x r2 h)
    · intro y r x r2 h
      unfold waysGo at h
      split at h
      · cases hp : partsC l n (takeC l [124, 124] r).2 with
        | none => rw [hp] at h; simp at h
        | some q =>
          obtain ⟨z, r1⟩ := q
          rw [hp] at h
          exact Nat.le_trans (take_ge l _ r) (Nat.le_trans (i3 _ z r1 hp) (i2 _ r1 x r2 h))
      · cases h; exact take_ge l _ r
    · intro r x r2 h
      unfold partsC at h
      cases hp : partC l n r with
      | none => rw [hp] at h; simp at h
      | some q =>
        obtain ⟨y, r1⟩ := q
        rw [hp] at h
        exact Nat.le_trans (i5 r y r1 hp) (i4 y r1 x r2 h)
    · intro y r x r2 h
      unfold partsGo at h
      split at h
      · cases hp : partC l n (takeC l [38, 38] r).2 with
        | none => rw [hp] at h; simp at h
        | some q =>
          obtain ⟨z, r1⟩ := q
          rw [hp] at h
          exact Nat.le_trans (take_ge l _ r) (Nat.le_trans (i5 _ z r1 hp) (i4 _ r1 x r2 h))
      · cases h; exact take_ge l _ r
    · intro r x r2 h
      unfold partC at h
      simp only at h
      have h0 : r.at' ≤ (takeC l [33] (r.rest l)).2.at' := Nat.le_trans (rest_ge l r) (take_ge l _ _)
      split at h
      · split at h
        · cases h; rw [wrong_at]; exact h0
        · cases hp : partC l n { (takeC l [33] (r.rest l)).2 with op := (takeC l [33] (r.rest l)).2.op + 1 } with
          | none => rw [hp] at h; simp at h
          | some q =>
            obtain ⟨y, r1⟩ := q
            rw [hp] at h
            cases h
            have h3 := i5 _ _ _ hp
            exact Nat.le_trans h0 h3
      · have h1 : r.at' ≤ (takeC l [40] (takeC l [33] (r.rest l)).2).2.at' := Nat.le_trans h0 (take_ge l _ _)
        split at h
        · split at h
          · cases h; rw [wrong_at]; exact h1
          · cases hp : waysC l n { (takeC l [40] (takeC l [33] (r.rest l)).2).2 with op := (takeC l [40] (takeC l [33] (r.rest l)).2).2.op + 1 } with
            | none => rw [hp] at h; simp at h
            | some q =>
              obtain ⟨y, r1⟩ := q
              rw [hp] at h
              have h2' := i1 _ _ _ hp
              have h2 := Nat.le_trans h1 h2'
              simp only at h
              split at h
              · cases h
                exact Nat.le_trans h2 (take_ge l _ _)
              · have h6 := congrArg (fun q : CX × CR => q.2.at') (Option.some.inj h)
                simp only at h6
                rw [← h6, wrong_at]
                have h3 := Nat.le_trans (Nat.le_trans h2 (take_ge l [41] _)) (rest_ge l _)
                split
                · rw [wrong_at]; exact h3
                · exact h3
        · have h6 := congrArg (fun q : CX × CR => q.2.at') (Option.some.inj h)
          exact Nat.le_trans (Nat.le_trans h1 (test_ge _ _ _)) (Nat.le_of_eq h6)

theorem take_two (l t : List UInt8) (r : CR) (h : (takeC l t r).1 = true) : r.at' + t.length ≤ (takeC l t r).2.at' := by
  unfold takeC at h ⊢
  cases hf : r.flt with
  | some x => rw [hf] at h; simp at h
  | none =>
    rw [hf] at h
    simp only at h ⊢
    split
    · show _ ≤ skipAt l r.at' + t.length; unfold skipAt; omega
    · rename_i hp; rw [if_neg hp] at h; simp at h

set_option maxHeartbeats 4000000 in
set_option maxRecDepth 100000 in
theorem parts_of (l : List UInt8) (N : Nat) (HP : ∀ k, k < N → PartOK l k) : PartsOK l N := by
  intro rb r w x r2 h hx
  obtain ⟨n, rfl⟩ : ∃ n, N = n + 1 := by
    cases N with
    | zero => simp [partsC] at hx
    | succ n => exact ⟨n, rfl⟩
  unfold partsC at hx
  cases hp : partC l n r with
  | none => rw [hp] at hx; simp at hx
  | some q =>
    obtain ⟨y, r1⟩ := q
    rw [hp] at hx
    simp only at hx
    have HX := Lib.hid hx
    have HPt := Lib.hid (fun k (hk : k < n + 1) (r : CR) W (y : CX) r1 (h : IsRd rb l r W) (hp : partC l k r = some (y, r1)) => HP k hk rb r W y r1 h hp)
    unfold RdK at HPt
    have HT := Lib.hid (fun (r : CR) W (h : IsRd rb l r W) => take_any (t := ⟨#[38, 38]⟩) W h)
    change Hid (∀ (r : CR) W, IsRd rb l r W → Calls _ _ _ _ fun e w' => e = .returned (.bool (takeC l [38, 38] r).1) ∧ IsRd rb l (takeC l [38, 38] r).2 w' ∧ Keeps W.heap.size (fun k => k = rb) W w') at HT
    have H1 := Lib.hid (HPt.out n (by omega) r w y r1 h hp)
    have HJ0 := Lib.hid (RdJ.refl h)
    unfold RdK
    clear hx hp h HP
    go_enter Tryz.func51, Tryz.ntmps51
    go_wp2_with fail
    go_at_call 71
    refine H1.out.mono ?_
    rintro e w1 ⟨rfl, hi1, hk1⟩
    have HJ1 := Lib.hid (HJ0.out.step hi1 hk1)
    clear hi1 hk1
    go_wp2
    go_loopw [3] (fun v3 wr => ∃ (m : Nat) (y : CX) (r1 : CR), v3 = exprV y ∧ m ≤ n ∧ Hid (partsGo l m y r1 = some (x, r2)) ∧ Hid (RdJ rb l w r1 wr)) (fun _ wr => l.length - (intOf ((wr.cell? ⟨rb, 1, none⟩).getD .nilIface)).toNat)
    case atStart => exact ⟨n, y, r1, rfl, Nat.le_refl _, HX, HJ1⟩
    case round =>
      obtain ⟨m, y, r1, rfl, hm, HX, HJ⟩ := hrel
      obtain ⟨k, rfl⟩ : ∃ k, m = k + 1 := by
        cases m with
        | zero => have := HX.out; simp [partsGo] at this
        | succ k => exact ⟨k, rfl⟩
      have hx := HX.out
      unfold partsGo at hx
      have hT := HT.out r1 wr HJ.out.rd
      have ha := take_at l [38, 38] r1 HJ.out.rd.at_le
      have hd := take_two l [38, 38] r1
      have hc : wr.cell? ⟨rb, 1, none⟩ = some (.int .i64 ((r1.at' : Nat) : Int)) := Lib.cell_of_heap HJ.out.rd.cells 1
      have HC := Lib.hid hc
      clear hc
      generalize takeC l [38, 38] r1 = tk at hx hT ha hd
      obtain ⟨tb, r3⟩ := tk
      simp only at hx hT ha hd
      have HT1 := Lib.hid hT
      clear hT
      cases tb with
      | false =>
        rw [if_neg (by simp)] at hx
        cases hx
        clear ha hd
        go_wp2_with fail
        go_at_call 52
        refine HT1.out.mono ?_
        rintro e w2 ⟨rfl, hi2, hk2⟩
        have HJ2 := Lib.hid (HJ.out.step hi2 hk2)
        clear hi2 hk2
        go_wp2
        go_ret
        exact ⟨rfl, HJ2.out.rd, HJ2.out.keeps⟩
      | true =>
        rw [if_pos rfl] at hx
        cases hp : partC l k r3 with
        | none => rw [hp] at hx; simp at hx
        | some q =>
          obtain ⟨z, r4⟩ := q
          rw [hp] at hx
          simp only at hx
          have hge := (reads_ge l k).2.2.2.2 _ _ _ hp
          have HX2 := Lib.hid hx
          have HP3 := Lib.hid (fun W (h : IsRd rb l r3 W) => HPt.out k (by omega) r3 W z r4 h hp)
          have HD : Hid (r1.at' + 2 ≤ r4.at') := Lib.hid (by have := hd rfl; simp only [List.length_cons, List.length_nil] at this; omega)
          clear hx hp hd hge
          go_wp2_with fail
          go_at_call 52
          refine HT1.out.mono ?_
          rintro e w2 ⟨rfl, hi2, hk2⟩
          have HJ2 := Lib.hid (HJ.out.step hi2 hk2)
          have HP4 := Lib.hid (HP3.out w2 hi2)
          clear hi2 hk2
          go_wp2_with fail
          go_at_call 71
          refine HP4.out.mono ?_
          rintro e w4 ⟨rfl, hi4, hk4⟩
          have HJ4 := Lib.hid (HJ2.out.step hi4 hk4)
          have hc4 : w4.cell? ⟨rb, 1, none⟩ = some (.int .i64 ((r4.at' : Nat) : Int)) := Lib.cell_of_heap hi4.cells 1
          have HC4 := Lib.hid hc4
          have hl4 := hi4.at_le
          clear hi4 hk4 hc4 ha
          have hsy := exprV_shape y
          have hsz := exprV_shape z
          have hex : exprV (.all y z) = .iface 117 (.agg #[exprV y, exprV z]) := by rw [exprV]
          generalize exprV y = vy at hsy hex
          generalize exprV z = vz at hsz hex
          have HEX := Lib.hid hex
          clear hex
          rcases hsy with rfl | ⟨t1, v1, rfl⟩ <;> rcases hsz with rfl | ⟨t2, v2, rfl⟩
          all_goals
            go_wp2
            go_roundw
            case rel => exact ⟨k, _, r4, HEX.out.symm, by omega, HX2, HJ4⟩
            case measure =>
              rw [HC.out, HC4.out]
              have := HD.out
              simp [intOf]
              omega
set_option maxHeartbeats 4000000 in
set_option maxRecDepth 100000 in
theorem ways_of (l : List UInt8) (N : Nat) (HP : ∀ k, k < N → PartsOK l k) : WaysOK l N := by
  intro rb r w x r2 h hx
  obtain ⟨n, rfl⟩ : ∃ n, N = n + 1 := by
    cases N with
    | zero => simp [waysC] at hx
    | succ n => exact ⟨n, rfl⟩
  unfold waysC at hx
  cases hp : partsC l n r with
  | none => rw [hp] at hx; simp at hx
  | some q =>
    obtain ⟨y, r1⟩ := q
    rw [hp] at hx
    simp only at hx
    have HX := Lib.hid hx
    have HPt := Lib.hid (fun k (hk : k < n + 1) (r : CR) W (y : CX) r1 (h : IsRd rb l r W) (hp : partsC l k r = some (y, r1)) => HP k hk rb r W y r1 h hp)
    unfold RdK at HPt
    have HT := Lib.hid (fun (r : CR) W (h : IsRd rb l r W) => take_any (t := ⟨#[124, 124]⟩) W h)
    change Hid (∀ (r : CR) W, IsRd rb l r W → Calls _ _ _ _ fun e w' => e = .returned (.bool (takeC l [124, 124] r).1) ∧ IsRd rb l (takeC l [124, 124] r).2 w' ∧ Keeps W.heap.size (fun k => k = rb) W w') at HT
    have H1 := Lib.hid (HPt.out n (by omega) r w y r1 h hp)
    have HJ0 := Lib.hid (RdJ.refl h)
    unfold RdK
    clear hx hp h HP
    go_enter Tryz.func38, Tryz.ntmps38
    go_wp2_with fail
    go_at_call 51
    refine H1.out.mono ?_
    rintro e w1 ⟨rfl, hi1, hk1⟩
    have HJ1 := Lib.hid (HJ0.out.step hi1 hk1)
    clear hi1 hk1
    go_wp2
    go_loopw [3] (fun v3 wr => ∃ (m : Nat) (y : CX) (r1 : CR), v3 = exprV y ∧ m ≤ n ∧ Hid (waysGo l m y r1 = some (x, r2)) ∧ Hid (RdJ rb l w r1 wr)) (fun _ wr => l.length - (intOf ((wr.cell? ⟨rb, 1, none⟩).getD .nilIface)).toNat)
    case atStart => exact ⟨n, y, r1, rfl, Nat.le_refl _, HX, HJ1⟩
    case round =>
      obtain ⟨m, y, r1, rfl, hm, HX, HJ⟩ := hrel
      obtain ⟨k, rfl⟩ : ∃ k, m = k + 1 := by
        cases m with
        | zero => have := HX.out; simp [waysGo] at this
        | succ k => exact ⟨k, rfl⟩
      have hx := HX.out
      unfold waysGo at hx
      have hT := HT.out r1 wr HJ.out.rd
      have ha := take_at l [124, 124] r1 HJ.out.rd.at_le
      have hd := take_two l [124, 124] r1
      have hc : wr.cell? ⟨rb, 1, none⟩ = some (.int .i64 ((r1.at' : Nat) : Int)) := Lib.cell_of_heap HJ.out.rd.cells 1
      have HC := Lib.hid hc
      clear hc
      generalize takeC l [124, 124] r1 = tk at hx hT ha hd
      obtain ⟨tb, r3⟩ := tk
      simp only at hx hT ha hd
      have HT1 := Lib.hid hT
      clear hT
      cases tb with
      | false =>
        rw [if_neg (by simp)] at hx
        cases hx
        clear ha hd
        go_wp2_with fail
        go_at_call 52
        refine HT1.out.mono ?_
        rintro e w2 ⟨rfl, hi2, hk2⟩
        have HJ2 := Lib.hid (HJ.out.step hi2 hk2)
        clear hi2 hk2
        go_wp2
        go_ret
        exact ⟨rfl, HJ2.out.rd, HJ2.out.keeps⟩
      | true =>
        rw [if_pos rfl] at hx
        cases hp : partsC l k r3 with
        | none => rw [hp] at hx; simp at hx
        | some q =>
          obtain ⟨z, r4⟩ := q
          rw [hp] at hx
          simp only at hx
          have hge := (reads_ge l k).2.2.1 _ _ _ hp
          have HX2 := Lib.hid hx
          have HP3 := Lib.hid (fun W (h : IsRd rb l r3 W) => HPt.out k (by omega) r3 W z r4 h hp)
          have HD : Hid (r1.at' + 2 ≤ r4.at') := Lib.hid (by have := hd rfl; simp only [List.length_cons, List.length_nil] at this; omega)
          clear hx hp hd hge
          go_wp2_with fail
          go_at_call 52
          refine HT1.out.mono ?_
          rintro e w2 ⟨rfl, hi2, hk2⟩
          have HJ2 := Lib.hid (HJ.out.step hi2 hk2)
          have HP4 := Lib.hid (HP3.out w2 hi2)
          clear hi2 hk2
          go_wp2_with fail
          go_at_call 51
          refine HP4.out.mono ?_
          rintro e w4 ⟨rfl, hi4, hk4⟩
          have HJ4 := Lib.hid (HJ2.out.step hi4 hk4)
          have hc4 : w4.cell? ⟨rb, 1, none⟩ = some (.int .i64 ((r4.at' : Nat) : Int)) := Lib.cell_of_heap hi4.cells 1
          have HC4 := Lib.hid hc4
          have hl4 := hi4.at_le
          clear hi4 hk4 hc4 ha
          have hsy := exprV_shape y
          have hsz := exprV_shape z
          have hex : exprV (.either y z) = .iface 116 (.agg #[exprV y, exprV z]) := by rw [exprV]
          generalize exprV y = vy at hsy hex
          generalize exprV z = vz at hsz hex
          have HEX := Lib.hid hex
          clear hex
          rcases hsy with rfl | ⟨t1, v1, rfl⟩ <;> rcases hsz with rfl | ⟨t2, v2, rfl⟩
          all_goals
            go_wp2
            go_roundw
            case rel => exact ⟨k, _, r4, HEX.out.symm, by omega, HX2, HJ4⟩
            case measure =>
              rw [HC.out, HC4.out]
              have := HD.out
              simp [intOf]
              omega
theorem reads_all (l : List UInt8) (N : Nat) : PartOK l N ∧ PartsOK l N ∧ WaysOK l N := by
  induction N using Nat.strongRecOn with
  | ind N ih =>
    have hp : PartOK l N := by
      cases N with
      | zero => intro rb r w x r2 h hx; simp [partC] at hx
      | succ n => exact part_of l n (ih n (Nat.lt_succ_self n)).1 (ih n (Nat.lt_succ_self n)).2.2
    exact ⟨hp, parts_of l N (fun k hk => (ih k hk).1), ways_of l N (fun k hk => (ih k hk).2.1)⟩
end Go.Proofs.YtpjmccajkcmmaaaGreatDoor

namespace Go.Proofs.YtpjmccajkcmmaaaGreatDoor
open Go.RowKit

theorem results_read {fn : Func} {p v : Tmp} (h : fn.results = #[.tmp v, .cell p 40]) (tmps : Array Value) (w : World) (g : Nat) (x y : Value)
    (hp : tmps.getD p undef = .pointer (some ⟨g, 0, none⟩)) (hg : w.heap[g]? = some (.cells #[x, y] 40 (0, 0))) :
    (results fn tmps).run Tryz.prog w = .ok (.tuple #[tmps.getD v undef, .agg #[x, y]]) w := by
  have hp' : tmps[p]?.getD undef = .pointer (some ⟨g, 0, none⟩) := by simpa using hp
  have hl := run_loadVar_row (P := Tryz.prog) w g 40 40 #[x, y] (0, 0) _ hg Tryz.underlying40 rfl (by kernel_rfl)
  simp [results, h, hp', asAddr, hl]
theorem cells2 {w : World} {b : Nat} {x y : Value} {T : TypeId} (h : w.heap[b]? = some (.cells #[x, y] T (0, 0))) :
    w.cell? ⟨b, 0, none⟩ = some x ∧ w.cell? ⟨b, 1, none⟩ = some y ∧ w.frozen? ⟨b, 0, none⟩ = false ∧ w.frozen? ⟨b, 1, none⟩ = false :=
  ⟨Lib.cell_of_heap h 0, Lib.cell_of_heap h 1, Lib.frozen_of_heap h 0, Lib.frozen_of_heap h 1⟩
/-- what is left is told wrong -/
def endC (l : List UInt8) (r : CR) : CR := match r.flt with | some _ => r | none => if l.drop (r.rest l).at' = [] then r.rest l else (r.rest l).wrong 13 (r.rest l).at'
theorem readC_eq (l : List UInt8) (n : Nat) : readC l n = if 65536 < l.length then some (.nothing, 5, 0) else match waysC l n ⟨0, 0, none⟩ with
    | none => none
    | some (x, r) => some (x, (endC l r).why, (endC l r).fat) := by
  unfold readC
  split
  · rfl
  · cases waysC l n ⟨0, 0, none⟩ with
    | none => rfl
    | some q =>
      obtain ⟨x, r⟩ := q
      simp only
      change (match (endC l r).flt with | none => _ | some (e, a) => _) = _
      unfold CR.why CR.fat
      cases (endC l r).flt with
      | none => rfl
      | some q => rfl

set_option maxHeartbeats 4000000 in
set_option maxRecDepth 100000 in
theorem read_any (s : ByteArray) (n : Nat) (x : CX) (e : Int) (a : Nat) (hx : readC s.data.toList n = some (x, e, a)) (w : World) :
    Calls Tryz.prog 19 #[.string s] w fun en w' => en = .returned (.tuple #[exprV x, .agg #[.int .i64 e, .int .i64 a]]) ∧ Below w.heap.size w w' := by
  rw [readC_eq] at hx
  have hsl : s.data.toList.length = s.size := by simp
  obtain ⟨fo, hfo⟩ : ∃ fo, fo = Obj.cells #[.int .i64 0, .int .i64 0] 40 (0, 0) := ⟨_, rfl⟩
  by_cases hlong : 65536 < s.data.toList.length
  · rw [if_pos hlong] at hx
    cases hx
    have hv : exprV .nothing = .nilIface := by rw [exprV]
    rw [hv]
    have hlt : (65536 : Int) < (s.size : Int) := by omega
    have HRT := Lib.hid (heap_alloc_new w (.cells #[.int .i64 5, .int .i64 0] 40))
    have HB := Lib.hid ((Below.refl w.heap.size w).alloc (Nat.le_refl _) (.cells #[.int .i64 5, .int .i64 0] 40))
    clear hlong hsl
    go_enter Tryz.func19, Tryz.ntmps19
    go_wp2
    refine bodyPost_ret (results_read rfl _ _ _ _ _ rfl HRT.out) rfl ?_
    exact ⟨rfl, HB.out⟩
  · rw [if_neg hlong] at hx
    cases hw : waysC s.data.toList n ⟨0, 0, none⟩ with
    | none => rw [hw] at hx; simp at hx
    | some q =>
      obtain ⟨y, r1⟩ := q
      rw [hw] at hx
      have h6 := Option.some.inj hx
      have h7 : y = x := congrArg (fun q : CX × Int × Nat => q.1) h6
      have h8 : (endC s.data.toList r1).why = e := congrArg (fun q : CX × Int × Nat => q.2.1) h6
      have h9 : (endC s.data.toList r1).fat = a := congrArg (fun q : CX × Int × Nat => q.2.2) h6
      subst h7 h8 h9
      clear hx h6
      have hlt : ¬ (65536 : Int) < (s.size : Int) := by omega
      have hB1 : Below w.heap.size w ((w.alloc (.cells #[.int .i64 0, .int .i64 0] 40)).alloc (.cells #[.string s, .int .i64 0, .int .i64 0, .int .i64 0, .int .i64 0] 111)) := ((Below.refl _ _).alloc (Nat.le_refl _) _).alloc (by simp) _
      have hF1 : ((w.alloc (.cells #[.int .i64 0, .int .i64 0] 40)).alloc (.cells #[.string s, .int .i64 0, .int .i64 0, .int .i64 0, .int .i64 0] 111)).heap[w.heap.size]? = some (.cells #[.int .i64 0, .int .i64 0] 40 (0, 0)) := heap_alloc2_old w _ _
      have hR1 : IsRd (w.heap.size + 1) s.data.toList ⟨0, 0, none⟩ ((w.alloc (.cells #[.int .i64 0, .int .i64 0] 40)).alloc (.cells #[.string s, .int .i64 0, .int .i64 0, .int .i64 0, .int .i64 0] 111)) :=
        ⟨by have h := heap_alloc2_new w (.cells #[.int .i64 0, .int .i64 0] 40) (.cells #[.string s, .int .i64 0, .int .i64 0, .int .i64 0, .int .i64 0] 111); rw [h]; simp [CR.why, CR.fat], Nat.zero_le _, by omega, fun x hx => (by cases hx), Nat.zero_le _⟩
      have hS1 : ((w.alloc (.cells #[.int .i64 0, .int .i64 0] 40)).alloc (.cells #[.string s, .int .i64 0, .int .i64 0, .int .i64 0, .int .i64 0] 111)).heap.size = w.heap.size + 2 := by simp
      have HW := Lib.hid ((reads_all s.data.toList n).2.2 _ _ _ y r1 hR1 hw)
      unfold RdK at HW
      generalize hw1 : ((w.alloc (.cells #[.int .i64 0, .int .i64 0] 40)).alloc (.cells #[.string s, .int .i64 0, .int .i64 0, .int .i64 0, .int .i64 0] 111)) = w1 at HW hB1 hF1 hR1 hS1
      have HB1 := Lib.hid hB1
      have HF1 := Lib.hid hF1
      have HR1 := Lib.hid (RdJ.refl hR1)
      have HS1 := Lib.hid hS1
      have HWl := Lib.hid (fun W (h : IsRd (w.heap.size + 1) s.data.toList r1 W) => well_any W h)
      have HRs := Lib.hid (fun W (h : IsRd (w.heap.size + 1) s.data.toList r1 W) => rest_any W h)
      unfold RdK at HRs
      change Hid (∀ W, IsRd (w.heap.size + 1) s.data.toList r1 W → Calls _ _ _ _ fun e w' => e = .returned (.string ⟨(s.data.toList.drop (r1.rest s.data.toList).at').toArray⟩) ∧ IsRd (w.heap.size + 1) s.data.toList (r1.rest s.data.toList) w' ∧ Keeps W.heap.size (fun k => k = w.heap.size + 1) W w') at HRs
      have hend : (r1.flt.isNone = false ∧ endC s.data.toList r1 = r1) ∨ (r1.flt.isNone = true ∧ (s.data.toList.drop (r1.rest s.data.toList).at').isEmpty = true ∧ endC s.data.toList r1 = r1.rest s.data.toList) ∨ (r1.flt.isNone = true ∧ (s.data.toList.drop (r1.rest s.data.toList).at').isEmpty = false ∧ endC s.data.toList r1 = (r1.rest s.data.toList).wrong 13 (r1.rest s.data.toList).at') := by
        unfold endC
        cases hf : r1.flt with
        | some x => left; exact ⟨rfl, rfl⟩
        | none =>
          right
          by_cases hd : s.data.toList.drop (r1.rest s.data.toList).at' = []
          · left; simp only [if_pos hd]; exact ⟨by trivial, by rw [hd]; rfl, by trivial⟩
          · right
            simp only [if_neg hd]
            refine ⟨by trivial, ?_, by trivial⟩
            cases hx : s.data.toList.drop (r1.rest s.data.toList).at' with
            | nil => exact absurd hx hd
            | cons a b => rfl
      generalize endC s.data.toList r1 = r5 at hend ⊢
      generalize r1.rest s.data.toList = r3 at HRs hend
      generalize hdr : s.data.toList.drop r3.at' = dr at HRs hend
      have HWr := Lib.hid (fun W (h : IsRd (w.heap.size + 1) s.data.toList r3 W) => wrong_any 13 (by decide) r3.at' W h)
      unfold RdK at HWr
      generalize r3.wrong 13 r3.at' = r4 at HWr hend
      generalize r1.flt.isNone = nb at HWl hend
      have hsh := exprV_shape y
      generalize exprV y = yv at HW hsh ⊢
      clear hB1 hF1 hR1 hS1 hw hlong hdr hsl hsh
      go_enter Tryz.func19, Tryz.ntmps19
      go_wp2_with fail
      clear hw1
      go_at_call 38
      refine HW.out.mono ?_
      rintro e w2 ⟨rfl, hi2, hk2⟩
      have hJ2 := HR1.out.step hi2 hk2
      have HJ2 := Lib.hid hJ2
      have HWl2 := Lib.hid (HWl.out w2 hi2)
      clear hi2 hk2 hJ2
      go_wp2_with fail
      go_at_call 39
      refine HWl2.out.mono ?_
      rintro e w2' ⟨rfl, rfl⟩
      rcases hend with ⟨rfl, rfl⟩ | ⟨rfl, hdr, rfl⟩ | ⟨rfl, hdr, rfl⟩
      case' inl =>
        have HJ := HJ2
        obtain ⟨wx, hwx⟩ : ∃ wx, wx = w2 := ⟨_, rfl⟩
        subst hwx
      case' inr.inl =>
        have HR2 := Lib.hid (HRs.out w2 HJ2.out.rd)
        go_wp2_with fail
        go_at_call 40
        refine HR2.out.mono ?_
        rintro e w3 ⟨rfl, hi3, hk3⟩
        have HJ := Lib.hid (HJ2.out.step hi3 hk3)
        clear hi3 hk3
        obtain ⟨wx, hwx⟩ : ∃ wx, wx = w3 := ⟨_, rfl⟩
        subst hwx
      case' inr.inr =>
        have HR2 := Lib.hid (HRs.out w2 HJ2.out.rd)
        go_wp2_with fail
        go_at_call 40
        refine HR2.out.mono ?_
        rintro e w3 ⟨rfl, hi3, hk3⟩
        have hJ3 := HJ2.out.step hi3 hk3
        have d3 : w3.cell? ⟨w.heap.size + 1, 1, none⟩ = some (.int .i64 ((r3.at' : Nat) : Int)) := Lib.cell_of_heap hi3.cells 1
        have HWr3 := Lib.hid (HWr.out w3 hi3)
        have HJ3 := Lib.hid hJ3
        clear hi3 hk3 hJ3
        go_wp2_with fail
        go_at_call 41
        refine HWr3.out.mono ?_
        rintro e w4 ⟨rfl, hi4, hk4⟩
        have HJ := Lib.hid (HJ3.out.step hi4 hk4)
        clear hi4 hk4
        obtain ⟨wx, hwx⟩ : ∃ wx, wx = w4 := ⟨_, rfl⟩
        subst hwx
      all_goals
        have hfx : wx.heap[w.heap.size]? = some (.cells #[.int .i64 0, .int .i64 0] 40 (0, 0)) := (HJ.out.keeps.block w.heap.size (by rw [HS1.out]; omega) (by omega)).trans HF1.out
        obtain ⟨c0, c1, f0, f1⟩ := cells2 (show wx.drew.heap[w.heap.size]? = some (.cells #[.int .i64 0, .int .i64 0] 40 (0, 0)) from hfx)
        obtain ⟨c0', c1', f0', f1'⟩ := cells2 hfx
        have HRT := Lib.hid (set2 hfx (.int .i64 r5.why) (.int .i64 r5.fat))
        have hk : Keeps w.heap.size (fun k => k = w.heap.size + 1) w wx := (Keeps.of HB1.out _).trans (HJ.out.keeps.mono (by rw [HS1.out]; omega) (fun _ _ h => h))
        have HBx := Lib.hid (((hk.below (fun k hk h => by omega)).setCell (p := ⟨w.heap.size, 0, none⟩) (Nat.le_refl _) (.int .i64 r5.why)).setCell (p := ⟨w.heap.size, 1, none⟩) (Nat.le_refl _) (.int .i64 r5.fat))
        clear hk hfx
        have d3 := Lib.cell_of_heap (w := wx.drew) HJ.out.rd.cells 3
        have d4 := Lib.cell_of_heap (w := wx.drew) HJ.out.rd.cells 4
        go_wp2_with fail
        go_region
        go_wp2
        refine bodyPost_ret (results_read rfl _ _ _ _ _ rfl (show ((wx.setCell ⟨w.heap.size, 0, none⟩ (.int .i64 r5.why)).setCell ⟨w.heap.size, 1, none⟩ (.int .i64 r5.fat)).drew.heap[w.heap.size]? = _ from HRT.out)) rfl ?_
        exact ⟨rfl, HBx.out.drew⟩

theorem results_fault {fn : Func} {p : Tmp} (h : fn.results = #[.cell p 40]) (tmps : Array Value) (w : World) (g : Nat) (x y : Value)
    (hp : tmps.getD p undef = .pointer (some ⟨g, 0, none⟩)) (hg : w.heap[g]? = some (.cells #[x, y] 40 (0, 0))) :
    (results fn tmps).run Tryz.prog w = .ok (.agg #[x, y]) w :=
  results_cell_row (P := Tryz.prog) h tmps w g 40 #[x, y] (0, 0) _ hp hg Tryz.underlying40 rfl (by kernel_rfl)
set_option maxHeartbeats 4000000 in
set_option maxRecDepth 100000 in
theorem check_any (s : ByteArray) (n : Nat) (x : CX) (e : Int) (a : Nat) (hx : readC s.data.toList n = some (x, e, a)) (w : World) :
    Calls Tryz.prog 10 #[.string s] w fun en w' => en = .returned (.agg #[.int .i64 e, .int .i64 a]) ∧ Below w.heap.size w w' := by
  have HR := Lib.hid (fun W => read_any s n x e a hx W)
  generalize exprV x = xv at HR
  have h0 := heap_alloc_new w (.cells #[.int .i64 0, .int .i64 0] 40)
  have HB0 := Lib.hid ((Below.refl w.heap.size w).alloc (Nat.le_refl _) (.cells #[.int .i64 0, .int .i64 0] 40))
  have HS0 : Hid ((w.alloc (.cells #[.int .i64 0, .int .i64 0] 40)).heap.size = w.heap.size + 1) := Lib.hid (by simp)
  have H0 := Lib.hid h0
  clear hx h0
  go_enter Tryz.func10, Tryz.ntmps10
  go_wp2_with fail
  go_at_call 19
  refine (HR.out _).mono ?_
  rintro en w1 ⟨rfl, hb1⟩
  have h1 : w1.heap[w.heap.size]? = some (.cells #[.int .i64 0, .int .i64 0] 40 (0, 0)) := (hb1.block w.heap.size (by rw [HS0.out]; omega)).trans H0.out
  have h2 : (w1.alloc (.cells #[.int .i64 e, .int .i64 a] 40)).heap[w.heap.size]? = some (.cells #[.int .i64 0, .int .i64 0] 40 (0, 0)) := (Lib.alloc_old w1 _ _ (Array.getElem?_eq_some_iff.1 h1).1).trans h1
  obtain ⟨c0, c1, f0, f1⟩ := cells2 h2
  obtain ⟨d0, d1, _, _⟩ := cells2 (heap_alloc_new w1 (.cells #[.int .i64 e, .int .i64 a] 40))
  have HRT := Lib.hid (set2 h2 (.int .i64 e) (.int .i64 a))
  have hB1 : Below w.heap.size w w1 := HB0.out.trans (hb1.mono (by rw [HS0.out]; omega))
  have HBx := Lib.hid (((hB1.alloc hB1.size (.cells #[.int .i64 e, .int .i64 a] 40)).setCell (p := ⟨w.heap.size, 0, none⟩) (Nat.le_refl _) (.int .i64 e)).setCell (p := ⟨w.heap.size, 1, none⟩) (Nat.le_refl _) (.int .i64 a))
  clear hB1 h1 h2 hb1
  go_wp2
  refine bodyPost_ret (results_fault rfl _ _ _ _ _ rfl HRT.out) rfl ?_
  exact ⟨rfl, HBx.out⟩
end Go.Proofs.YtpjmccajkcmmaaaGreatDoor
