/- bobstaylaw17.ShSaid: its walk. -/
import Derived.Test.YtmagggflamdahaaGreatDoorSp
import Derived.Test.YtmagggflamdahaaGreatDoorSo
namespace Go.Proofs.YtmagggflamdahaaGreatDoor
open Go.RowKit

/-- a slice of texts that came in -/
def IsStrs (w : World) (a : Option Addr) (len cap : Nat) (zs : List ByteArray) : Prop :=
  (a = none ∧ len = 0 ∧ cap = 0 ∧ zs = []) ∨
  ∃ x, a = some x ∧ (0 < len → x.block < w.heap.size) ∧ len ≤ cap ∧ cap ≤ maxLen ∧ len ≤ zs.length ∧ ∀ i, i < zs.length → w.cell? (x.add i) = some (.string (zs.getD i ByteArray.empty))

theorem echoL_snoc (L : List (List UInt8)) (x : List UInt8) : echoL (L ++ [x]) = echoL L ++ (32 :: quoteS x) := by simp [echoL, quotes]
theorem join_snoc (L : List (List UInt8)) (x : List UInt8) (h : L ≠ []) : Lib.join (L ++ [x]) [32] = Lib.join L [32] ++ [32] ++ x := by
  cases L with
  | nil => exact absurd rfl h
  | cons y L =>
    rw [List.cons_append, Lib.join_cons, Lib.join_cons]
    simp [Lib.joinTail]
theorem quoteS_len (x : List UInt8) (h : x.length ≤ 200) : (quoteS x).length ≤ 802 := by
  have := quoteB_len x
  unfold quoteS
  split
  · omega
  · simp only [List.length_append, List.length_cons, List.length_nil]; omega
theorem echoL_len (L : List (List UInt8)) (h : ∀ x ∈ L, x.length ≤ 200) : (echoL L).length ≤ 4 + L.length * 803 := by
  unfold echoL
  rw [List.length_append]
  have : (quotes L).length ≤ L.length * 803 := by
    induction L with
    | nil => simp [quotes]
    | cons x L ih =>
      have h1 := ih (fun y hy => h y (List.mem_cons_of_mem _ hy))
      have h2 := quoteS_len x (h x List.mem_cons_self)
      have : quotes (x :: L) = 32 :: quoteS x ++ quotes L := by simp [quotes]
      rw [this, List.length_append, List.length_cons, List.length_cons]
      omega
  simp only [List.length_cons, List.length_nil]
  omega

set_option maxHeartbeats 16000000 in
set_option maxRecDepth 100000 in
theorem shSaid_walk (a : Option Addr) (len cap : Nat) (zs : List ByteArray) (w : World) (hrow : IsStrs w a len cap zs) :
    Calls Tryz.prog 4 #[.slice a len cap] w fun e w' => e = .returned (.bool true) ∧ Below w.heap.size w w' := by
  have HX : Hid (∀ i, i < len → ∃ x xl, a = some x ∧ x.block < w.heap.size ∧ w.cell? (x.add i) = some (.string ⟨(xl : List UInt8).toArray⟩)) := Lib.hid (fun i hi => by
    rcases hrow with ⟨_, h, _⟩ | ⟨x, rfl, hx, _, _, hlz, hc⟩
    · omega
    · refine ⟨x, (zs.getD i ByteArray.empty).data.toList, rfl, hx (by omega), ?_⟩
      rw [hc i (by omega)])
  have hAl := Lib.hid (fun w => alive_any w)
  clear hrow
  go_enter Tryz.func4, Tryz.ntmps4
  go_wp2
  go_loopw [3, 4, 16] (fun v3 v4 v16 wr => ∃ (i : Nat) (L : List (List UInt8)), v3 = .string ⟨(echoL L).toArray⟩ ∧ v4 = .string ⟨(Lib.join L [32]).toArray⟩ ∧ v16 = .int .i64 i ∧ i ≤ len ∧ i ≤ 21 ∧ Hid (L.length = i) ∧ Hid (∀ x ∈ L, x.length ≤ 200) ∧ Hid (L.head? ≠ some [45, 110]) ∧ (Lib.join L [32]).length ≤ i * 201 ∧ Hid (Below w.heap.size w wr)) (fun _ _ v16 _ => len + 1 - (intOf v16).toNat)
  case atStart => exact ⟨0, [], by rfl, by rfl, rfl, by omega, by omega, Lib.hid rfl, Lib.hid (by simp), Lib.hid (by simp), by simp [Lib.join], Lib.hid (Below.refl _ _)⟩
  case round =>
    obtain ⟨i, L, rfl, rfl, rfl, hi, hi21, HL, HM, HH, hJ, HB⟩ := hrel
    have hE := echoL_len L HM.out
    rw [HL.out] at hE
    by_cases hlt : i < len
    · obtain ⟨x, xl, rfl, hxb, hc0⟩ := HX.out i hlt
      have hc : wr.cell? (x.add i) = some (.string ⟨xl.toArray⟩) := (World.cell?_of_block (w := w) (HB.out.block _ (by unfold Addr.add; split <;> exact hxb))).trans hc0
      clear hc0
      by_cases h200 : 200 < (xl.length : Int)
      · skip
        go_wp2_with fail
        go_at_call 9
        refine (hAl.out _).mono ?_
        rintro e w2 ⟨rfl, hb2⟩
        have HB2 := Lib.hid (HB.out.trans (hb2.mono HB.out.size))
        clear hb2
        go_wp2
        go_ret
        exact ⟨rfl, HB2.out⟩
      · by_cases h20 : 20 < (i : Int)
        · skip
          go_wp2_with fail
          go_at_call 9
          refine (hAl.out _).mono ?_
          rintro e w2 ⟨rfl, hb2⟩
          have HB2 := Lib.hid (HB.out.trans (hb2.mono HB.out.size))
          clear hb2
          go_wp2
          go_ret
          exact ⟨rfl, HB2.out⟩
        · by_cases h0 : i = 0
          · have hi0 : ((i : Int) == 0) = true := by rw [h0]; rfl
            have H0 := Lib.hid h0
            clear h0
            have hnp : ¬ 0 < (i : Int) := by have := H0.out; omega
            cases hx : (xl == [45, 110]) with
            | true =>
              go_wp2_with fail
              go_at_call 9
              refine (hAl.out _).mono ?_
              rintro e w2 ⟨rfl, hb2⟩
              have HB2 := Lib.hid (HB.out.trans (hb2.mono HB.out.size))
              clear hb2
              go_wp2
              go_ret
              exact ⟨rfl, HB2.out⟩
            | false =>
              have hxn : xl ≠ [45, 110] := by simpa using hx
              have HQ := Lib.hid (refQuote_any ⟨xl.toArray⟩ (by show xl.toArray.size ≤ _; simp; omega) wr)
              have hql := quoteS_len xl (by omega)
              have hLn : L = [] := List.eq_nil_of_length_eq_zero (HL.out.trans H0.out)
              have hj2 : Lib.join (L ++ [xl]) [32] = xl := by rw [hLn]; exact Lib.join_one xl [32]
              have hq2 : ((⟨(Lib.join L [32]).toArray⟩ : ByteArray) ++ ⟨xl.toArray⟩) = ⟨(Lib.join (L ++ [xl]) [32]).toArray⟩ := by rw [hj2, hLn]; apply bs_ext; simp [Lib.join_nil]
              have hw1 : ¬ 9223372036854775807 < (Lib.join L [32]).length + xl.length := by omega
              have he1 : ((⟨#[32]⟩ : ByteArray) ++ ⟨(quoteS xl).toArray⟩) = ⟨(32 :: quoteS xl).toArray⟩ := by apply bs_ext; simp
              have he2 : ((⟨(echoL L).toArray⟩ : ByteArray) ++ ⟨(32 :: quoteS xl).toArray⟩) = ⟨(echoL (L ++ [xl])).toArray⟩ := by rw [echoL_snoc]; apply bs_ext; simp
              have hs1 : ¬ 9223372036854775807 < 1 + (quoteS xl).length := by omega
              have hs2 : ¬ 9223372036854775807 < (echoL L).length + ((quoteS xl).length + 1) := by omega
              have HJ2 : Hid ((Lib.join (L ++ [xl]) [32]).length ≤ (i + 1) * 201) := Lib.hid (by rw [hj2]; omega)
              have HL2 : Hid ((L ++ [xl]).length = i + 1) := Lib.hid (by rw [List.length_append, HL.out]; rfl)
              have HM2 : Hid (∀ y ∈ L ++ [xl], y.length ≤ 200) := Lib.hid (fun y hy => by
                rcases List.mem_append.1 hy with h | h
                · exact HM.out y h
                · simp at h; subst h; omega)
              have HH2 : Hid ((L ++ [xl]).head? ≠ some [45, 110]) := Lib.hid (by rw [hLn]; simpa using hxn)
              clear hj2 hLn
              go_wp2_with fail
              go_at_call 10
              refine HQ.out.mono ?_
              rintro e w1 ⟨rfl, hb1⟩
              have HB1 := Lib.hid (HB.out.trans (hb1.mono HB.out.size))
              clear hb1 hc
              go_wp2
              go_roundw
              case rel => exact ⟨i + 1, L ++ [xl], rfl, rfl, by go_num, by omega, by omega, HL2, HM2, HH2, HJ2.out, HB1⟩
              case measure => simp [intOf]; omega
          · have hi0 : ((i : Int) == 0) = false := beq_eq_false_iff_ne.2 (by omega)
            have hnp : 0 < (i : Int) := by omega
            have HQ := Lib.hid (refQuote_any ⟨xl.toArray⟩ (by show xl.toArray.size ≤ _; simp; omega) wr)
            have hql := quoteS_len xl (by omega)
            have hLne : L ≠ [] := fun e => by have := HL.out; rw [e] at this; simp at this; omega
            have hj2 : Lib.join (L ++ [xl]) [32] = Lib.join L [32] ++ [32] ++ xl := join_snoc L xl hLne
            have hq1 : ((⟨(Lib.join L [32]).toArray⟩ : ByteArray) ++ ⟨#[32]⟩) = ⟨(Lib.join L [32] ++ [32]).toArray⟩ := by apply bs_ext; simp
            have hq2 : ((⟨(Lib.join L [32] ++ [32]).toArray⟩ : ByteArray) ++ ⟨xl.toArray⟩) = ⟨(Lib.join (L ++ [xl]) [32]).toArray⟩ := by rw [hj2]; apply bs_ext; simp
            have hw1 : ¬ 9223372036854775807 < (Lib.join L [32]).length + 1 := by omega
            have hw2 : ¬ 9223372036854775807 < (Lib.join L [32] ++ [32]).length + xl.length := by rw [List.length_append]; simp only [List.length_cons, List.length_nil]; omega
            have hw3 : ¬ 9223372036854775807 < (Lib.join L [32]).length + 1 + xl.length := by omega
            have he1 : ((⟨#[32]⟩ : ByteArray) ++ ⟨(quoteS xl).toArray⟩) = ⟨(32 :: quoteS xl).toArray⟩ := by apply bs_ext; simp
            have he2 : ((⟨(echoL L).toArray⟩ : ByteArray) ++ ⟨(32 :: quoteS xl).toArray⟩) = ⟨(echoL (L ++ [xl])).toArray⟩ := by rw [echoL_snoc]; apply bs_ext; simp
            have hs1 : ¬ 9223372036854775807 < 1 + (quoteS xl).length := by omega
            have hs2 : ¬ 9223372036854775807 < (echoL L).length + ((quoteS xl).length + 1) := by omega
            have HJ2 : Hid ((Lib.join (L ++ [xl]) [32]).length ≤ (i + 1) * 201) := Lib.hid (by rw [hj2]; simp only [List.length_append, List.length_cons, List.length_nil]; omega)
            have HL2 : Hid ((L ++ [xl]).length = i + 1) := Lib.hid (by rw [List.length_append, HL.out]; rfl)
            have HM2 : Hid (∀ y ∈ L ++ [xl], y.length ≤ 200) := Lib.hid (fun y hy => by
              rcases List.mem_append.1 hy with h | h
              · exact HM.out y h
              · simp at h; subst h; omega)
            have HH2 : Hid ((L ++ [xl]).head? ≠ some [45, 110]) := Lib.hid (by
              have hh := HH.out
              cases L with
              | nil => exact absurd rfl hLne
              | cons y L => simpa using hh)
            clear hj2
            go_wp2_with fail
            go_at_call 10
            refine HQ.out.mono ?_
            rintro e w1 ⟨rfl, hb1⟩
            have HB1 := Lib.hid (HB.out.trans (hb1.mono HB.out.size))
            clear hb1 hc
            go_wp2
            go_roundw
            case rel => exact ⟨i + 1, L ++ [xl], rfl, rfl, by go_num, by omega, by omega, HL2, HM2, HH2, HJ2.out, HB1⟩
            case measure => simp [intOf]; omega
    · have hL21 : L.length ≤ 21 := by rw [HL.out]; omega
      have hwl : (wantL L).length = (Lib.join L [32]).length + 1 := by simp [wantL]
      have hsl : (saidL L).length = (echoL L).length + 2 + (echoL L).length + 17 := by simp [saidL]; omega
      have heq : echoF L = wantL L := by
        unfold echoF wantL
        rw [if_neg]
        have := HH.out
        simpa using this
      have HRF := Lib.hid (runF_said L (by omega) (by omega) heq)
      have HOk := Lib.hid (ok_said L (by omega) (by omega) (fun x hx => by have := HM.out x hx; omega))
      have HSt := Lib.hid (stores_nil wr)
      have hc1 : ((⟨(Lib.join L [32]).toArray⟩ : ByteArray) ++ ⟨#[10]⟩) = ⟨(wantL L).toArray⟩ := by apply bs_ext; simp [wantL]
      have hc2 : ((⟨(echoL L).toArray⟩ : ByteArray) ++ ⟨#[59, 32]⟩) = ⟨(echoL L ++ [59, 32]).toArray⟩ := by apply bs_ext; simp
      have hc3 : ((⟨(echoL L ++ [59, 32]).toArray⟩ : ByteArray) ++ ⟨(echoL L).toArray⟩) = ⟨(echoL L ++ [59, 32] ++ echoL L).toArray⟩ := by apply bs_ext; simp
      have hc4 : ((⟨(echoL L ++ [59, 32] ++ echoL L).toArray⟩ : ByteArray) ++ ⟨#[32, 62, 32, 100, 47, 102, 59, 32, 99, 97, 116, 32, 60, 32, 100, 47, 102]⟩) = ⟨(saidL L).toArray⟩ := by apply bs_ext; simp [saidL]
      have hc5 : ((⟨(wantL L).toArray⟩ : ByteArray) ++ ⟨(wantL L).toArray⟩) = ⟨(wantL L ++ wantL L).toArray⟩ := by apply bs_ext; simp
      have hn1 : ¬ 9223372036854775807 < (Lib.join L [32]).length + 1 := by omega
      have hn2 : ¬ 9223372036854775807 < (echoL L).length + 2 := by omega
      have hn3 : ¬ 9223372036854775807 < (echoL L ++ [59, 32]).length + (echoL L).length := by rw [List.length_append]; simp only [List.length_cons, List.length_nil]; omega
      have hn4 : ¬ 9223372036854775807 < (echoL L ++ [59, 32] ++ echoL L).length + 17 := by rw [List.length_append, List.length_append]; simp only [List.length_cons, List.length_nil]; omega
      have hn5 : ¬ 9223372036854775807 < (wantL L).length + (wantL L).length := by omega
      have HSl : Hid ((saidL L).length ≤ 65536) := Lib.hid (by omega)
      clear heq hsl hwl hL21 hE hJ HL HM HH
      generalize hSS : saidL L = SS at *
      generalize hWW : wantL L ++ wantL L = WW at *
      generalize hW1 : wantL L = W1 at *
      generalize hE3 : echoL L ++ [59, 32] ++ echoL L = E3 at *
      generalize hE2 : echoL L ++ [59, 32] = E2 at *
      generalize hE1 : echoL L = E1 at *
      generalize hJ1 : Lib.join L [32] = J1 at *
      clear hSS hWW hW1 hE3 hE2 hE1 hJ1
      go_wp2_with fail
      go_at_call 11
      refine HSt.out.mono ?_
      rintro e w1 ⟨pb, mb, rb, l, B, rfl, hpb, hmb, hB, hpB, hmB, hs1, hr1, hb1⟩
      have HRun : Hid (Calls Tryz.prog 12 #[.string ⟨(SS).toArray⟩, .pointer (some ⟨pb, 0, none⟩), .int .i64 9] w1 fun e w' => e = .returned (.tuple #[.int .i64 0, .string ⟨(WW).toArray⟩, .int .i64 0]) ∧ IsStore pb mb (st0.put dfQ ⟨W1, 0, false⟩) w' ∧ Keeps w1.heap.size (fun k => k = pb ∨ k = mb) w1 w') := Lib.hid (by
        refine (run_any runA_ok pb mb st0 ⟨(SS).toArray⟩ (by show (SS).toArray.size ≤ _; simp; have := HSl.out; omega) HOk.out 9 (by omega) w1 hs1).mono ?_
        rintro e w' ⟨rfl, hs, hk⟩
        have h := HRF.out
        change IsStore pb mb (runF runA st0 (SS) 9).1 w' at hs
        rw [h] at hs
        refine ⟨?_, hs, hk⟩
        show Ending.returned (.tuple #[.int .i64 (runF runA st0 (SS) 9).2.1, .string ⟨(runF runA st0 (SS) 9).2.2.1.toArray⟩, .int .i64 (runF runA st0 (SS) 9).2.2.2]) = _
        rw [h])
      have HB1 := Lib.hid (HB.out.trans (hb1.mono HB.out.size))
      have HP := Lib.hid (⟨hpb, hmb⟩ : wr.heap.size ≤ pb ∧ wr.heap.size ≤ mb)
      clear hs1 hr1 hb1
      go_wp2_with fail
      go_at_call 12
      refine HRun.out.mono ?_
      rintro e w2 ⟨rfl, hs2, hk2⟩
      have HB2 : Hid (Below w.heap.size w w2) := Lib.hid (HB1.out.trans ((hk2.mono HB1.out.size (M' := fun _ => False) (fun k hk h => by have := HP.out; have := HB.out.size; omega)).below (fun _ _ h => h)))
      have HRd : Hid (Calls Tryz.prog 13 #[.pointer (some ⟨pb, 0, none⟩), .string ⟨#[47, 100, 47, 102]⟩] w2 fun e w' => e = .returned (.tuple #[.string ⟨(W1).toArray⟩, .int .i64 0]) ∧ Below w2.heap.size w2 w') := Lib.hid (by
        refine (read_store pb mb (st0.put dfQ ⟨W1, 0, false⟩) ⟨#[47, 100, 47, 102]⟩ (by show 4 ≤ _; omega) w2 hs2).mono ?_
        rintro e w' ⟨rfl, hb⟩
        refine ⟨?_, hb⟩
        show Ending.returned (.tuple #[.string ⟨(readF (st0.put dfQ ⟨W1, 0, false⟩) dfQ).1.toArray⟩, .int .i64 (readF (st0.put dfQ ⟨W1, 0, false⟩) dfQ).2]) = _
        rw [read_said2])
      clear hs2 hk2
      go_wp2_with fail
      go_at_call 13
      refine HRd.out.mono ?_
      rintro e w3 ⟨rfl, hb3⟩
      have HB3 := Lib.hid (HB2.out.trans (hb3.mono HB2.out.size))
      clear hb3
      go_wp2_with fail
      go_at_call 9
      refine (hAl.out _).mono ?_
      rintro e w4 ⟨rfl, hb4⟩
      have HB4 := Lib.hid (HB3.out.trans (hb4.mono HB3.out.size))
      clear hb4
      go_wp2
      go_ret
      exact ⟨rfl, HB4.out⟩
end Go.Proofs.YtmagggflamdahaaGreatDoor
