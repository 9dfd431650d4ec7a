/- bobstaylaw17.ShWhole: its walk. -/
import Derived.Test.YtmagggflamdahaaGreatDoorSy
import Derived.Test.YtmagggflamdahaaGreatDoorSo
import Derived.Test.YtmagggflamdahaaGreatDoorSx
namespace Go.Proofs.YtmagggflamdahaaGreatDoor
open Go.RowKit

/-- the walk of a line and files that are short, behind the two stores -/
def WholeQ (w : World) (e : Ending) (w' : World) : Prop := e = .returned (.bool true) ∧ Below w.heap.size w w'

theorem ok_short (l : List UInt8) (hl : l.length ≤ 600) (cs : List PCmd) (h : readS l = .ok cs) : ∀ c ∈ cs, CmdOK OkW c := by
  intro c hc
  have h1 := (readS_short l cs h).1 c hc
  refine ⟨⟨by have := h1.cnt; omega, fun x hx => by have := h1.words x hx; omega⟩, fun p hp => by have := h1.inn p hp; omega, fun p hp => by have := h1.out p hp; omega⟩

set_option maxHeartbeats 8000000 in
set_option maxRecDepth 100000 in
theorem shWhole_walk (s : ByteArray) (hs : s.size ≤ 140737488351232) (a : Option Addr) (cap : Nat) (l : List (List UInt8 × List UInt8)) (w : World) (h : FilesAt w a cap l) (hG : Gl w) :
    Calls Tryz.prog 6 #[.string s, .slice a l.length cap] w (WholeQ w) := by
  have hFar := Lib.hid (far_any s hs a cap l w h)
  have hAl := Lib.hid (fun w => alive_any w)
  have HFi := Lib.hid h
  have HG := Lib.hid hG
  clear h hG
  go_enter Tryz.func6, Tryz.ntmps6
  go_wp2_with fail
  go_at_call 18
  refine hFar.out.mono ?_
  rintro e w1 ⟨⟨b, rfl, hsh⟩, hb1⟩
  have HB1 := Lib.hid hb1
  have HSh := Lib.hid hsh
  clear hb1 hsh
  cases b with
  | true =>
    go_wp2_with fail
    go_at_call 9
    refine (hAl.out _).mono ?_
    rintro e w2 ⟨rfl, hb2⟩
    have HB2 := Lib.hid (HB1.out.trans (hb2.mono HB1.out.size))
    clear hb2
    go_wp2
    go_ret
    exact ⟨rfl, HB2.out⟩
  | false =>
    obtain ⟨hs6, hl20, hfs⟩ := HSh.out rfl
    have hsl : s.data.toList.length ≤ 600 := by simp; omega
    have HOk := Lib.hid (fun cs h => ok_short s.data.toList hsl cs h)
    have HLn := Lib.hid (fun cs h => (readS_short s.data.toList cs h).2)
    have hSt1 := Lib.hid (stores_any a cap l w1 (HFi.out.below HB1.out) hl20 hfs)
    have HS6 := Lib.hid (And.intro hs6 hsl)
    have HLF := Lib.hid (And.intro hl20 hfs)
    generalize hSF : stF l = S0 at hSt1
    have HSF := Lib.hid hSF
    clear hs6 hsl hl20 hfs hSF
    go_wp2_with fail
    go_at_call 11
    refine hSt1.out.mono ?_
    rintro e w2 ⟨pb, mb, rb, lr, B, rfl, hpb, hmb, -, -, -, hs2, -, hb2⟩
    have HB2 := Lib.hid (HB1.out.trans (hb2.mono HB1.out.size))
    have HS2 := Lib.hid hs2
    have HP := Lib.hid (And.intro (Nat.le_trans HB1.out.size hpb) (Nat.le_trans HB1.out.size hmb))
    have hSt2 := stores_any a cap l w2 (HFi.out.below HB2.out) HLF.out.1 HLF.out.2
    rw [HSF.out] at hSt2
    replace hSt2 := Lib.hid hSt2
    clear hb2 hs2 hpb hmb
    go_wp2_with fail
    go_at_call 11
    refine hSt2.out.mono ?_
    rintro e w3 ⟨pb2, mb2, rb2, lr2, B2, rfl, hpb2, hmb2, -, -, -, hs3, -, hb3⟩
    have HB3 := Lib.hid (HB2.out.trans (hb3.mono HB2.out.size))
    have HS3 := Lib.hid hs3
    have HS3a := Lib.hid (HS2.out.below hb3)
    have HP2 : Hid (w2.heap.size ≤ pb2 ∧ w2.heap.size ≤ mb2 ∧ pb < w2.heap.size ∧ mb < w2.heap.size) := Lib.hid ⟨hpb2, hmb2, HS2.out.ltp, HS2.out.ltm⟩
    have hRun := run_anyG (runW_ok w HG.out) pb mb HP.out S0 s hs HOk.out 1000 (by omega) w3 HB3.out HS3a.out
    obtain ⟨R, hR⟩ : ∃ R, runF runW S0 s.data.toList 1000 = R := ⟨_, rfl⟩
    rw [hR] at hRun
    replace hRun := Lib.hid hRun
    have HRR := Lib.hid hR
    clear hb3 hs3 hpb2 hmb2 hR
    obtain ⟨rst, rn, rt, re⟩ := R
    simp only at hRun
    go_wp2_with fail
    go_at_call 12
    refine hRun.out.mono ?_
    rintro e w4 ⟨rfl, hs4, hk4⟩
    have HB4 : Hid (Below w.heap.size w w4) := Lib.hid (HB3.out.trans ((hk4.mono HB3.out.size (M' := fun _ => False) (fun k hk e => by have := HP.out; omega)).below (fun _ _ h => h)))
    have HS4 := Lib.hid hs4
    have HS4b : Hid (IsStore pb2 mb2 S0 w4) := Lib.hid (HS3.out.keep (fun k hk => hk4.block k (by rcases hk with rfl | rfl; exact HS3.out.ltp; exact HS3.out.ltm) (by have := HP2.out; omega)))
    have HN := Lib.hid (new_any s hs w4)
    clear hs4 hk4
    unfold NewQ at HN
    unfold runF at HRR
    cases hr : readS s.data.toList with
    | error n =>
      rw [hr] at HN HRR
      simp only [Prod.mk.injEq] at HRR
      obtain ⟨rfl, rfl, rfl, rfl⟩ := HRR.out
      clear hr
      go_wp2_with fail
      go_at_call 19
      refine HN.out.mono ?_
      rintro e w5 ⟨⟨rfl, hn⟩, hb5⟩
      have hnb : ((n : Int) != 0) = true := by simpa using hn
      have hnn : ((n : Int) != (n : Int)) = false := by simp
      have HB5 := Lib.hid (HB4.out.trans (hb5.mono HB4.out.size))
      clear hb5 hn
      go_wp2_with fail
      go_at_call 9
      refine (hAl.out _).mono ?_
      rintro e w6 ⟨rfl, hb6⟩
      have HB6 := Lib.hid (HB5.out.trans (hb6.mono HB5.out.size))
      clear hb6
      go_wp2
      go_ret
      exact ⟨rfl, HB6.out⟩
    | ok cs =>
      rw [hr] at HN HRR
      simp only at HRR
      have hcl := HLn.out cs hr
      have hcs := HOk.out cs hr
      have hend := runS_ends runW cs.length S0 ⟨cs, 0, []⟩ 1000 (Nat.le_refl _) (by have := HS6.out.2; show (cs.length : Int) ≤ 1000; omega)
      rw [HRR.out] at hend
      simp only at hend
      subst hend
      have HC := Lib.hid hcs
      have HCL : Hid (cs.length ≤ 601) := Lib.hid (by have := HS6.out.2; omega)
      clear hr hcl hcs
      go_wp2_with fail
      go_at_call 19
      refine HN.out.mono ?_
      rintro e w5 ⟨⟨ppb, K, rfl, hpp, hK, hp5⟩, hb5⟩
      have HB5 := Lib.hid (HB4.out.trans (hb5.mono HB4.out.size))
      have HPP := Lib.hid (And.intro hpp hK)
      have HP5 := Lib.hid hp5
      have HS5 := Lib.hid (HS4.out.below hb5)
      have HS5b := Lib.hid (HS4b.out.below hb5)
      have HL4 : Hid (pb < w4.heap.size ∧ mb < w4.heap.size ∧ pb2 < w4.heap.size ∧ mb2 < w4.heap.size) := Lib.hid ⟨HS4.out.ltp, HS4.out.ltm, HS4b.out.ltp, HS4b.out.ltm⟩
      have HZ5 := Lib.hid hb5.size
      clear hpp hK hp5 hb5
      go_wp2
      go_loopw [50] (fun v50 wr => ∃ (i : Nat) (st' : PStore) (pr : PProc) (v : Value), v50 = .int .i64 i ∧ Hid (runS runW S0 ⟨cs, 0, []⟩ 1000 = runS runW st' pr (1000 - i)) ∧ Hid (pr.left.length + i ≤ cs.length) ∧ Hid (GoodP OkW pr) ∧ Hid (IsProc K ppb v pr wr) ∧ Hid (IsStore pb2 mb2 st' wr) ∧ Hid (IsStore pb mb rst wr) ∧ Hid (∀ k, v.ownBlock = some k → w4.heap.size ≤ k) ∧ Hid (Below w.heap.size w wr) ∧ Hid (w5.heap.size ≤ wr.heap.size)) (fun v50 _ => 1001 - (intOf v50).toNat)
      case atStart => exact ⟨0, S0, ⟨cs, 0, []⟩, _, rfl, Lib.hid rfl, Lib.hid (Nat.le_refl _), Lib.hid ⟨HC.out, by simp⟩, HP5, HS5b, HS5, Lib.hid (fun k hk => by simp [Value.ownBlock] at hk), HB5, Lib.hid (Nat.le_refl _)⟩
      case round =>
        obtain ⟨i, st', pr, v, rfl, HE, HLe, HGd, HI, HT, HT0, HV, HB, HZ⟩ := hrel
        have hi : (i : Int) < 1000 := by have := HLe.out; have := HCL.out; omega
        have hKr : ∀ k, K k → k < wr.heap.size := fun k hk => Nat.lt_of_lt_of_le (HPP.out.2 k hk).2 HZ.out
        have hap : ∀ k, k = pb2 ∨ k = mb2 → k ≠ ppb ∧ v.ownBlock ≠ some k ∧ ¬ K k := by
          intro k hk
          have h4 := HL4.out
          refine ⟨?_, fun e => ?_, fun hkk => ?_⟩
          · have := HPP.out.1; omega
          · have := HV.out k e; omega
          · have := (HPP.out.2 k hkk).1; omega
        have hw0 : w.heap.size ≤ pb2 ∧ w.heap.size ≤ mb2 ∧ w.heap.size ≤ ppb := by
          have h1 := HP2.out
          have h2 := HB2.out.size
          have h3 := HPP.out.1
          have h4 := HB4.out.size
          omega
        have HSt := Lib.hid (step_ok (runW_ok w HG.out) pr st' wr hw0 HB.out HGd.out HI.out HT.out hKr hap)
        have HG2 := Lib.hid (stepF_good (R := runW) (st := st') HGd.out)
        have HLs := Lib.hid (stepF_len (R := runW) (st := st') (pr := pr))
        have HE2 := Lib.hid (HE.out.trans (runS_on (R := runW) (st := st') (pr := pr) (f := 1000 - i) (by omega)))
        have hW0 := Lib.hid hw0
        generalize stepF runW st' pr = q at HSt HG2 HLs HE2
        obtain ⟨st2, pr2⟩ := q
        simp only at HSt HG2 HLs HE2
        clear hKr hap hw0
        go_wp2_with fail
        go_at_call 14
        refine HSt.out.mono ?_
        rintro e w6 ⟨rfl, hs6, ⟨v', hp6, hv'⟩, hk6⟩
        have HS6b := Lib.hid hs6
        have HP6 := Lib.hid hp6
        have HS60 : Hid (IsStore pb mb rst w6) := Lib.hid (HT0.out.keep (fun k hk => hk6.block k (by rcases hk with rfl | rfl; exact HT0.out.ltp; exact HT0.out.ltm) (fun e => by
          have h4 := HL4.out
          have h2 := HP2.out
          have h3 := HPP.out.1
          rcases e with e | e | e | e
          · omega
          · omega
          · omega
          · have := HV.out k e; omega)))
        have HV6 : Hid (∀ k, v'.ownBlock = some k → w4.heap.size ≤ k) := Lib.hid (fun k hk => (hv' k hk).elim (HV.out k) (fun h => by have := HZ.out; have := HZ5.out; omega))
        have HB6 : Hid (Below w.heap.size w w6) := Lib.hid (HB.out.trans ((hk6.mono HB.out.size (M' := fun _ => False) (fun k hk e => by
          have h0 := hW0.out
          have h4 := HB4.out.size
          rcases e with e | e | e | e
          · omega
          · omega
          · omega
          · have := HV.out k e; omega)).below (fun _ _ h => h)))
        have HZ6 := Lib.hid (Nat.le_trans HZ.out hk6.size)
        clear hs6 hp6 hv' hk6
        cases hpl : pr2.left with
        | nil =>
          have hfin : runS runW st2 pr2 (1000 - i - 1) = (st2, pr2.status, pr2.said, 0) := runS_done hpl
          have hq := HRR.out
          rw [HE2.out, hfin] at hq
          simp only [Prod.mk.injEq, and_true] at hq
          obtain ⟨rfl, rfl, rfl⟩ := hq
          have HDn := done_any w6 HP6.out
          rw [hpl] at HDn
          replace HDn := Lib.hid HDn
          have HSs := Lib.hid (status_any w6 HP6.out)
          have HSy := Lib.hid (says_any w6 HP6.out)
          clear hfin hpl
          simp only [List.isEmpty_nil]
          go_wp2_with fail
          go_at_call 15
          refine HDn.out.mono ?_
          rintro e w7 ⟨rfl, rfl⟩
          simp only [List.isEmpty_nil]
          go_wp2_with fail
          go_at_call 16
          refine HSs.out.mono ?_
          rintro e w7 ⟨rfl, rfl⟩
          have hbs : ((pr2.status : Int) == pr2.status) = true := by simp
          go_wp2_with fail
          go_at_call 17
          refine HSy.out.mono ?_
          rintro e w7 ⟨rfl, -, hk7⟩
          have hne7 : ∀ k, v'.ownBlock = some k → w4.heap.size ≤ k := HV6.out
          have HS7 : Hid (IsStore pb mb st2 w7) := Lib.hid (HS60.out.keep (fun k hk => hk7.block k (by rcases hk with rfl | rfl; exact HS60.out.ltp; exact HS60.out.ltm) (fun e => by have := hne7 k e; have := HL4.out; omega)))
          have HS7b : Hid (IsStore pb2 mb2 st2 w7) := Lib.hid (HS6b.out.keep (fun k hk => hk7.block k (by rcases hk with rfl | rfl; exact HS6b.out.ltp; exact HS6b.out.ltm) (fun e => by have := hne7 k e; have := HL4.out; omega)))
          have HB7 : Hid (Below w.heap.size w w7) := Lib.hid (HB6.out.trans ((hk7.mono HB6.out.size (M' := fun _ => False) (fun k hk e => by have := hne7 k e; have := HB4.out.size; omega)).below (fun _ _ h => h)))
          have HA1 := Lib.hid (all_store pb mb st2 w7 HS7.out)
          clear hk7 hne7
          go_wp2_with fail
          go_at_call 21
          refine HA1.out.mono ?_
          rintro e w8 ⟨va, rfl, ho8, hb8⟩
          have HO8 := Lib.hid ho8
          have HS8 := Lib.hid (HS7.out.below hb8)
          have HS8b := Lib.hid (HS7b.out.below hb8)
          have HB8 := Lib.hid (HB7.out.trans (hb8.mono HB7.out.size))
          have HA2 := Lib.hid (all_store pb2 mb2 st2 w8 HS8b.out)
          obtain ⟨aa, ac, rfl⟩ := ownsRow_slice ho8
          clear ho8 hb8
          go_wp2_with fail
          go_at_call 21
          refine HA2.out.mono ?_
          rintro e w9 ⟨vb, rfl, ho9, hb9⟩
          have HO9 := Lib.hid ho9
          have HO8b : Hid (w9.ownsRow w7.heap.size 9 1 (.slice aa (allF st2).length ac) (allF st2).length ((allF st2).map strV)) := Lib.hid (ownsRow_heap HO8.out (fun k hk => hb9.block k (HO8.out.lt k hk).2))
          have HS9 := Lib.hid (HS8.out.below hb9)
          have HS9b := Lib.hid (HS8b.out.below hb9)
          have HB9 := Lib.hid (HB8.out.trans (hb9.mono HB8.out.size))
          have hal512 : (allF st2).length ≤ 512 := by
            unfold allF
            rw [sortT_len]
            have h1 := List.length_filterMap_le (fun x : List UInt8 × PFile => if x.2.dir then none else some x.1) st2.files
            have h2 := HS9.out.wf.cnt
            omega
          have HSm := Lib.hid (same_any (allF st2) (by omega) w9 HO8b.out HO9.out)
          obtain ⟨ba, bc, rfl⟩ := ownsRow_slice ho9
          clear ho9 hb9 hal512
          go_wp2_with fail
          go_at_call 20
          refine HSm.out.mono ?_
          rintro e w10 ⟨rfl, hb10⟩
          have HS10 := HS9.out.below hb10
          have HS10b := HS9b.out.below hb10
          have HB10 := Lib.hid (HB9.out.trans (hb10.mono HB9.out.size))
          have HCk := Lib.hid (clock_store pb mb st2 w10 HS10)
          have HCk2 := Lib.hid (clock_store pb2 mb2 st2 w10 HS10b)
          have hbc : ((st2.clock : Int) == st2.clock) = true := by simp
          clear hb10 HS10 HS10b
          go_wp2_with fail
          go_at_call 22
          refine HCk.out.mono ?_
          rintro e w11 ⟨rfl, rfl⟩
          go_wp2_with fail
          go_at_call 22
          refine HCk2.out.mono ?_
          rintro e w11 ⟨rfl, rfl⟩
          go_wp2_with fail
          go_at_call 9
          refine (hAl.out _).mono ?_
          rintro e w12 ⟨rfl, hb12⟩
          have HB12 := Lib.hid (HB10.out.trans (hb12.mono HB10.out.size))
          clear hb12
          go_wp2
          go_ret
          exact ⟨rfl, HB12.out⟩
        | cons c rest =>
          have HLe2 : Hid (pr2.left.length + (i + 1) ≤ cs.length) := Lib.hid (by
            have h1 := HLs.out
            have h2 := HLe.out
            rw [hpl] at h1 ⊢
            simp only [List.length_cons] at h1 ⊢
            omega)
          have HE3 : Hid (runS runW S0 ⟨cs, 0, []⟩ 1000 = runS runW st2 pr2 (1000 - ((i + 1 : Nat) : Int))) := Lib.hid (by
            rw [HE2.out]
            congr 1
            omega)
          clear hpl
          simp only [List.isEmpty_cons]
          go_wp2
          go_roundw
          case rel => exact ⟨i + 1, st2, pr2, v', by go_num, HE3, HLe2, HG2, HP6, HS6b, HS60, HV6, HB6, HZ6⟩
          case measure => simp [intOf]; omega
end Go.Proofs.YtmagggflamdahaaGreatDoor
