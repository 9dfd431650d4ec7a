/- All commands of sh. Printed by wip/genrunw.py. What is read of a line is no longer than the line; a process that is run to its end. bobstayref01.Same of two rows that hold the same texts; bobstaylaw17.far. -/
import Derived.Test.YtmagggflamdahaaGreatDoorSl
import Derived.Test.YtmagggflamdahaaGreatDoorSw
import Derived.Test.YtmagggflamdahaaGreatDoorSr
import Derived.Test.YtmagggflamdahaaGreatDoorSv
namespace Go.Proofs.YtmagggflamdahaaGreatDoor
open Go.RowKit

def cpW (st : PStore) : List (List UInt8) → PStore × Int
  | [a, b] => cpF st a b
  | _ => (st, 2)
def mvW (st : PStore) : List (List UInt8) → PStore × Int
  | [a, b] => mvF st a b
  | _ => (st, 2)
theorem cp_any (pb mb : Nat) (st : PStore) {K : Nat → Prop} {v : Value} (nm : List UInt8) (l : List (List UInt8)) (hnm : (nm == [109, 118]) = false) (hx : ∀ x ∈ l, x.length ≤ 131070) (w : World) (hl : StrsAt K w v l) (h : IsStore pb mb st w) :
    Calls Tryz.prog 78 #[.string ⟨nm.toArray⟩, v, .pointer (some ⟨pb, 0, none⟩)] w (StoreQ pb mb (cpW st l) w) := by
  by_cases h2 : l.length = 2
  · match l, h2 with
    | [a, b], _ => exact two_cp pb mb st nm a b hnm (by have := hx a (by simp); omega) (by have := hx b (by simp); omega) w hl h
  · have hc : cpW st l = (st, 2) := by
      match l, h2 with
      | [], _ => rfl
      | [_], _ => rfl
      | _ :: _ :: _ :: _, _ => rfl
      | [_, _], h => exact absurd rfl h
    rw [hc]
    refine (two_other nm l h2 w hl).mono ?_
    rintro e w' ⟨rfl, rfl⟩
    exact ⟨rfl, h, Keeps.refl _ _ _⟩
theorem mv_any (pb mb : Nat) (st : PStore) {K : Nat → Prop} {v : Value} (nm : List UInt8) (l : List (List UInt8)) (hnm : (nm == [109, 118]) = true) (hx : ∀ x ∈ l, x.length ≤ 131070) (w : World) (hl : StrsAt K w v l) (h : IsStore pb mb st w) :
    Calls Tryz.prog 78 #[.string ⟨nm.toArray⟩, v, .pointer (some ⟨pb, 0, none⟩)] w (StoreQ pb mb (mvW st l) w) := by
  by_cases h2 : l.length = 2
  · match l, h2 with
    | [a, b], _ => exact two_mv pb mb st nm a b hnm (by have := hx a (by simp); omega) (by have := hx b (by simp); omega) w hl h
  · have hc : mvW st l = (st, 2) := by
      match l, h2 with
      | [], _ => rfl
      | [_], _ => rfl
      | _ :: _ :: _ :: _, _ => rfl
      | [_, _], h => exact absurd rfl h
    rw [hc]
    refine (two_other nm l h2 w hl).mono ?_
    rintro e w' ⟨rfl, rfl⟩
    exact ⟨rfl, h, Keeps.refl _ _ _⟩
theorem testW_any (pb mb : Nat) (st : PStore) {K : Nat → Prop} {v : Value} (l : List (List UInt8)) (hx : ∀ x ∈ l, x.length ≤ 131070) (w : World) (hl : StrsAt K w v l) (h : IsStore pb mb st w) :
    Calls Tryz.prog 80 #[v, .pointer (some ⟨pb, 0, none⟩)] w fun e w' => e = .returned (.int .i64 (testF st l)) ∧ Below w.heap.size w w' := by
  by_cases h2 : l.length = 2
  · match l, h2 with
    | [a, b], _ => exact test2_any pb mb st a b (by have := hx b (by simp); omega) w hl h
  · by_cases h3 : l.length = 3
    · match l, h3 with
      | [a, b, c], _ => exact test3_any pb st a b c w hl
    · exact test_other pb st l h2 h3 w hl

set_option maxHeartbeats 1000000 in
set_option maxRecDepth 100000 in
theorem run_empty (pv : Value) {K : Nat → Prop} {v sv : Value} (inn : List UInt8) (w : World) (hl : StrsAt K w v []) :
    Calls Tryz.prog 58 #[pv, v, .string ⟨inn.toArray⟩, sv] w fun e w' => e = .returned (.tuple #[.int .i64 0, .string ⟨#[]⟩]) ∧ Below w.heap.size w w' := by
  obtain ⟨a, c, rfl⟩ := hl.isSlice
  clear hl
  go_enter Tryz.func58, Tryz.ntmps58
  go_wp2
  go_ret2
  exact ⟨rfl, Below.refl _ _⟩

/-- words of any command -/
structure OkW (words : List (List UInt8)) : Prop where
  len : words.length ≤ 1000
  all : ∀ x ∈ words, x.length ≤ 131070
/-- what any command comes to -/
def runW : RunFn := fun n st i words => match words with
  | [] => ⟨0, [], st, false⟩
  | nm :: l =>
    if nm == [116, 114, 117, 101] then ⟨0, [], st, false⟩
    else if nm == [58] then ⟨0, [], st, false⟩
    else if nm == [102, 97, 108, 115, 101] then ⟨1, [], st, false⟩
    else if nm == [101, 99, 104, 111] then ⟨0, echoF l, st, false⟩
    else if nm == [99, 97, 116] then ⟨(catF st l i).1, (catF st l i).2, st, false⟩
    else if nm == [99, 112] then ⟨(cpW st l).2, [], (cpW st l).1, false⟩
    else if nm == [109, 118] then ⟨(mvW st l).2, [], (mvW st l).1, false⟩
    else if nm == [114, 109] then ⟨(rmF st l).2, [], (rmF st l).1, false⟩
    else if nm == [116, 111, 117, 99, 104] then ⟨(eachS touchF st l).2, [], (eachS touchF st l).1, false⟩
    else if nm == [109, 107, 100, 105, 114] then ⟨(mkF st l).2, [], (mkF st l).1, false⟩
    else if nm == [116, 101, 115, 116] then ⟨testF st l, [], st, false⟩
    else if nm == [101, 120, 105, 116] then ⟨(exitF n l).1, [], st, (exitF n l).2⟩
    else ⟨127, [], st, false⟩

set_option maxHeartbeats 2000000 in
theorem runW_ok (W0 : World) (hG : Gl W0) : RunOK W0 runW OkW := by
  intro K ppb pb mb v wv pr st i words w hok hi hb0 hbw hs hp hwv hK hap
  obtain ⟨hlen, hall⟩ := hok
  have hGw : Gl w := hG.below hbw
  cases words with
  | nil =>
    refine ⟨by simp [runW], ?_⟩
    refine (run_empty _ i w hwv).mono ?_
    rintro e w' ⟨rfl, hb⟩
    exact ⟨rfl, hs.below hb, hp.below hb, Keeps.of hb _⟩
  | cons nm l =>
    simp only [List.length_cons] at hlen
    have hl : l.length ≤ 1000 := by omega
    have hal : ∀ x ∈ l, x.length ≤ 131070 := fun x hx => hall x (List.mem_cons_of_mem _ hx)
    have hal2 : ∀ x ∈ l, x.length ≤ 262144 := fun x hx => by have := hal x hx; omega
    have fin : ∀ w', Below w.heap.size w w' → IsStore pb mb st w' ∧ IsProc K ppb v ⟨pr.left, pr.status, pr.said⟩ w' ∧ Keeps w.heap.size (fun k => k = pb ∨ k = mb ∨ k = ppb) w w' := fun w' hb => ⟨hs.below hb, hp.below hb, Keeps.of hb _⟩
    have fin2 : ∀ (st2 : PStore) w', IsStore pb mb st2 w' → Keeps w.heap.size (fun k => k = pb ∨ k = mb) w w' → IsStore pb mb st2 w' ∧ IsProc K ppb v ⟨pr.left, pr.status, pr.said⟩ w' ∧ Keeps w.heap.size (fun k => k = pb ∨ k = mb ∨ k = ppb) w w' := fun st2 w' h1 h2 => ⟨h1, hp.keep (fun k hk hlt => h2.block k hlt (fun e => by
      have h3 := hap k e
      rcases hk with hk | hk | hk
      · exact h3.1 hk
      · exact h3.2.1 hk
      · exact h3.2.2 hk)), h2.mono (Nat.le_refl _) (fun k _ e => e.imp id .inl)⟩
    have hKn : ∀ k, K k → k ≠ pb ∧ k ≠ mb := fun k hk => ⟨fun e => (hap k (.inl e)).2.2 hk, fun e => (hap k (.inr e)).2.2 hk⟩
    have hkeep : ∀ W, Below w.heap.size w W → IsStore pb mb st W := fun W hb => hs.below hb
    cases h0 : (nm == [116, 114, 117, 101]) with
    | true =>
      have hR : runW pr.status st i (nm :: l) = ⟨0, [], st, false⟩ := by simp only [runW, h0, if_true]
      rw [hR]
      refine ⟨by simp, ?_⟩
      refine (run_true _ nm l i w hwv h0).mono ?_
      rintro e w' ⟨rfl, hb⟩
      exact ⟨rfl, fin w' hb⟩
    | false =>
      cases h1 : (nm == [58]) with
      | true =>
        have hR : runW pr.status st i (nm :: l) = ⟨0, [], st, false⟩ := by simp only [runW, h0, h1, Bool.false_eq_true, if_false, if_true]
        rw [hR]
        refine ⟨by simp, ?_⟩
        refine (run_colon _ nm l i w hwv h0 h1).mono ?_
        rintro e w' ⟨rfl, hb⟩
        exact ⟨rfl, fin w' hb⟩
      | false =>
        cases h2 : (nm == [102, 97, 108, 115, 101]) with
        | true =>
          have hR : runW pr.status st i (nm :: l) = ⟨1, [], st, false⟩ := by simp only [runW, h0, h1, h2, Bool.false_eq_true, if_false, if_true]
          rw [hR]
          refine ⟨by simp, ?_⟩
          refine (run_false _ nm l i w hwv h0 h1 h2).mono ?_
          rintro e w' ⟨rfl, hb⟩
          exact ⟨rfl, fin w' hb⟩
        | false =>
          cases h3 : (nm == [101, 99, 104, 111]) with
          | true =>
            have hR : runW pr.status st i (nm :: l) = ⟨0, echoF l, st, false⟩ := by simp only [runW, h0, h1, h2, h3, Bool.false_eq_true, if_false, if_true]
            rw [hR]
            obtain ⟨e1, e2, e3⟩ := echoF_len l hl hal2
            refine ⟨e1, ?_⟩
            have hE : Calls Tryz.prog 58 #[.pointer (some ⟨ppb, 0, none⟩), wv, .string ⟨i.toArray⟩, .pointer (some ⟨pb, 0, none⟩)] w fun e w' => e = .returned (.tuple #[.int .i64 0, .string ⟨(echoF l).toArray⟩]) ∧ Below w.heap.size w w' := by
              cases l with
              | nil => exact run_echo_none _ _ [] i w hwv h0 h1 h2 h3 rfl (by simp)
              | cons x r =>
                cases hx : (x == [45, 110]) with
                | true =>
                  obtain rfl : x = [45, 110] := eq_of_beq hx
                  exact run_echo_n _ _ _ i w hwv h0 h1 h2 h3 r rfl (by simp only [List.drop_succ_cons, List.drop_zero] at e3; omega) (by omega)
                | false => exact run_echo_some _ _ _ i w hwv h0 h1 h2 h3 x r rfl hx (by omega) (by omega)
            refine hE.mono ?_
            rintro e w' ⟨rfl, hb⟩
            exact ⟨rfl, fin w' hb⟩
          | false =>
            cases h4 : (nm == [99, 97, 116]) with
            | true =>
              have hR : runW pr.status st i (nm :: l) = ⟨(catF st l i).1, (catF st l i).2, st, false⟩ := by simp only [runW, h0, h1, h2, h3, h4, Bool.false_eq_true, if_false, if_true]
              rw [hR]
              refine ⟨catF_len st hs l i hl hi, ?_⟩
              refine (run_cat _ nm l i w hwv h0 h1 h2 h3 h4 (catF st l i).1 (catF st l i).2 (fun W => Below w.heap.size w W) ?_).mono ?_
              · intro W v' hv' hb
                refine (cat_any pb mb st l i (by omega) hal2 W hv' (hs.below hb)).mono ?_
                rintro e W' ⟨rfl, hb'⟩
                exact ⟨rfl, hb.trans (hb'.mono hb.size)⟩
              · rintro e w' ⟨rfl, hb⟩
                exact ⟨rfl, fin w' hb⟩
            | false =>
              cases h5 : (nm == [99, 112]) with
              | true =>
                have hR : runW pr.status st i (nm :: l) = ⟨(cpW st l).2, [], (cpW st l).1, false⟩ := by simp only [runW, h0, h1, h2, h3, h4, h5, Bool.false_eq_true, if_false, if_true]
                rw [hR]
                have hmv : (nm == [109, 118]) = false := by rw [eq_of_beq h5]; rfl
                refine ⟨by simp, ?_⟩
                refine (run_cp _ nm l i w hwv h0 h1 h2 h3 h4 h5 (cpW st l).2 (fun W => IsStore pb mb (cpW st l).1 W ∧ Keeps w.heap.size (fun k => k = pb ∨ k = mb) w W) ?_).mono ?_
                · intro W v' hv' hb
                  refine (cp_any pb mb st nm l hmv hal W hv' (hs.below hb)).mono ?_
                  rintro e W' ⟨rfl, h1, h2⟩
                  exact ⟨rfl, h1, (Keeps.of hb _).trans (h2.mono hb.size (fun _ _ h => h))⟩
                · rintro e w' ⟨rfl, h1, h2⟩
                  exact ⟨rfl, fin2 _ w' h1 h2⟩
              | false =>
                cases h6 : (nm == [109, 118]) with
                | true =>
                  have hR : runW pr.status st i (nm :: l) = ⟨(mvW st l).2, [], (mvW st l).1, false⟩ := by simp only [runW, h0, h1, h2, h3, h4, h5, h6, Bool.false_eq_true, if_false, if_true]
                  rw [hR]
                  refine ⟨by simp, ?_⟩
                  refine (run_mv _ nm l i w hwv h0 h1 h2 h3 h4 h5 h6 (mvW st l).2 (fun W => IsStore pb mb (mvW st l).1 W ∧ Keeps w.heap.size (fun k => k = pb ∨ k = mb) w W) ?_).mono ?_
                  · intro W v' hv' hb
                    refine (mv_any pb mb st nm l h6 hal W hv' (hs.below hb)).mono ?_
                    rintro e W' ⟨rfl, h1, h2⟩
                    exact ⟨rfl, h1, (Keeps.of hb _).trans (h2.mono hb.size (fun _ _ h => h))⟩
                  · rintro e w' ⟨rfl, h1, h2⟩
                    exact ⟨rfl, fin2 _ w' h1 h2⟩
                | false =>
                  cases h7 : (nm == [114, 109]) with
                  | true =>
                    have hR : runW pr.status st i (nm :: l) = ⟨(rmF st l).2, [], (rmF st l).1, false⟩ := by simp only [runW, h0, h1, h2, h3, h4, h5, h6, h7, Bool.false_eq_true, if_false, if_true]
                    rw [hR]
                    have htc : (nm == [116, 111, 117, 99, 104]) = false := by rw [eq_of_beq h7]; rfl
                    refine ⟨by simp, ?_⟩
                    refine (run_rm _ nm l i w hwv h0 h1 h2 h3 h4 h5 h6 h7 (rmF st l).2 (fun W => IsStore pb mb (rmF st l).1 W ∧ Keeps w.heap.size (fun k => k = pb ∨ k = mb) w W) ?_).mono ?_
                    · intro W v' hv' hb
                      refine (files_rm pb mb st nm htc h7 l (by omega) hal W hv' (hs.below hb) hKn).mono ?_
                      rintro e W' ⟨rfl, h1, h2⟩
                      exact ⟨rfl, h1, (Keeps.of hb _).trans (h2.mono hb.size (fun _ _ h => h))⟩
                    · rintro e w' ⟨rfl, h1, h2⟩
                      exact ⟨rfl, fin2 _ w' h1 h2⟩
                  | false =>
                    cases h8 : (nm == [116, 111, 117, 99, 104]) with
                    | true =>
                      have hR : runW pr.status st i (nm :: l) = ⟨(eachS touchF st l).2, [], (eachS touchF st l).1, false⟩ := by simp only [runW, h0, h1, h2, h3, h4, h5, h6, h7, h8, Bool.false_eq_true, if_false, if_true]
                      rw [hR]
                      refine ⟨by simp, ?_⟩
                      refine (run_touch _ nm l i w hwv h0 h1 h2 h3 h4 h5 h6 h7 h8 (eachS touchF st l).2 (fun W => IsStore pb mb (eachS touchF st l).1 W ∧ Keeps w.heap.size (fun k => k = pb ∨ k = mb) w W) ?_).mono ?_
                      · intro W v' hv' hb
                        refine (files_touch pb mb st nm h8 l (by omega) hal2 W hv' (hs.below hb) hKn).mono ?_
                        rintro e W' ⟨rfl, h1, h2⟩
                        exact ⟨rfl, h1, (Keeps.of hb _).trans (h2.mono hb.size (fun _ _ h => h))⟩
                      · rintro e w' ⟨rfl, h1, h2⟩
                        exact ⟨rfl, fin2 _ w' h1 h2⟩
                    | false =>
                      cases h9 : (nm == [109, 107, 100, 105, 114]) with
                      | true =>
                        have hR : runW pr.status st i (nm :: l) = ⟨(mkF st l).2, [], (mkF st l).1, false⟩ := by simp only [runW, h0, h1, h2, h3, h4, h5, h6, h7, h8, h9, Bool.false_eq_true, if_false, if_true]
                        rw [hR]
                        refine ⟨by simp, ?_⟩
                        refine (run_mkdir _ nm l i w hwv h0 h1 h2 h3 h4 h5 h6 h7 h8 h9 (mkF st l).2 (fun W => IsStore pb mb (mkF st l).1 W ∧ Keeps w.heap.size (fun k => k = pb ∨ k = mb) w W) ?_).mono ?_
                        · intro W v' hv' hb
                          refine (files_mk pb mb st nm h8 h7 h9 l (by omega) hal W hv' (hs.below hb) hKn).mono ?_
                          rintro e W' ⟨rfl, h1, h2⟩
                          exact ⟨rfl, h1, (Keeps.of hb _).trans (h2.mono hb.size (fun _ _ h => h))⟩
                        · rintro e w' ⟨rfl, h1, h2⟩
                          exact ⟨rfl, fin2 _ w' h1 h2⟩
                      | false =>
                        cases h10 : (nm == [116, 101, 115, 116]) with
                        | true =>
                          have hR : runW pr.status st i (nm :: l) = ⟨testF st l, [], st, false⟩ := by simp only [runW, h0, h1, h2, h3, h4, h5, h6, h7, h8, h9, h10, Bool.false_eq_true, if_false, if_true]
                          rw [hR]
                          refine ⟨by simp, ?_⟩
                          refine (run_test _ nm l i w hwv h0 h1 h2 h3 h4 h5 h6 h7 h8 h9 h10 (testF st l) (fun W => Below w.heap.size w W) ?_).mono ?_
                          · intro W v' hv' hb
                            refine (testW_any pb mb st l hal W hv' (hs.below hb)).mono ?_
                            rintro e W' ⟨rfl, hb'⟩
                            exact ⟨rfl, hb.trans (hb'.mono hb.size)⟩
                          · rintro e w' ⟨rfl, hb⟩
                            exact ⟨rfl, fin w' hb⟩
                        | false =>
                          cases h11 : (nm == [101, 120, 105, 116]) with
                          | true =>
                            have hR : runW pr.status st i (nm :: l) = ⟨(exitF pr.status l).1, [], st, (exitF pr.status l).2⟩ := by simp only [runW, h0, h1, h2, h3, h4, h5, h6, h7, h8, h9, h10, h11, Bool.false_eq_true, if_false, if_true]
                            rw [hR]
                            refine ⟨by simp, ?_⟩
                            refine (run_exit nm l i hal2 w hp hwv hGw h0 h1 h2 h3 h4 h5 h6 h7 h8 h9 h10 h11).mono ?_
                            rintro e w' ⟨rfl, h1, h2⟩
                            exact ⟨rfl, hs.keep (fun k hk => h2.block k (by rcases hk with rfl | rfl; exact hs.ltp; exact hs.ltm) (hap k hk).1), h1, h2.mono (Nat.le_refl _) (fun k _ e => .inr (.inr e))⟩
                          | false =>
                            have hR : runW pr.status st i (nm :: l) = ⟨127, [], st, false⟩ := by simp only [runW, h0, h1, h2, h3, h4, h5, h6, h7, h8, h9, h10, h11, Bool.false_eq_true, if_false]
                            rw [hR]
                            refine ⟨by simp, ?_⟩
                            refine (run_unknown _ nm l i w hwv h0 h1 h2 h3 h4 h5 h6 h7 h8 h9 h10 h11).mono ?_
                            rintro e w' ⟨rfl, hb⟩
                            exact ⟨rfl, fin w' hb⟩
end Go.Proofs.YtmagggflamdahaaGreatDoor

namespace Go.Proofs.YtmagggflamdahaaGreatDoor
open Go.RowKit

theorem meanS_len : ∀ (n : Nat) (l m : List UInt8), l.length ≤ n → meanS l = some m → m.length ≤ l.length
  | 0, l, m, h, hm => by
    obtain rfl : l = [] := List.eq_nil_of_length_eq_zero (by omega)
    rw [meanS_nil] at hm
    injection hm with hm
    subst hm
    simp
  | n + 1, l, m, h, hm => by
    by_cases hl : l = []
    · subst hl
      rw [meanS_nil] at hm
      injection hm with hm
      subst hm
      simp
    · have hle := spanS_le l
      cases h2 : (spanS l).2.2 with
      | false => rw [meanS_open l hl h2] at hm; cases hm
      | true =>
        rw [meanS_step l hl h2] at hm
        obtain ⟨x, hx, rfl⟩ := Option.map_eq_some_iff.1 hm
        have h1 := hle.2.2.1 h2
        have ih := meanS_len n _ x (by rw [List.length_drop]; omega) hx
        rw [List.length_drop] at ih
        have h3 := hle.1
        have h4 := hle.2.1
        simp only [List.length_append]
        omega
theorem meanW_len (l : List UInt8) : (meanW l).length ≤ l.length := by
  unfold meanW
  cases h : meanS l with
  | none => simp
  | some m => exact meanS_len l.length l m (Nat.le_refl _) h

/-- a command of which all is short; M: how many words may still come -/
structure ShortC (N M : Nat) (c : PCmd) : Prop where
  cnt : c.words.length + M ≤ N
  words : ∀ x ∈ c.words, x.length ≤ N
  inn : ∀ p, c.inn = some p → p.length ≤ N
  out : ∀ p, c.out = some p → p.length ≤ N
theorem ShortC.less {N M M' : Nat} {c : PCmd} (h : ShortC N M c) (hM : M' ≤ M) : ShortC N M' c := ⟨by have := h.cnt; omega, h.words, h.inn, h.out⟩
theorem ShortC.fresh {N M : Nat} (op : List UInt8) (hM : M ≤ N) : ShortC N M (PCmd.fresh op) := by
  refine ⟨by simp [PCmd.fresh]; omega, ?_, ?_, ?_⟩ <;> (intro x hx; simp [PCmd.fresh] at hx)
theorem nextS_short {N M : Nat} {cmds : List PCmd} {c : PCmd} (hc : ∀ d ∈ cmds, ShortC N 0 d) (h : ShortC N M c) (op : List UInt8) (bad : Bool) : ∀ d ∈ (nextS op cmds c bad).1, ShortC N 0 d := by
  unfold nextS
  split
  · intro d hd
    rcases List.mem_append.1 hd with hd | hd
    · exact hc d hd
    · obtain rfl := List.mem_singleton.1 hd
      exact h.less (Nat.zero_le _)
  · split <;> exact hc
theorem readGo_short (N : Nat) : ∀ (n : Nat) (L : List (List UInt8)) (cmds : List PCmd) (c : PCmd) (bad : Bool) (cs : List PCmd), L.length ≤ n → (∀ t ∈ L, t.length ≤ N) → (∀ d ∈ cmds, ShortC N 0 d) → ShortC N L.length c → cmds.length + L.length ≤ N → readGo L cmds c bad = .ok cs → (∀ d ∈ cs, ShortC N 0 d) ∧ cs.length ≤ N + 1
  | _, [], cmds, c, bad, cs, _, _, hcm, hc, hl, h => by
    unfold readGo at h
    have h1 := nextS_short hcm hc [] bad
    have h2 := nextS_len [] cmds c bad
    split at h
    · cases h
    · injection h with h
      subst h
      simp only [List.length_nil] at hl
      exact ⟨h1, by omega⟩
  | 0, t :: r, _, _, _, _, hn, _, _, _, _, _ => by simp at hn
  | n + 1, t :: r, cmds, c, bad, cs, hn, ht, hcm, hc, hl, h => by
    simp only [List.length_cons] at hn hl hc
    have htl := ht t List.mem_cons_self
    have htr : ∀ u ∈ r, u.length ≤ N := fun u hu => ht u (List.mem_cons_of_mem _ hu)
    have h1 := nextS_short hcm hc t bad
    have h2 := nextS_len t cmds c bad
    by_cases hs : t = [59] ∨ t = [38, 38] ∨ t = [124, 124]
    · rw [readGo_sep t r cmds c bad hs] at h
      exact readGo_short N n r _ _ _ cs (by omega) htr h1 (ShortC.fresh t (by omega)) (by omega) h
    · by_cases hb : t = [38] ∨ t = [124]
      · rw [readGo_bad t r cmds c bad hb] at h
        exact readGo_short N n r _ _ _ cs (by omega) htr hcm (hc.less (by omega)) (by omega) h
      · by_cases hr : t = [60] ∨ t = [62] ∨ t = [62, 62]
        · cases r with
          | nil => rw [readGo_end t cmds c bad hr] at h; cases h
          | cons u r =>
            have hu := ht u (List.mem_cons_of_mem _ List.mem_cons_self)
            have hm := meanW_len u
            have htr2 : ∀ x ∈ r, x.length ≤ N := fun x hx => htr x (List.mem_cons_of_mem _ hx)
            simp only [List.length_cons] at hn hl hc
            cases ho : opB (u.getD 0 0) with
            | true => rw [readGo_op t u r cmds c bad hr ho] at h; cases h
            | false =>
              by_cases h6 : t = [60]
              · subst h6
                rw [readGo_in u r cmds c bad ho] at h
                have hc2 : ShortC N r.length { c with inn := some (meanW u) } := ⟨by have := hc.cnt; show c.words.length + _ ≤ N; omega, hc.words, fun p hp => by simp at hp; subst hp; omega, hc.out⟩
                exact readGo_short N n r _ _ _ cs (by omega) htr2 hcm hc2 (by omega) h
              · have hr2 : t = [62] ∨ t = [62, 62] := by rcases hr with h | h | h; exact absurd h h6; exact .inl h; exact .inr h
                rw [readGo_out t u r cmds c bad hr2 ho] at h
                have hc2 : ShortC N r.length { c with out := some (meanW u), add := t == [62, 62] } := ⟨by have := hc.cnt; show c.words.length + _ ≤ N; omega, hc.words, hc.inn, fun p hp => by simp at hp; subst hp; omega⟩
                exact readGo_short N n r _ _ _ cs (by omega) htr2 hcm hc2 (by omega) h
        · simp only [not_or] at hs hb hr
          rw [readGo_word t r cmds c bad hs.1 hs.2.1 hs.2.2 hb.1 hb.2 hr.1 hr.2.1 hr.2.2] at h
          have hm := meanW_len t
          have hc2 : ShortC N r.length { c with words := c.words ++ [meanW t] } := by
            refine ⟨by have := hc.cnt; show (c.words ++ [meanW t]).length + _ ≤ N; simp only [List.length_append, List.length_cons, List.length_nil]; omega, fun x hx => ?_, hc.inn, hc.out⟩
            rcases List.mem_append.1 hx with hx | hx
            · exact hc.words x hx
            · obtain rfl := List.mem_singleton.1 hx
              omega
          exact readGo_short N n r _ _ _ cs (by omega) htr hcm hc2 (by omega) h
theorem readS_short (l : List UInt8) (cs : List PCmd) (h : readS l = .ok cs) : (∀ d ∈ cs, ShortC l.length 0 d) ∧ cs.length ≤ l.length + 1 := by
  unfold readS at h
  split at h
  · cases h
  · cases ht : toksS l with
    | none => rw [ht] at h; cases h
    | some L =>
      rw [ht] at h
      cases L with
      | nil =>
        simp only at h
        injection h with h
        subst h
        exact ⟨fun d hd => (by cases hd), by simp⟩
      | cons t r =>
        simp only at h
        have h1 := toks_all l.length l (t :: r) (Nat.le_refl _) ht
        have h2 := toks_count l.length l (Nat.le_refl _) (t :: r) ht
        exact readGo_short l.length _ (t :: r) [] (PCmd.fresh []) false cs (Nat.le_refl _) (fun x hx => (h1 x hx).2) (fun d hd => (by cases hd)) (ShortC.fresh [] h2) (by simp only [List.length_nil]; omega) h

/-- with enough fuel a process comes to its end -/
theorem runS_ends (R : RunFn) : ∀ (n : Nat) (st : PStore) (pr : PProc) (f : Int), pr.left.length ≤ n → (pr.left.length : Int) ≤ f → (runS R st pr f).2.2.2 = 0
  | n, st, pr, f, hn, hf => by
    by_cases hl : pr.left = []
    · rw [runS_done hl]
    · have hpos : 0 < pr.left.length := List.length_pos_iff.2 hl
      cases n with
      | zero => omega
      | succ n =>
        rw [runS_step hl (by omega)]
        have := stepF_less (R := R) (st := st) hl
        exact runS_ends R n _ _ _ (by omega) (by omega)
theorem stepF_nil {R : RunFn} {st : PStore} {pr : PProc} (h : pr.left = []) : stepF R st pr = (st, ⟨[], pr.status, pr.said⟩) := by
  unfold stepF leftS
  rw [h]
  rfl
/-- one step more -/
theorem runS_on {R : RunFn} {st : PStore} {pr : PProc} {f : Int} (hf : 1 ≤ f) : runS R st pr f = runS R (stepF R st pr).1 (stepF R st pr).2 (f - 1) := by
  by_cases hl : pr.left = []
  · rw [stepF_nil hl, runS_done hl]
    exact (runS_done (R := R) (st := st) (pr := ⟨[], pr.status, pr.said⟩) rfl).symm
  · exact runS_step hl (by omega)
theorem stepF_len {R : RunFn} {st : PStore} {pr : PProc} : (stepF R st pr).2.left.length ≤ pr.left.length - 1 := by
  by_cases hl : pr.left = []
  · rw [stepF_nil hl]; simp
  · have := stepF_less (R := R) (st := st) hl
    omega
end Go.Proofs.YtmagggflamdahaaGreatDoor

namespace Go.Proofs.YtmagggflamdahaaGreatDoor
open Go.RowKit

set_option maxHeartbeats 1000000 in
set_option maxRecDepth 100000 in
theorem same_any {B B2 : Nat} {v v2 : Value} (L : List (List UInt8)) (hn : L.length ≤ 1048576) (w : World) (h : w.ownsRow B 9 1 v L.length (L.map strV)) (h2 : w.ownsRow B2 9 1 v2 L.length (L.map strV)) :
    Calls Tryz.prog 20 #[v, v2] w fun e w' => e = .returned (.bool true) ∧ Below w.heap.size w w' := by
  have HX : ∀ {B : Nat} {v : Value} (h : w.ownsRow B 9 1 v L.length (L.map strV)), Hid (∀ i x, L[i]? = some x → ∃ g cap, v = .slice (some ⟨g, 0, none⟩) L.length cap ∧ ∀ n, (w.drewN n).cell? ⟨g, i, none⟩ = some (.string ⟨x.toArray⟩)) := fun h => Lib.hid (fun i x hx => by
    have hi : i < L.length := (List.getElem?_eq_some_iff.1 hx).1
    obtain ⟨g, cap, rfl, hg, hgl, hcap⟩ := ownsRow_ne0 h (by omega)
    refine ⟨g, cap, rfl, fun n => ?_⟩
    have := h.cellAt i (by omega)
    rw [List.getElem?_map, hx] at this
    exact this)
  have HX1 := HX h
  have HX2 := HX h2
  obtain ⟨a, c, rfl⟩ := ownsRow_slice h
  obtain ⟨a2, c2, rfl⟩ := ownsRow_slice h2
  have hll : ((L.length : Int) != (L.length : Int)) = false := by simp
  clear HX h h2
  go_enter Tryz.func20, Tryz.ntmps20
  go_wp2
  go_loopw [5] (fun v5 wr => ∃ (i n : Nat), v5 = .int .i64 i ∧ i ≤ L.length ∧ wr = w.drewN n) (fun v5 _ => L.length + 1 - (intOf v5).toNat)
  case atStart => exact ⟨0, 0, rfl, by omega, rfl⟩
  case round =>
    obtain ⟨i, n, rfl, hi, rfl⟩ := hrel
    by_cases hlt : i < L.length
    · obtain ⟨x, hx⟩ : ∃ x, L[i]? = some x := ⟨L[i], List.getElem?_eq_getElem hlt⟩
      obtain ⟨g, cap, he, hc⟩ := HX1.out i x hx
      obtain ⟨g2, cap2, he2, hc2⟩ := HX2.out i x hx
      simp only [Value.slice.injEq] at he he2
      obtain ⟨rfl, -, rfl⟩ := he
      obtain ⟨rfl, -, rfl⟩ := he2
      clear hx
      go_wp2
      go_quiet (fail)
      go_wp2
      go_roundw
      case rel => exact ⟨i + 1, _, by go_num, by omega, rfl⟩
      case measure => simp [intOf]; omega
    · go_wp2
      go_ret
      exact ⟨rfl, belowN _ _⟩
end Go.Proofs.YtmagggflamdahaaGreatDoor
