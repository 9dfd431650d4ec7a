/- vfs.New, Store.Clock. vfs.Store: drop. sh.Proc as a plain datum; ok, Done, Status, Says; truth. sh.New, sh.truth. sh's exit of no words. sh.test. -/
import Derived.Test.YtmagggflamdahaaGreatDoorSg
import Derived.Test.YtmagggflamdahaaGreatDoorSc
namespace Go.Proofs.YtmagggflamdahaaGreatDoor
open Go.RowKit

set_option maxHeartbeats 1000000 in
set_option maxRecDepth 100000 in
theorem clock_store (pb mb : Nat) (st : PStore) (w : World) (h : IsStore pb mb st w) :
    Calls Tryz.prog 22 #[.pointer (some ⟨pb, 0, none⟩)] w fun e w' => e = .returned (.int .i64 st.clock) ∧ w = w' := by
  have HO := Lib.hid (ok_any pb mb st w h)
  have HL := Lib.hid (clockLoad_any pb st.clock w (Lib.cell_of_heap h.cells 2))
  have hw := h.wf.clock
  clear h
  go_enter Tryz.func22, Tryz.ntmps22
  go_wp2_with fail
  go_at_call 39
  refine HO.out.mono ?_
  rintro e w1 ⟨rfl, rfl⟩
  go_wp2_with fail
  go_at_call 41
  refine HL.out.mono ?_
  rintro e w1 ⟨rfl, rfl⟩
  go_wp2
  go_ret
  exact ⟨rfl, rfl⟩

def newS (n : Nat) : PStore := ⟨n, 0, [([47], ⟨[], 0, true⟩)]⟩

set_option maxHeartbeats 2000000 in
set_option maxRecDepth 100000 in
theorem new_store (n : Nat) (hn : n ≤ 1048576) (w : World) :
    Calls Tryz.prog 28 #[.int .i64 n] w fun e w' => ∃ pb mb, e = .returned (.tuple #[.pointer (some ⟨pb, 0, none⟩), .int .i64 0]) ∧ IsStore pb mb (newS n) w' ∧ Below w.heap.size w w' ∧ w.heap.size ≤ pb ∧ w.heap.size ≤ mb := by
  have h1 : ¬ (n : Int) < 0 := by omega
  have h2 : ¬ (1048576 : Int) < (n : Int) := by omega
  have hmm := @run_makeMap Tryz.prog
  have hm0 : MapAt w.heap.size [] (w.alloc (.map #[] 0)) := ⟨#[], 0, heap_alloc_new w _, rfl, by simp [Stamps]⟩
  obtain ⟨o, hup, hma⟩ := update_run hm0 [47] ⟨[], 0, true⟩
  replace hup : (Instr.mapUpdate 97 (.map (some w.heap.size)) (.string ⟨#[47]⟩) (.agg #[.string ⟨#[]⟩, .int .i64 0, .bool true])).run Tryz.prog (w.alloc (.map #[] 0)) = .ok () { (w.alloc (.map #[] 0)) with heap := (w.alloc (.map #[] 0)).heap.setIfInBounds w.heap.size o } := hup
  obtain ⟨w2, hw2⟩ : ∃ w2, w2 = { (w.alloc (.map #[] 0)) with heap := (w.alloc (.map #[] 0)).heap.setIfInBounds w.heap.size o } := ⟨_, rfl⟩
  rw [← hw2] at hup hma
  have hs2 : w2.heap.size = w.heap.size + 1 := by rw [hw2]; simp
  have hB2 : Below w.heap.size w w2 := by
    rw [hw2]
    refine ((Below.refl _ w).alloc (Nat.le_refl _) (.map #[] 0)).trans ⟨rfl, rfl, rfl, by simp, fun k hk => ?_⟩
    exact Array.getElem?_setIfInBounds_ne (by omega)
  have HF : Hid (IsStore (w.heap.size + 1) w.heap.size (newS n) (w2.alloc (.cells #[.int .i64 n, .int .i64 0, .int .i64 0, .map (some w.heap.size), .bool false, .slice none 0 0] 99)) ∧ Below w.heap.size w (w2.alloc (.cells #[.int .i64 n, .int .i64 0, .int .i64 0, .map (some w.heap.size), .bool false, .slice none 0 0] 99))) := Lib.hid (by
    refine ⟨⟨⟨hn, Nat.zero_le _, (by show IntKind.i64.wrap 0 = 0; decide), ?_, (by simp [newS]), (fun x hx => by simp [newS] at hx; subst hx; simp)⟩, ?_, ?_⟩, hB2.alloc (by omega) _⟩
    · intro x hx
      simp [newS] at hx
      subst hx
      decide
    · rw [← hs2]
      exact heap_alloc_new w2 _
    · obtain ⟨es, mc, q1, q2⟩ := hma
      exact ⟨es, mc, (Below.heap_alloc w2 _ _ (by omega)).trans q1, q2⟩)
  clear hm0 hma hw2 hB2
  go_enter Tryz.func28, Tryz.ntmps28
  go_wp2
  go_ret2
  exact ⟨w.heap.size + 1, rfl, w.heap.size, HF.out.1, HF.out.2, by omega, Nat.le_refl _⟩
end Go.Proofs.YtmagggflamdahaaGreatDoor

namespace Go.Proofs.YtmagggflamdahaaGreatDoor
open Go.RowKit

def PStore.drop (st : PStore) (p : List UInt8) : PStore := { st with files := delF p st.files }
theorem sumT_del (p : List UInt8) : ∀ fs, sumT (delF p fs) + oldT p fs = sumT fs
  | [] => by simp [sumT, delF, oldT, findF, noFile]
  | (q, g) :: r => by
    have ih := sumT_del p r
    cases hpq : (p == q) with
    | true => simp [sumT, delF, oldT, findF, hpq]; omega
    | false =>
      simp only [sumT, oldT] at ih
      simp [sumT, delF, oldT, findF, hpq]
      omega
theorem delF_mem (p : List UInt8) : ∀ fs x, x ∈ delF p fs → x ∈ fs
  | [], x, h => h
  | (q, g) :: r, x, h => by
    cases hpq : (p == q) with
    | true =>
      simp only [delF, hpq, if_true] at h
      exact List.mem_cons_of_mem _ h
    | false =>
      simp only [delF, hpq] at h
      rcases List.mem_cons.1 h with h | h
      · rw [h]; simp
      · exact List.mem_cons_of_mem _ (delF_mem p r x h)
theorem delF_len (p : List UInt8) : ∀ fs : List (List UInt8 × PFile), (delF p fs).length ≤ fs.length
  | [] => Nat.le_refl _
  | (q, g) :: r => by
    have ih := delF_len p r
    cases hpq : (p == q) with
    | true => simp [delF, hpq]
    | false => simpa [delF, hpq] using ih
theorem WfS.drop {st : PStore} (h : WfS st) (p : List UInt8) : WfS (st.drop p) := by
  have h1 : sumT (st.drop p).files + oldT p st.files = sumT st.files := sumT_del p st.files
  have h2 : (st.drop p).used = sumT (st.drop p).files := rfl
  have h3 : st.used = sumT st.files := rfl
  have h4 : (st.drop p).room = st.room := rfl
  have h5 := h.used
  exact ⟨h.room, by omega, h.clock, fun x hx => h.times x (delF_mem p _ x hx), Nat.le_trans (delF_len p st.files) h.cnt, fun x hx => h.keys x (delF_mem p _ x hx)⟩

set_option maxHeartbeats 2000000 in
set_option maxRecDepth 100000 in
theorem drop_any (pb mb : Nat) (st : PStore) (p : List UInt8) (w : World) (h : IsStore pb mb st w) :
    Calls Tryz.prog 136 #[.pointer (some ⟨pb, 0, none⟩), .string ⟨p.toArray⟩] w fun e w' => e = .returned (.tuple #[]) ∧ IsStore pb mb (st.drop p) w' ∧ Keeps w.heap.size (fun k => k = pb ∨ k = mb) w w' := by
  obtain ⟨es, mc, hm, hes⟩ := h.map
  have hne : mb ≠ pb := by rintro rfl; rw [h.cells] at hm; cases hm
  rcases hg : (findF p st.files).getD noFile with ⟨gt, gm, gd⟩
  have hgl : oldT p st.files = gt.length := by unfold oldT; rw [hg]
  have hgu : oldT p st.files ≤ st.used := oldT_le p st.files
  rw [hgl] at hgu
  have hused := h.used_le
  have hlk : (Instr.lookup 97 (.map (some mb)) (.string ⟨p.toArray⟩) false).run Tryz.prog w.drew = .ok (.agg #[.string ⟨gt.toArray⟩, .int .i64 gm, .bool gd]) w.drew := by
    have := lookup_run false (w := w.drew) ⟨es, mc, hm, hes⟩ p
    rw [hg] at this
    exact this
  have hfl : ∀ W : World, (Instr.field 84 (.agg #[.string ⟨gt.toArray⟩, .int .i64 gm, .bool gd]) 0).run Tryz.prog W = .ok (.string ⟨gt.toArray⟩) W := fun W => by kernel_rfl
  have hwr : IntKind.i64.wrap ((st.used : Int) - (gt.length : Int)) = ((st.used - gt.length : Nat) : Int) := by rw [IntKind.wrap_i64]; omega
  have hnu : Hid (st.used - gt.length = (st.drop p).used) := Lib.hid (by
    have h1 : sumT (st.drop p).files + oldT p st.files = sumT st.files := sumT_del p st.files
    have h2 : (st.drop p).used = sumT (st.drop p).files := rfl
    have h3 : st.used = sumT st.files := rfl
    rw [hgl] at h1
    omega)
  generalize st.used - gt.length = nu at hwr hnu
  have c1 : w.cell? ⟨pb, 1, none⟩ = some (.int .i64 st.used) := Lib.cell_of_heap h.cells 1
  have c3 : w.cell? ⟨pb, 3, none⟩ = some (.map (some mb)) := Lib.cell_of_heap h.cells 3
  have f1 : w.frozen? ⟨pb, 1, none⟩ = false := Lib.frozen_of_heap h.cells 1
  have H := Lib.hid h
  have HM := Lib.hid hm
  clear h hm hgu hused hg hgl
  go_enter Tryz.func136, Tryz.ntmps136
  go_wp2
  go_still_tail 15, (by kernel_rfl)
  change wpList _ _ _ _ _ w.drew
  have hcel3 : (w.setCell ⟨pb, 1, none⟩ (.int .i64 nu)).drew.heap[pb]? = some (.cells #[.int .i64 st.room, .int .i64 nu, .int .i64 st.clock, .map (some mb), .bool false, .slice none 0 0] 99 (0, 0)) := heap_set H.out.cells 1 _
  have hmap3 : (w.setCell ⟨pb, 1, none⟩ (.int .i64 nu)).drew.heap[mb]? = some (.map es mc) := (Below.heap_setCell w ⟨pb, 1, none⟩ _ _ (by show mb ≠ pb; exact hne)).trans HM.out
  have hK3 : Keeps w.heap.size (fun k => k = pb ∨ k = mb) w (w.setCell ⟨pb, 1, none⟩ (.int .i64 nu)).drew := ((Keeps.refl _ _ w).setCell (p := ⟨pb, 1, none⟩) (.inr (.inl rfl)) _).drew
  obtain ⟨w3, hw3⟩ : ∃ w3, w3 = (w.setCell ⟨pb, 1, none⟩ (.int .i64 nu)).drew := ⟨_, rfl⟩
  rw [← hw3] at hcel3 hmap3 hK3
  obtain ⟨o, hup, hma⟩ := delete_run ⟨es, mc, hmap3, hes⟩ p 0
  obtain ⟨w4, hw4⟩ : ∃ w4, w4 = { w3 with heap := w3.heap.setIfInBounds mb o } := ⟨_, rfl⟩
  rw [← hw4] at hup hma
  have HF : Hid (IsStore pb mb (st.drop p) w4 ∧ Keeps w.heap.size (fun k => k = pb ∨ k = mb) w w4) := Lib.hid (by
    have hother : ∀ k, k ≠ mb → w4.heap[k]? = w3.heap[k]? := fun k hk => by
      rw [hw4]
      exact Array.getElem?_setIfInBounds_ne (Ne.symm hk)
    refine ⟨⟨H.out.wf.drop p, ?_, hma⟩, hK3.trans ⟨by rw [hw4], by rw [hw4], by rw [hw4], by rw [hw4]; simp, fun k _ hk => hother k (fun e => hk (.inr e))⟩⟩
    rw [hother _ (Ne.symm hne), hcel3, ← hnu.out]
    rfl)
  have z3 : w3.cell? ⟨pb, 3, none⟩ = some (.map (some mb)) := Lib.cell_of_heap hcel3 3
  clear hcel3 hmap3 hK3 hma hw4 hlk hwr hfl hnu hes
  rw [hw3] at hup z3
  go_wp2
  go_end0
  exact ⟨rfl, HF.out⟩
end Go.Proofs.YtmagggflamdahaaGreatDoor

namespace Go.Proofs.YtmagggflamdahaaGreatDoor
open Go.RowKit

/-- a process: what is left, its status, what it has said -/
structure PProc where
  left : List PCmd
  status : Int
  said : List UInt8
/-- the process lies at block pb; its commands in K; its text's row is v's -/
structure IsProc (K : Nat → Prop) (pb : Nat) (v : Value) (pr : PProc) (w : World) : Prop where
  cells : ∃ lv p, BHas 47 pb 3 #[.bool true, lv, .int .i64 pr.status, p, v] v pr.said w ∧ CmdsAt K w lv pr.left
  apart : ∀ k, K k → k ≠ pb ∧ v.ownBlock ≠ some k
theorem BLies.proc : BLies 47 5 3 := ⟨by kernel_rfl, by decide, by decide⟩
theorem IsProc.keep {K : Nat → Prop} {pb : Nat} {v : Value} {pr : PProc} {w w' : World} (h : IsProc K pb v pr w) (hk : ∀ k, k = pb ∨ v.ownBlock = some k ∨ K k → k < w.heap.size → w'.heap[k]? = w.heap[k]?) : IsProc K pb v pr w' := by
  obtain ⟨lv, p, h1, h2⟩ := h.cells
  refine ⟨⟨lv, p, h1.keep (fun k hkk => ?_), h2.keep (fun k hK hl => hk k (.inr (.inr hK)) hl)⟩, h.apart⟩
  rcases hkk with rfl | e
  · exact hk _ (.inl rfl) h1.lt
  · exact hk k (.inr (.inl e)) (h1.own.lt k e).2
theorem IsProc.below {K : Nat → Prop} {pb : Nat} {v : Value} {pr : PProc} {w w' : World} (h : IsProc K pb v pr w) (hb : Below w.heap.size w w') : IsProc K pb v pr w' := h.keep (fun k _ hl => hb.block k hl)

set_option maxHeartbeats 1000000 in
set_option maxRecDepth 100000 in
theorem procOk_any {K : Nat → Prop} {pb : Nat} {v : Value} {pr : PProc} (w : World) (h : IsProc K pb v pr w) :
    Calls Tryz.prog 36 #[.pointer (some ⟨pb, 0, none⟩)] w fun e w' => e = .returned (.bool true) ∧ w = w' := by
  obtain ⟨lv, p, h1, h2⟩ := h.cells
  have c0 : w.cell? ⟨pb, 0, none⟩ = some (.bool true) := Lib.cell_of_heap h1.heap 0
  clear h h1 h2
  go_enter Tryz.func36, Tryz.ntmps36
  go_wp2
  go_ret
  exact ⟨rfl, rfl⟩

set_option maxHeartbeats 1000000 in
set_option maxRecDepth 100000 in
theorem done_any {K : Nat → Prop} {pb : Nat} {v : Value} {pr : PProc} (w : World) (h : IsProc K pb v pr w) :
    Calls Tryz.prog 15 #[.pointer (some ⟨pb, 0, none⟩)] w fun e w' => e = .returned (.bool pr.left.isEmpty) ∧ w = w' := by
  have HO := Lib.hid (procOk_any w h)
  obtain ⟨lv, p, h1, xs, h2, h3⟩ := h.cells
  obtain ⟨a, c, rfl⟩ := h2.isSlice
  have c1 : w.cell? ⟨pb, 1, none⟩ = some (.slice a pr.left.length c) := Lib.cell_of_heap h1.heap 1
  have hE : Hid (pr.left.isEmpty = decide (pr.left.length = 0)) := Lib.hid (by cases pr.left <;> simp)
  generalize pr.left.length = n at c1 hE
  clear h h1 h2 h3
  by_cases hn : n = 0
  · subst hn
    go_enter Tryz.func15, Tryz.ntmps15
    go_wp2_with fail
    go_at_call 36
    refine HO.out.mono ?_
    rintro e w1 ⟨rfl, rfl⟩
    go_wp2
    go_ret
    exact ⟨by rw [hE.out]; rfl, rfl⟩
  · have hb : ((n : Int) == 0) = false := beq_eq_false_iff_ne.2 (by omega)
    have hE2 : Hid (pr.left.isEmpty = false) := Lib.hid (by rw [hE.out]; simp [hn])
    go_enter Tryz.func15, Tryz.ntmps15
    go_wp2_with fail
    go_at_call 36
    refine HO.out.mono ?_
    rintro e w1 ⟨rfl, rfl⟩
    go_wp2
    go_ret
    exact ⟨by rw [hE2.out]; rfl, rfl⟩

set_option maxHeartbeats 1000000 in
set_option maxRecDepth 100000 in
theorem status_any {K : Nat → Prop} {pb : Nat} {v : Value} {pr : PProc} (w : World) (h : IsProc K pb v pr w) :
    Calls Tryz.prog 16 #[.pointer (some ⟨pb, 0, none⟩)] w fun e w' => e = .returned (.int .i64 pr.status) ∧ w = w' := by
  have HO := Lib.hid (procOk_any w h)
  obtain ⟨lv, p, h1, h2⟩ := h.cells
  have c2 : w.cell? ⟨pb, 2, none⟩ = some (.int .i64 pr.status) := Lib.cell_of_heap h1.heap 2
  clear h h1 h2
  go_enter Tryz.func16, Tryz.ntmps16
  go_wp2_with fail
  go_at_call 36
  refine HO.out.mono ?_
  rintro e w1 ⟨rfl, rfl⟩
  go_wp2
  go_ret
  exact ⟨rfl, rfl⟩

set_option maxHeartbeats 1000000 in
set_option maxRecDepth 100000 in
theorem says_any {K : Nat → Prop} {pb : Nat} {v : Value} {pr : PProc} (w : World) (h : IsProc K pb v pr w) :
    Calls Tryz.prog 17 #[.pointer (some ⟨pb, 0, none⟩)] w fun e w' => e = .returned (.string ⟨pr.said.toArray⟩) ∧ IsProc K pb v pr w' ∧ Keeps w.heap.size (fun k => v.ownBlock = some k) w w' := by
  have HO := Lib.hid (procOk_any w h)
  have hap := h.apart
  obtain ⟨lv, p, h1, h2⟩ := h.cells
  have HS := Lib.hid (bldString_any w (by decide) h1)
  have H2 := Lib.hid h2
  have HA := Lib.hid hap
  clear h h1 h2 hap
  go_enter Tryz.func17, Tryz.ntmps17
  go_wp2_with fail
  go_at_call 36
  refine HO.out.mono ?_
  rintro e w1 ⟨rfl, rfl⟩
  go_wp2_with fail
  go_at_call 38
  refine HS.out.mono ?_
  rintro e w2 ⟨rfl, hb, hk⟩
  have HF : Hid (IsProc K pb v pr w2 ∧ Keeps w.heap.size (fun k => v.ownBlock = some k) w w2) := Lib.hid ⟨⟨⟨lv, p, hb, H2.out.keep (fun k hK hl => hk.block k hl (HA.out k hK).2)⟩, HA.out⟩, hk⟩
  clear hb hk
  go_wp2
  go_ret
  exact ⟨rfl, HF.out⟩
end Go.Proofs.YtmagggflamdahaaGreatDoor

namespace Go.Proofs.YtmagggflamdahaaGreatDoor
open Go.RowKit

def truthS (b : Bool) : Int := if b then 0 else 1
set_option maxHeartbeats 1000000 in
set_option maxRecDepth 100000 in
theorem truth_any (b : Bool) (w : World) : Calls Tryz.prog 112 #[.bool b] w fun e w' => e = .returned (.int .i64 (truthS b)) ∧ w = w' := by
  cases b with
  | true =>
    go_enter Tryz.func112, Tryz.ntmps112
    go_wp2
    go_ret
    exact ⟨rfl, rfl⟩
  | false =>
    go_enter Tryz.func112, Tryz.ntmps112
    go_wp2
    go_ret
    exact ⟨rfl, rfl⟩

/-- what New hands back -/
def NewQ (B : Nat) (r : Except Nat (List PCmd)) (e : Ending) (w : World) : Prop := match r with
  | .error n => e = .returned (.tuple #[.pointer none, .int .i64 n]) ∧ n ≠ 0
  | .ok cs => ∃ pb K, e = .returned (.tuple #[.pointer (some ⟨pb, 0, none⟩), .int .i64 0]) ∧ B ≤ pb ∧ (∀ k, K k → B ≤ k ∧ k < w.heap.size) ∧ IsProc K pb (.slice none 0 0) ⟨cs, 0, []⟩ w

set_option maxHeartbeats 2000000 in
set_option maxRecDepth 100000 in
theorem new_any (s : ByteArray) (hs : s.size ≤ 140737488351232) (w : World) :
    Calls Tryz.prog 19 #[.string s] w fun e w' => NewQ w.heap.size (readS s.data.toList) e w' ∧ Below w.heap.size w w' := by
  have HR := read_any s hs w
  unfold ReadQ ReadR at HR
  cases hr : readS s.data.toList with
  | error n =>
    rw [hr] at HR
    replace HR := Lib.hid HR
    clear hr
    go_enter Tryz.func19, Tryz.ntmps19
    go_wp2_with fail
    go_at_call 23
    refine HR.out.mono ?_
    rintro e w1 ⟨v, k, rfl, ⟨rfl, rfl, hn⟩, hb⟩
    have HN := Lib.hid hn
    have HB := Lib.hid hb
    have hnb : ((n : Int) == 0) = false := beq_eq_false_iff_ne.2 (by omega)
    clear hn hb
    go_wp2
    go_ret2
    exact ⟨⟨rfl, HN.out⟩, HB.out⟩
  | ok cs =>
    rw [hr] at HR
    replace HR := Lib.hid HR
    clear hr
    go_enter Tryz.func19, Tryz.ntmps19
    go_wp2_with fail
    go_at_call 23
    refine HR.out.mono ?_
    rintro e w1 ⟨v, k, rfl, ⟨rfl, hc⟩, hb⟩
    have HF : Hid (NewQ w.heap.size (.ok cs) (.returned (.tuple #[.pointer (some ⟨w1.heap.size, 0, none⟩), .int .i64 0])) (w1.alloc (.cells #[.bool true, v, .int .i64 0, .pointer none, .slice none 0 0] 47)) ∧ Below w.heap.size w (w1.alloc (.cells #[.bool true, v, .int .i64 0, .pointer none, .slice none 0 0] 47))) := Lib.hid (by
      refine ⟨⟨w1.heap.size, fun k => w.heap.size ≤ k ∧ k < w1.heap.size, rfl, hb.size, fun k h => ⟨h.1, by simp; omega⟩, ⟨⟨v, .pointer none, ⟨heap_alloc_new w1 _, .inl rfl, rfl, World.ownsRowF_nil _ _ _ _⟩, ?_⟩, fun k h => ⟨by omega, by simp [Value.ownBlock]⟩⟩⟩, hb.alloc hb.size _⟩
      exact (hc.mono (K' := fun k => w.heap.size ≤ k ∧ k < w1.heap.size) (fun k h hl => ⟨h, hl⟩)).keep (fun k _ hl => Below.heap_alloc w1 _ k hl))
    obtain ⟨xs, h1, h2⟩ := hc
    obtain ⟨a, c, rfl⟩ := h1.isSlice
    clear h1 h2 hb
    go_wp2
    go_ret2
    exact HF.out
end Go.Proofs.YtmagggflamdahaaGreatDoor

namespace Go.Proofs.YtmagggflamdahaaGreatDoor
open Go.RowKit

set_option maxHeartbeats 1000000 in
set_option maxRecDepth 100000 in
theorem exit_none {K : Nat → Prop} {pb : Nat} {v : Value} {pr : PProc} (a : Option Addr) (c : Nat) (w : World) (h : IsProc K pb v pr w) :
    Calls Tryz.prog 81 #[.pointer (some ⟨pb, 0, none⟩), .slice a 0 c] w fun e w' => e = .returned (.tuple #[.int .i64 pr.status, .bool true]) ∧ w = w' := by
  obtain ⟨lv, p, h1, h2⟩ := h.cells
  have c2 : w.cell? ⟨pb, 2, none⟩ = some (.int .i64 pr.status) := Lib.cell_of_heap h1.heap 2
  clear h h1 h2
  go_enter Tryz.func81, Tryz.ntmps81
  go_wp2
  go_ret2
  exact ⟨rfl, rfl⟩
end Go.Proofs.YtmagggflamdahaaGreatDoor

namespace Go.Proofs.YtmagggflamdahaaGreatDoor
open Go.RowKit

def testF (st : PStore) : List (List UInt8) → Int
  | [x, o, y] => if o == [61] then truthS (x == y) else if o == [33, 61] then truthS (!(x == y)) else 2
  | [o, x] =>
    if o == [45, 101] then truthS ((statF st x).2.2 == 0)
    else if o == [45, 102] then truthS ((statF st x).2.2 == 0 && !(statF st x).2.1)
    else if o == [45, 100] then truthS ((statF st x).2.2 == 0 && (statF st x).2.1)
    else if o == [45, 110] then truthS (!x.isEmpty)
    else if o == [45, 122] then truthS x.isEmpty
    else 2
  | _ => 2

set_option maxHeartbeats 2000000 in
set_option maxRecDepth 100000 in
theorem test3_any (pb : Nat) (st : PStore) {K : Nat → Prop} {v : Value} (x o y : List UInt8) (w : World) (hl : StrsAt K w v [x, o, y]) :
    Calls Tryz.prog 80 #[v, .pointer (some ⟨pb, 0, none⟩)] w fun e w' => e = .returned (.int .i64 (testF st [x, o, y])) ∧ Below w.heap.size w w' := by
  obtain ⟨g, off, cap, rfl, hc, hK, hg, hx, _⟩ := SlAt.ne0 hl (by simp)
  have e0 : w.cell? ⟨g, off, none⟩ = some (.string ⟨x.toArray⟩) := hx 0 _ rfl
  have e1 : w.cell? ⟨g, off + 1, none⟩ = some (.string ⟨o.toArray⟩) := hx 1 _ rfl
  have e2 : w.cell? ⟨g, off + 2, none⟩ = some (.string ⟨y.toArray⟩) := hx 2 _ rfl
  have hT : Hid (testF st [x, o, y] = if o == [61] then truthS (x == y) else if o == [33, 61] then truthS (!(x == y)) else 2) := Lib.hid rfl
  have HTr := Lib.hid truth_any
  clear hl hx
  simp only [List.length_cons, List.length_nil] at hc ⊢
  cases h1 : (o == [61]) with
  | true =>
    rw [if_pos h1] at hT
    go_enter Tryz.func80, Tryz.ntmps80
    go_wp2
    go_quiet (exact Calls.quiet_of_same ((HTr.out _ _).mono fun _ _ ⟨h, k⟩ => ⟨h, k.symm⟩))
    go_wp2
    go_ret
    exact ⟨by rw [hT.out]; rfl, belowN _ _⟩
  | false =>
    rw [if_neg (by rw [h1]; simp)] at hT
    cases h2 : (o == [33, 61]) with
    | true =>
      rw [if_pos h2] at hT
      go_enter Tryz.func80, Tryz.ntmps80
      go_wp2
      go_quiet (exact Calls.quiet_of_same ((HTr.out _ _).mono fun _ _ ⟨h, k⟩ => ⟨h, k.symm⟩))
      go_wp2
      go_ret
      exact ⟨by rw [hT.out]; rfl, belowN _ _⟩
    | false =>
      rw [if_neg (by rw [h2]; simp)] at hT
      go_enter Tryz.func80, Tryz.ntmps80
      go_wp2
      go_ret
      exact ⟨by rw [hT.out]; rfl, Below.refl _ _⟩

set_option maxHeartbeats 4000000 in
set_option maxRecDepth 100000 in
theorem test2_any (pb mb : Nat) (st : PStore) {K : Nat → Prop} {v : Value} (o x : List UInt8) (hxl : x.length ≤ 262144) (w : World) (hl : StrsAt K w v [o, x]) (h : IsStore pb mb st w) :
    Calls Tryz.prog 80 #[v, .pointer (some ⟨pb, 0, none⟩)] w fun e w' => e = .returned (.int .i64 (testF st [o, x])) ∧ Below w.heap.size w w' := by
  obtain ⟨g, off, cap, rfl, hc, hK, hg, hx, _⟩ := SlAt.ne0 hl (by simp)
  have e0 : w.cell? ⟨g, off, none⟩ = some (.string ⟨o.toArray⟩) := hx 0 _ rfl
  have e1 : w.cell? ⟨g, off + 1, none⟩ = some (.string ⟨x.toArray⟩) := hx 1 _ rfl
  have HS : Hid (Calls Tryz.prog 119 #[.pointer (some ⟨pb, 0, none⟩), .string ⟨x.toArray⟩] w fun e w' => e = .returned (.tuple #[.int .i64 (statF st x).1, .bool (statF st x).2.1, .int .i64 (statF st x).2.2]) ∧ Below w.heap.size w w') := Lib.hid (stat_store pb mb st ⟨x.toArray⟩ (by show x.toArray.size ≤ _; simpa using hxl) w h)
  have hT : Hid (testF st [o, x] = if o == [45, 101] then truthS ((statF st x).2.2 == 0) else if o == [45, 102] then truthS ((statF st x).2.2 == 0 && !(statF st x).2.1) else if o == [45, 100] then truthS ((statF st x).2.2 == 0 && (statF st x).2.1) else if o == [45, 110] then truthS (!x.isEmpty) else if o == [45, 122] then truthS x.isEmpty else 2) := Lib.hid rfl
  have HTr := Lib.hid truth_any
  generalize testF st [o, x] = r at hT ⊢
  generalize statF st x = q at HS hT
  obtain ⟨fm, fd, fe⟩ := q
  simp only at HS hT
  clear hl hx h
  simp only [List.length_cons, List.length_nil] at hc ⊢
  cases h0 : (o == [45, 101]) with
  | true =>
    rw [if_pos h0] at hT
    go_enter Tryz.func80, Tryz.ntmps80
    go_wp2_with fail
    go_at_call 119
    refine HS.out.mono ?_
    rintro e w1 ⟨rfl, hb1⟩
    have a0 : w1.cell? ⟨g, off, none⟩ = some (.string ⟨o.toArray⟩) := (hb1.cell (p := ⟨g, off, none⟩) hg).trans e0
    have a1 : w1.cell? ⟨g, off + 1, none⟩ = some (.string ⟨x.toArray⟩) := (hb1.cell (p := ⟨g, off + 1, none⟩) hg).trans e1
    have HB1 := Lib.hid hb1
    clear hb1 e0 e1
    go_wp2_with fail
    go_at_call 112
    refine (HTr.out _ _).mono ?_
    rintro e w2 ⟨rfl, rfl⟩
    go_wp2
    go_ret
    exact ⟨by rw [hT.out]; rfl, HB1.out⟩
  | false =>
    rw [if_neg (by rw [h0]; simp)] at hT
    cases h1 : (o == [45, 102]) with
    | true =>
      rw [if_pos h1] at hT
      cases hb0 : (fe == 0) with
      | true =>
        rw [hb0] at hT
        cases fd with
        | true =>
          go_enter Tryz.func80, Tryz.ntmps80
          go_wp2_with fail
          go_at_call 119
          refine HS.out.mono ?_
          rintro e w1 ⟨rfl, hb1⟩
          have a0 : w1.cell? ⟨g, off, none⟩ = some (.string ⟨o.toArray⟩) := (hb1.cell (p := ⟨g, off, none⟩) hg).trans e0
          have a1 : w1.cell? ⟨g, off + 1, none⟩ = some (.string ⟨x.toArray⟩) := (hb1.cell (p := ⟨g, off + 1, none⟩) hg).trans e1
          have HB1 := Lib.hid hb1
          clear hb1 e0 e1
          go_wp2_with fail
          go_at_call 112
          refine (HTr.out _ _).mono ?_
          rintro e w2 ⟨rfl, rfl⟩
          go_wp2
          go_ret
          exact ⟨by rw [hT.out]; rfl, HB1.out⟩
        | false =>
          go_enter Tryz.func80, Tryz.ntmps80
          go_wp2_with fail
          go_at_call 119
          refine HS.out.mono ?_
          rintro e w1 ⟨rfl, hb1⟩
          have a0 : w1.cell? ⟨g, off, none⟩ = some (.string ⟨o.toArray⟩) := (hb1.cell (p := ⟨g, off, none⟩) hg).trans e0
          have a1 : w1.cell? ⟨g, off + 1, none⟩ = some (.string ⟨x.toArray⟩) := (hb1.cell (p := ⟨g, off + 1, none⟩) hg).trans e1
          have HB1 := Lib.hid hb1
          clear hb1 e0 e1
          go_wp2_with fail
          go_at_call 112
          refine (HTr.out _ _).mono ?_
          rintro e w2 ⟨rfl, rfl⟩
          go_wp2
          go_ret
          exact ⟨by rw [hT.out]; rfl, HB1.out⟩
      | false =>
        rw [hb0] at hT
        go_enter Tryz.func80, Tryz.ntmps80
        go_wp2_with fail
        go_at_call 119
        refine HS.out.mono ?_
        rintro e w1 ⟨rfl, hb1⟩
        have a0 : w1.cell? ⟨g, off, none⟩ = some (.string ⟨o.toArray⟩) := (hb1.cell (p := ⟨g, off, none⟩) hg).trans e0
        have a1 : w1.cell? ⟨g, off + 1, none⟩ = some (.string ⟨x.toArray⟩) := (hb1.cell (p := ⟨g, off + 1, none⟩) hg).trans e1
        have HB1 := Lib.hid hb1
        clear hb1 e0 e1
        go_wp2_with fail
        go_at_call 112
        refine (HTr.out _ _).mono ?_
        rintro e w2 ⟨rfl, rfl⟩
        go_wp2
        go_ret
        exact ⟨by rw [hT.out]; rfl, HB1.out⟩
    | false =>
      rw [if_neg (by rw [h1]; simp)] at hT
      cases h2 : (o == [45, 100]) with
      | true =>
        rw [if_pos h2] at hT
        cases hb0 : (fe == 0) with
        | true =>
          rw [hb0] at hT
          cases fd with
          | true =>
            go_enter Tryz.func80, Tryz.ntmps80
            go_wp2_with fail
            go_at_call 119
            refine HS.out.mono ?_
            rintro e w1 ⟨rfl, hb1⟩
            have a0 : w1.cell? ⟨g, off, none⟩ = some (.string ⟨o.toArray⟩) := (hb1.cell (p := ⟨g, off, none⟩) hg).trans e0
            have a1 : w1.cell? ⟨g, off + 1, none⟩ = some (.string ⟨x.toArray⟩) := (hb1.cell (p := ⟨g, off + 1, none⟩) hg).trans e1
            have HB1 := Lib.hid hb1
            clear hb1 e0 e1
            go_wp2_with fail
            go_at_call 112
            refine (HTr.out _ _).mono ?_
            rintro e w2 ⟨rfl, rfl⟩
            go_wp2
            go_ret
            exact ⟨by rw [hT.out]; rfl, HB1.out⟩
          | false =>
            go_enter Tryz.func80, Tryz.ntmps80
            go_wp2_with fail
            go_at_call 119
            refine HS.out.mono ?_
            rintro e w1 ⟨rfl, hb1⟩
            have a0 : w1.cell? ⟨g, off, none⟩ = some (.string ⟨o.toArray⟩) := (hb1.cell (p := ⟨g, off, none⟩) hg).trans e0
            have a1 : w1.cell? ⟨g, off + 1, none⟩ = some (.string ⟨x.toArray⟩) := (hb1.cell (p := ⟨g, off + 1, none⟩) hg).trans e1
            have HB1 := Lib.hid hb1
            clear hb1 e0 e1
            go_wp2_with fail
            go_at_call 112
            refine (HTr.out _ _).mono ?_
            rintro e w2 ⟨rfl, rfl⟩
            go_wp2
            go_ret
            exact ⟨by rw [hT.out]; rfl, HB1.out⟩
        | false =>
          rw [hb0] at hT
          go_enter Tryz.func80, Tryz.ntmps80
          go_wp2_with fail
          go_at_call 119
          refine HS.out.mono ?_
          rintro e w1 ⟨rfl, hb1⟩
          have a0 : w1.cell? ⟨g, off, none⟩ = some (.string ⟨o.toArray⟩) := (hb1.cell (p := ⟨g, off, none⟩) hg).trans e0
          have a1 : w1.cell? ⟨g, off + 1, none⟩ = some (.string ⟨x.toArray⟩) := (hb1.cell (p := ⟨g, off + 1, none⟩) hg).trans e1
          have HB1 := Lib.hid hb1
          clear hb1 e0 e1
          go_wp2_with fail
          go_at_call 112
          refine (HTr.out _ _).mono ?_
          rintro e w2 ⟨rfl, rfl⟩
          go_wp2
          go_ret
          exact ⟨by rw [hT.out]; rfl, HB1.out⟩
      | false =>
        rw [if_neg (by rw [h2]; simp)] at hT
        cases h3 : (o == [45, 110]) with
        | true =>
          rw [if_pos h3] at hT
          go_enter Tryz.func80, Tryz.ntmps80
          go_wp2_with fail
          go_at_call 119
          refine HS.out.mono ?_
          rintro e w1 ⟨rfl, hb1⟩
          have a0 : w1.cell? ⟨g, off, none⟩ = some (.string ⟨o.toArray⟩) := (hb1.cell (p := ⟨g, off, none⟩) hg).trans e0
          have a1 : w1.cell? ⟨g, off + 1, none⟩ = some (.string ⟨x.toArray⟩) := (hb1.cell (p := ⟨g, off + 1, none⟩) hg).trans e1
          have HB1 := Lib.hid hb1
          clear hb1 e0 e1
          go_wp2_with fail
          go_at_call 112
          refine (HTr.out _ _).mono ?_
          rintro e w2 ⟨rfl, rfl⟩
          go_wp2
          go_ret
          exact ⟨by rw [hT.out]; rfl, HB1.out⟩
        | false =>
          rw [if_neg (by rw [h3]; simp)] at hT
          cases h4 : (o == [45, 122]) with
          | true =>
            rw [if_pos h4] at hT
            go_enter Tryz.func80, Tryz.ntmps80
            go_wp2_with fail
            go_at_call 119
            refine HS.out.mono ?_
            rintro e w1 ⟨rfl, hb1⟩
            have a0 : w1.cell? ⟨g, off, none⟩ = some (.string ⟨o.toArray⟩) := (hb1.cell (p := ⟨g, off, none⟩) hg).trans e0
            have a1 : w1.cell? ⟨g, off + 1, none⟩ = some (.string ⟨x.toArray⟩) := (hb1.cell (p := ⟨g, off + 1, none⟩) hg).trans e1
            have HB1 := Lib.hid hb1
            clear hb1 e0 e1
            go_wp2_with fail
            go_at_call 112
            refine (HTr.out _ _).mono ?_
            rintro e w2 ⟨rfl, rfl⟩
            go_wp2
            go_ret
            exact ⟨by rw [hT.out]; rfl, HB1.out⟩
          | false =>
            rw [if_neg (by rw [h4]; simp)] at hT
            go_enter Tryz.func80, Tryz.ntmps80
            go_wp2_with fail
            go_at_call 119
            refine HS.out.mono ?_
            rintro e w1 ⟨rfl, hb1⟩
            have a0 : w1.cell? ⟨g, off, none⟩ = some (.string ⟨o.toArray⟩) := (hb1.cell (p := ⟨g, off, none⟩) hg).trans e0
            have a1 : w1.cell? ⟨g, off + 1, none⟩ = some (.string ⟨x.toArray⟩) := (hb1.cell (p := ⟨g, off + 1, none⟩) hg).trans e1
            have HB1 := Lib.hid hb1
            clear hb1 e0 e1
            go_wp2
            go_ret
            exact ⟨by rw [hT.out]; rfl, HB1.out⟩

theorem testF_other (st : PStore) (L : List (List UInt8)) (h2 : L.length ≠ 2) (h3 : L.length ≠ 3) : testF st L = 2 := by
  match L, h2, h3 with
  | [], _, _ => rfl
  | [_], _, _ => rfl
  | [_, _], h, _ => exact absurd rfl h
  | [_, _, _], _, h => exact absurd rfl h
  | _ :: _ :: _ :: _ :: _, _, _ => rfl

set_option maxHeartbeats 1000000 in
set_option maxRecDepth 100000 in
theorem test_other (pb : Nat) (st : PStore) {K : Nat → Prop} {v : Value} (L : List (List UInt8)) (h2 : L.length ≠ 2) (h3 : L.length ≠ 3) (w : World) (hl : StrsAt K w v L) :
    Calls Tryz.prog 80 #[v, .pointer (some ⟨pb, 0, none⟩)] w fun e w' => e = .returned (.int .i64 (testF st L)) ∧ Below w.heap.size w w' := by
  rw [testF_other st L h2 h3]
  obtain ⟨a, c, rfl⟩ := hl.isSlice
  clear hl
  generalize L.length = n at h2 h3 ⊢
  have b2 : ((n : Int) == 2) = false := beq_eq_false_iff_ne.2 (by omega)
  have b3 : ((n : Int) == 3) = false := beq_eq_false_iff_ne.2 (by omega)
  clear h2 h3
  go_enter Tryz.func80, Tryz.ntmps80
  go_wp2
  go_ret
  exact ⟨rfl, Below.refl _ _⟩
end Go.Proofs.YtmagggflamdahaaGreatDoor
