/- vfs.Store: put. vfs.Store: Read, Stat, Mkdir, Write, Append, Touch. vfs.Store: Mkdir. -/
import Derived.Test.YtmagggflamdahaaGreatDoorSe
import Derived.StillTailTactics
namespace Go.Proofs.YtmagggflamdahaaGreatDoor
open Go.RowKit

def sumT (fs : List (List UInt8 × PFile)) : Nat := (fs.map (fun x => x.2.text.length)).sum
def oldT (p : List UInt8) (fs : List (List UInt8 × PFile)) : Nat := ((findF p fs).getD noFile).text.length
theorem sumT_put (p : List UInt8) (f : PFile) : ∀ fs, sumT (putF p f fs) + oldT p fs = sumT fs + f.text.length
  | [] => by simp [sumT, putF, oldT, findF, noFile]
  | (q, g) :: r => by
    have ih := sumT_put p f r
    cases hpq : (p == q) with
    | true => simp [sumT, putF, oldT, findF, hpq]; omega
    | false =>
      simp only [sumT, oldT] at ih
      simp [sumT, putF, oldT, findF, hpq]
      omega
theorem oldT_le (p : List UInt8) : ∀ fs, oldT p fs ≤ sumT fs
  | [] => by simp [sumT, oldT, findF, noFile]
  | (q, g) :: r => by
    have ih := oldT_le p r
    cases hpq : (p == q) with
    | true => simp [sumT, oldT, findF, hpq]
    | false =>
      simp only [sumT, oldT] at ih
      simp [sumT, oldT, findF, hpq]
      omega
theorem putF_mem (p : List UInt8) (f : PFile) : ∀ fs x, x ∈ putF p f fs → x = (p, f) ∨ x ∈ fs
  | [], x, h => by simp [putF] at h; exact .inl h
  | (q, g) :: r, x, h => by
    cases hpq : (p == q) with
    | true =>
      simp only [putF, hpq, if_true] at h
      rcases List.mem_cons.1 h with h | h
      · exact .inl h
      · exact .inr (List.mem_cons_of_mem _ h)
    | false =>
      simp only [putF, hpq] at h
      rcases List.mem_cons.1 h with h | h
      · exact .inr (by rw [h]; simp)
      · rcases putF_mem p f r x h with h | h
        · exact .inl h
        · exact .inr (List.mem_cons_of_mem _ h)

/-- a store in which something was put, of now -/
def PStore.put (st : PStore) (p : List UInt8) (f : PFile) : PStore := { st with clock := IntKind.i64.wrap (st.clock + 1), files := putF p { f with time := IntKind.i64.wrap (st.clock + 1) } st.files }
theorem wrap_wrap (x : Int) : IntKind.i64.wrap (IntKind.i64.wrap x) = IntKind.i64.wrap x := by
  rw [IntKind.wrap_i64, IntKind.wrap_i64]
  omega
theorem putF_len (p : List UInt8) (f : PFile) : ∀ fs : List (List UInt8 × PFile), (putF p f fs).length = if (findF p fs).isSome = true then fs.length else fs.length + 1
  | [] => rfl
  | (q, g) :: r => by
    have ih := putF_len p f r
    cases hpq : (p == q) with
    | true => simp [putF, findF, hpq]
    | false =>
      simp only [putF, findF, hpq]
      simp only [Bool.false_eq_true, if_false, List.length_cons, ih]
      split <;> rfl
theorem WfS.put {st : PStore} (h : WfS st) (p : List UInt8) (f : PFile) (hn : (findF p st.files).isSome = true ∨ st.files.length < 512) (hp : p.length ≤ 4194304) (hu : st.used + f.text.length ≤ st.room + oldT p st.files) : WfS (st.put p f) := by
  have h1 := sumT_put p { f with time := IntKind.i64.wrap (st.clock + 1) } st.files
  refine ⟨h.room, ?_, wrap_wrap _, ?_, ?_, ?_⟩
  · have h2 : (st.put p f).used = sumT (putF p { f with time := IntKind.i64.wrap (st.clock + 1) } st.files) := rfl
    have h3 : st.used = sumT st.files := rfl
    have h4 : (st.put p f).room = st.room := rfl
    simp only at h1
    omega
  · intro x hx
    rcases putF_mem _ _ _ _ hx with rfl | hx
    · exact wrap_wrap _
    · exact h.times x hx
  · have hl : (st.put p f).files.length = _ := putF_len p { f with time := IntKind.i64.wrap (st.clock + 1) } st.files
    have hc := h.cnt
    rw [hl]
    rcases hn with hn | hn
    · rw [if_pos hn]; exact hc
    · split <;> omega
  · intro x hx
    rcases putF_mem _ _ _ _ hx with rfl | hx
    · exact hp
    · exact h.keys x hx

set_option maxHeartbeats 2000000 in
set_option maxRecDepth 100000 in
theorem put_any (pb mb : Nat) (st : PStore) (p ft : List UInt8) (fm : Int) (fd : Bool) (hlen : ft.length ≤ 1048576) (hn : (findF p st.files).isSome = true ∨ st.files.length < 512) (hp : p.length ≤ 4194304) (w : World) (h : IsStore pb mb st w) (hu : st.used + ft.length ≤ st.room + oldT p st.files) :
    Calls Tryz.prog 50 #[.pointer (some ⟨pb, 0, none⟩), .string ⟨p.toArray⟩, .agg #[.string ⟨ft.toArray⟩, .int .i64 fm, .bool fd]] w fun e w' => e = .returned (.tuple #[]) ∧ IsStore pb mb (st.put p ⟨ft, fm, fd⟩) w' ∧ Keeps w.heap.size (fun k => k = pb ∨ k = mb) w w' := by
  have c2 : (w.alloc (.cells #[.string ⟨ft.toArray⟩, .int .i64 fm, .bool fd] 84)).cell? ⟨pb, 2, none⟩ = some (.int .i64 st.clock) := (World.cell?_of_block (w := w) (Below.heap_alloc w _ pb h.ltp)).trans (Lib.cell_of_heap h.cells 2)
  have f2 : (w.alloc (.cells #[.string ⟨ft.toArray⟩, .int .i64 fm, .bool fd] 84)).frozen? ⟨pb, 2, none⟩ = false := (World.frozen?_of_block (w := w) (Below.heap_alloc w _ pb h.ltp)).trans (Lib.frozen_of_heap h.cells 2)
  have HA := Lib.hid (clockAdd_any pb st.clock _ c2 f2)
  have H := Lib.hid h
  have HU := Lib.hid hu
  have HNP := Lib.hid (And.intro hn hp)
  clear h hn hp
  go_enter Tryz.func50, Tryz.ntmps50
  go_wp2_with fail
  go_at_call 70
  refine HA.out.mono ?_
  rintro e w1 ⟨rfl, hw1⟩
  obtain ⟨d, hd⟩ : ∃ d, d = IntKind.i64.wrap (st.clock + 1) := ⟨_, rfl⟩
  rw [← hd] at hw1 ⊢
  have hp1 := H.out.ltp
  have hm1 := H.out.ltm
  obtain ⟨es, mc, hm, hes⟩ := H.out.map
  have hbox1 : w1.heap[w.heap.size]? = some (.cells #[.string ⟨ft.toArray⟩, .int .i64 fm, .bool fd] 84 (0, 0)) := by
    rw [hw1, Below.heap_setCell _ _ _ _ (by show w.heap.size ≠ pb; omega)]
    exact heap_alloc_new w _
  have hcel1 : w1.heap[pb]? = some (.cells #[.int .i64 st.room, .int .i64 st.used, .int .i64 d, .map (some mb), .bool false, .slice none 0 0] 99 (0, 0)) := by
    rw [hw1]
    exact heap_set ((Below.heap_alloc w _ pb hp1).trans H.out.cells) 2 _
  have hmap1 : w1.heap[mb]? = some (.map es mc) := by
    rw [hw1, Below.heap_setCell _ _ _ _ (show mb ≠ pb by rintro rfl; rw [H.out.cells] at hm; cases hm), Below.heap_alloc w _ mb hm1]
    exact hm
  have hK1 : Keeps w.heap.size (fun k => k = pb ∨ k = mb) w w1 := by
    rw [hw1]
    exact ((Keeps.refl _ _ w).alloc (Nat.le_refl _) _).setCell (p := ⟨pb, 2, none⟩) (.inr (.inl rfl)) _
  have hne : mb ≠ pb := by rintro rfl; rw [H.out.cells] at hm; cases hm
  obtain ⟨x0, x1, x2, y0, y1, y2⟩ := cells3 hbox1
  have HB1 := Lib.hid hbox1
  have HC1 := Lib.hid hcel1
  have HM1 := Lib.hid hmap1
  have HK1 := Lib.hid hK1
  have HW1 := Lib.hid hw1
  have HD := Lib.hid hd
  clear hbox1 hcel1 hmap1 hK1 hw1 hm hd
  go_wp2
  obtain ⟨w2, hw2⟩ : ∃ w2, w2 = w1.setCell ⟨w.heap.size, 1, none⟩ (.int .i64 d) := ⟨_, rfl⟩
  rw [← hw2]
  have hbox2 : w2.heap[w.heap.size]? = some (.cells #[.string ⟨ft.toArray⟩, .int .i64 d, .bool fd] 84 (0, 0)) := by
    rw [hw2]
    exact heap_set HB1.out 1 _
  have hcel2 : w2.heap[pb]? = some (.cells #[.int .i64 st.room, .int .i64 st.used, .int .i64 d, .map (some mb), .bool false, .slice none 0 0] 99 (0, 0)) := by
    rw [hw2, Below.heap_setCell _ _ _ _ (by show pb ≠ w.heap.size; omega)]
    exact HC1.out
  have hmap2 : w2.heap[mb]? = some (.map es mc) := by
    rw [hw2, Below.heap_setCell _ _ _ _ (by show mb ≠ w.heap.size; omega)]
    exact HM1.out
  have hK2 : Keeps w.heap.size (fun k => k = pb ∨ k = mb) w w2 := by
    rw [hw2]
    exact HK1.out.setCell (p := ⟨w.heap.size, 1, none⟩) (.inl (Nat.le_refl _)) _
  rcases hg : (findF p st.files).getD noFile with ⟨gt, gm, gd⟩
  have hgl : oldT p st.files = gt.length := by unfold oldT; rw [hg]
  have hgu : oldT p st.files ≤ st.used := oldT_le p st.files
  rw [hgl] at hu hgu
  have hroom := H.out.wf.room
  have hused := H.out.wf.used
  have hlk : (Instr.lookup 97 (.map (some mb)) (.string ⟨p.toArray⟩) false).run Tryz.prog w2.drew = .ok (.agg #[.string ⟨gt.toArray⟩, .int .i64 gm, .bool gd]) w2.drew := by
    have := lookup_run false (w := w2.drew) ⟨es, mc, hmap2, hes⟩ p
    rw [hg] at this
    exact this
  have hwr1 : IntKind.i64.wrap ((ft.length : Int) - (gt.length : Int)) = (ft.length : Int) - (gt.length : Int) := by rw [IntKind.wrap_i64]; omega
  have hwr2 : IntKind.i64.wrap ((st.used : Int) + ((ft.length : Int) - (gt.length : Int))) = ((st.used + ft.length - gt.length : Nat) : Int) := by rw [IntKind.wrap_i64]; omega
  have hnu : Hid (st.used + ft.length - gt.length = (st.put p ⟨ft, fm, fd⟩).used) := Lib.hid (by
    have h1 : sumT (st.put p ⟨ft, fm, fd⟩).files + oldT p st.files = sumT st.files + ft.length := sumT_put p _ st.files
    have h2 : (st.put p ⟨ft, fm, fd⟩).used = sumT (st.put p ⟨ft, fm, fd⟩).files := rfl
    have h3 : st.used = sumT st.files := rfl
    rw [hgl] at h1
    omega)
  have hfl : ∀ W : World, (Instr.field 84 (.agg #[.string ⟨gt.toArray⟩, .int .i64 gm, .bool gd]) 0).run Tryz.prog W = .ok (.string ⟨gt.toArray⟩) W := fun W => by kernel_rfl
  generalize st.used + ft.length - gt.length = nu at hwr2 hnu
  have z0 : w2.cell? ⟨w.heap.size, 0, none⟩ = some (.string ⟨ft.toArray⟩) := Lib.cell_of_heap hbox2 0
  have z1 : w2.cell? ⟨pb, 1, none⟩ = some (.int .i64 st.used) := Lib.cell_of_heap hcel2 1
  have z3 : w2.cell? ⟨pb, 3, none⟩ = some (.map (some mb)) := Lib.cell_of_heap hcel2 3
  have z4 : w2.frozen? ⟨pb, 1, none⟩ = false := Lib.frozen_of_heap hcel2 1
  have HB2 := Lib.hid hbox2
  have HC2 := Lib.hid hcel2
  have HM2 := Lib.hid hmap2
  have HK2 := Lib.hid hK2
  clear hbox2 hcel2 hmap2 hK2 hw2 hu hgu hroom hused hg hgl x0 x1 x2 y0 y1 y2 c2 f2 HB1 HC1 HM1 HK1 HW1
  go_still_tail 19, (by kernel_rfl)
  change wpList _ _ _ _ _ w2.drew
  go_wp2
  obtain ⟨w3, hw3⟩ : ∃ w3, w3 = (w2.setCell ⟨pb, 1, none⟩ (.int .i64 nu)).drew := ⟨_, rfl⟩
  rw [← hw3]
  have hbox3 : w3.heap[w.heap.size]? = some (.cells #[.string ⟨ft.toArray⟩, .int .i64 d, .bool fd] 84 (0, 0)) := by
    rw [hw3]
    exact (Below.heap_setCell w2 ⟨pb, 1, none⟩ _ _ (by show w.heap.size ≠ pb; omega)).trans HB2.out
  have hcel3 : w3.heap[pb]? = some (.cells #[.int .i64 st.room, .int .i64 nu, .int .i64 d, .map (some mb), .bool false, .slice none 0 0] 99 (0, 0)) := by
    rw [hw3]
    exact heap_set HC2.out 1 _
  have hmap3 : w3.heap[mb]? = some (.map es mc) := by
    rw [hw3]
    exact (Below.heap_setCell w2 ⟨pb, 1, none⟩ _ _ (by show mb ≠ pb; exact hne)).trans HM2.out
  have hK3 : Keeps w.heap.size (fun k => k = pb ∨ k = mb) w w3 := by
    rw [hw3]
    exact (HK2.out.setCell (p := ⟨pb, 1, none⟩) (.inr (.inl rfl)) _).drew
  obtain ⟨o, hup, hma⟩ := update_run (w := w3.drew) ⟨es, mc, hmap3, hes⟩ p ⟨ft, d, fd⟩
  replace hup : (Instr.mapUpdate 97 (.map (some mb)) (.string ⟨p.toArray⟩) (.agg #[.string ⟨ft.toArray⟩, .int .i64 d, .bool fd])).run Tryz.prog w3.drew = .ok () { w3.drew with heap := w3.drew.heap.setIfInBounds mb o } := hup
  obtain ⟨w4, hw4⟩ : ∃ w4, w4 = { w3.drew with heap := w3.drew.heap.setIfInBounds mb o } := ⟨_, rfl⟩
  rw [← hw4] at hup hma
  have HF : Hid (IsStore pb mb (st.put p ⟨ft, fm, fd⟩) w4 ∧ Keeps w.heap.size (fun k => k = pb ∨ k = mb) w w4) := Lib.hid (by
    have hother : ∀ k, k ≠ mb → w4.heap[k]? = w3.heap[k]? := fun k hk => by
      rw [hw4]
      exact Array.getElem?_setIfInBounds_ne (Ne.symm hk)
    refine ⟨⟨H.out.wf.put p _ HNP.out.1 HNP.out.2 HU.out, ?_, ?_⟩, hK3.trans ⟨by rw [hw4]; rfl, by rw [hw4]; rfl, by rw [hw4]; rfl, by rw [hw4]; simp, fun k _ hk => hother k (fun e => hk (.inr e))⟩⟩
    · rw [hother _ (Ne.symm hne), hcel3, ← hnu.out]
      show _ = some (Obj.cells #[_, _, .int .i64 (IntKind.i64.wrap (st.clock + 1)), _, _, _] _ _)
      rw [← HD.out]
      rfl
    · show MapAt mb (putF p _ st.files) w4
      rw [← HD.out]
      exact hma)
  obtain ⟨x0, x1, x2, _, _, _⟩ := cells3 hbox3
  have z3 : w3.cell? ⟨pb, 3, none⟩ = some (.map (some mb)) := Lib.cell_of_heap hcel3 3
  clear hbox3 hcel3 hmap3 hK3 hw3 hma hw4 HB2 HC2 HM2 HK2 hlk hwr1 hwr2 hfl hnu hes
  go_still_tail 6, (by kernel_rfl)
  change wpList _ _ _ _ _ w3.drew
  go_wp2
  go_end0
  exact ⟨rfl, HF.out⟩
end Go.Proofs.YtmagggflamdahaaGreatDoor

namespace Go.Proofs.YtmagggflamdahaaGreatDoor
open Go.RowKit

/-- what find says of a path -/
inductive Found where
  | not (e : Int)
  | nothing (q : List UInt8)
  | file (q : List UInt8) (f : PFile)
def found (st : PStore) (p : List UInt8) : Found := match whereS p with
  | none => .not 1
  | some q => match st.get q with
    | none => .nothing q
    | some f => .file q f
def Found.val : Found → Value
  | .not e => .tuple #[.string ⟨#[]⟩, .agg #[.string ⟨#[]⟩, .int .i64 0, .bool false], .int .i64 e]
  | .nothing q => .tuple #[.string ⟨q.toArray⟩, .agg #[.string ⟨#[]⟩, .int .i64 0, .bool false], .int .i64 6]
  | .file q f => .tuple #[.string ⟨q.toArray⟩, .agg #[.string ⟨f.text.toArray⟩, .int .i64 f.time, .bool f.dir], .int .i64 0]
theorem findV_found (st : PStore) (p : List UInt8) : findV st p = (found st p).val := by
  unfold findV found
  cases whereS p with
  | none => rfl
  | some q =>
    simp only
    cases st.get q with
    | none => rfl
    | some f => rfl
theorem findQ (pb mb : Nat) (st : PStore) (s : ByteArray) (hs : s.size ≤ 262144) (w : World) (h : IsStore pb mb st w) :
    Calls Tryz.prog 34 #[.pointer (some ⟨pb, 0, none⟩), .string s] w fun e w' => e = .returned (found st s.data.toList).val ∧ Below w.heap.size w w' := by
  rw [← findV_found]
  exact find_any pb mb st s hs w h

def readF (st : PStore) (p : List UInt8) : List UInt8 × Int := match found st p with
  | .not e => ([], e)
  | .nothing _ => ([], 6)
  | .file _ f => if f.dir then ([], 8) else (f.text, 0)

set_option maxHeartbeats 2000000 in
set_option maxRecDepth 100000 in
theorem read_store (pb mb : Nat) (st : PStore) (s : ByteArray) (hs : s.size ≤ 262144) (w : World) (h : IsStore pb mb st w) :
    Calls Tryz.prog 13 #[.pointer (some ⟨pb, 0, none⟩), .string s] w fun e w' => e = .returned (.tuple #[.string ⟨(readF st s.data.toList).1.toArray⟩, .int .i64 (readF st s.data.toList).2]) ∧ Below w.heap.size w w' := by
  have HF := Lib.hid (findQ pb mb st s hs w h)
  have H := Lib.hid h
  have hR : Hid (readF st s.data.toList = match found st s.data.toList with | .not e => ([], e) | .nothing _ => ([], 6) | .file _ f => if f.dir then ([], 8) else (f.text, 0)) := Lib.hid rfl
  have hE : Hid (∀ e, found st s.data.toList = .not e → e = 1) := Lib.hid (by
    intro e he
    unfold found at he
    cases hw : whereS s.data.toList with
    | none => rw [hw] at he; cases he; rfl
    | some q =>
      rw [hw] at he
      simp only at he
      cases hg : st.get q with
      | none => rw [hg] at he; cases he
      | some f => rw [hg] at he; cases he)
  clear h
  generalize found st s.data.toList = fd at HF hR hE
  generalize readF st s.data.toList = r at hR ⊢
  cases fd with
  | not e =>
    obtain rfl := hE.out e rfl
    obtain rfl : r = ([], 1) := hR.out
    clear hR hE
    unfold Found.val at HF
    go_enter Tryz.func13, Tryz.ntmps13
    go_wp2_with fail
    go_at_call 34
    refine HF.out.mono ?_
    rintro e w1 ⟨rfl, hb1⟩
    have HB1 := Lib.hid (hb1.alloc hb1.size (.cells #[.string ⟨#[]⟩, .int .i64 0, .bool false] 84))
    clear hb1
    go_wp2
    go_ret2
    exact ⟨rfl, HB1.out⟩
  | nothing q =>
    obtain rfl : r = ([], 6) := hR.out
    clear hR hE
    unfold Found.val at HF
    go_enter Tryz.func13, Tryz.ntmps13
    go_wp2_with fail
    go_at_call 34
    refine HF.out.mono ?_
    rintro e w1 ⟨rfl, hb1⟩
    have HB1 := Lib.hid (hb1.alloc hb1.size (.cells #[.string ⟨#[]⟩, .int .i64 0, .bool false] 84))
    clear hb1
    go_wp2
    go_ret2
    exact ⟨rfl, HB1.out⟩
  | file q f =>
    obtain ⟨ft, fm, fd⟩ := f
    unfold Found.val at HF
    simp only at HF hR
    cases fd with
    | true =>
      obtain rfl : r = ([], 8) := hR.out
      clear hR hE
      go_enter Tryz.func13, Tryz.ntmps13
      go_wp2_with fail
      go_at_call 34
      refine HF.out.mono ?_
      rintro e w1 ⟨rfl, hb1⟩
      have HB1 := Lib.hid (hb1.alloc hb1.size (.cells #[.string ⟨ft.toArray⟩, .int .i64 fm, .bool true] 84))
      clear hb1
      go_wp2
      go_ret2
      exact ⟨rfl, HB1.out⟩
    | false =>
      obtain rfl : r = (ft, 0) := hR.out
      clear hR hE
      go_enter Tryz.func13, Tryz.ntmps13
      go_wp2_with fail
      go_at_call 34
      refine HF.out.mono ?_
      rintro e w1 ⟨rfl, hb1⟩
      have HB1 := Lib.hid (hb1.alloc hb1.size (.cells #[.string ⟨ft.toArray⟩, .int .i64 fm, .bool false] 84))
      have HI := Lib.hid (H.out.below ((hb1.alloc hb1.size (.cells #[.string ⟨ft.toArray⟩, .int .i64 fm, .bool false] 84)).mono (Nat.le_refl _)))
      have hbox := heap_alloc_new w1 (.cells #[.string ⟨ft.toArray⟩, .int .i64 fm, .bool false] 84)
      obtain ⟨x0, x1, x2, _, _, _⟩ := cells3 hbox
      clear hb1 hbox
      go_wp2_with fail
      go_at_call 35
      refine (note_any pb mb st _ _ _ HI.out).mono ?_
      rintro e w2 ⟨rfl, rfl⟩
      go_wp2
      go_ret2
      exact ⟨rfl, HB1.out⟩
end Go.Proofs.YtmagggflamdahaaGreatDoor

namespace Go.Proofs.YtmagggflamdahaaGreatDoor
open Go.RowKit

theorem found_not {st : PStore} {p : List UInt8} {e : Int} (he : found st p = .not e) : e = 1 := by
  unfold found at he
  cases hw : whereS p with
  | none => rw [hw] at he; cases he; rfl
  | some q =>
    rw [hw] at he
    simp only at he
    cases hg : st.get q with
    | none => rw [hg] at he; cases he
    | some f => rw [hg] at he; cases he
theorem found_nothing {st : PStore} {p q : List UInt8} (he : found st p = .nothing q) : q.length ≤ 2 * p.length + 4 ∧ st.get q = none := by
  unfold found at he
  cases hw : whereS p with
  | none => rw [hw] at he; cases he
  | some q' =>
    rw [hw] at he
    simp only at he
    cases hg : st.get q' with
    | none =>
      rw [hg] at he
      cases he
      unfold whereS at hw
      split at hw
      · cases hw
        have := cleanS_len (47 :: p)
        simp at this
        exact ⟨by omega, hg⟩
      · cases hw
    | some f => rw [hg] at he; cases he
theorem found_file {st : PStore} {p q : List UInt8} {f : PFile} (he : found st p = .file q f) : q.length ≤ 2 * p.length + 4 ∧ st.get q = some f := by
  unfold found at he
  cases hw : whereS p with
  | none => rw [hw] at he; cases he
  | some q' =>
    rw [hw] at he
    simp only at he
    cases hg : st.get q' with
    | none => rw [hg] at he; cases he
    | some f' =>
      rw [hg] at he
      cases he
      unfold whereS at hw
      split at hw
      · cases hw
        have := cleanS_len (47 :: p)
        simp at this
        exact ⟨by omega, hg⟩
      · cases hw
theorem homeS_is (st : PStore) (p : List UInt8) : homeS st p = 0 ∨ homeS st p = 6 ∨ homeS st p = 8 := by
  unfold homeS
  cases st.get (dirS p) with
  | none => simp
  | some f => cases hd : f.dir <;> simp [hd]

def mkdirF (st : PStore) (p : List UInt8) : PStore × Int := match found st p with
  | .not e => (st, e)
  | .file _ _ => (st, 7)
  | .nothing q => if homeS st q ≠ 0 then (st, homeS st q) else if 512 ≤ st.files.length then (st, 9) else (st.put q ⟨[], 0, true⟩, 0)

theorem IsStore.used_le {pb mb : Nat} {st : PStore} {w : World} (h : IsStore pb mb st w) : st.used ≤ 1048576 := Nat.le_trans h.wf.used h.wf.room

set_option maxHeartbeats 2000000 in
set_option maxRecDepth 100000 in
theorem mkdir_store (pb mb : Nat) (st : PStore) (s : ByteArray) (hs : s.size ≤ 262144) (w : World) (h : IsStore pb mb st w) :
    Calls Tryz.prog 30 #[.pointer (some ⟨pb, 0, none⟩), .string s] w fun e w' => e = .returned (.int .i64 (mkdirF st s.data.toList).2) ∧ IsStore pb mb (mkdirF st s.data.toList).1 w' ∧ Keeps w.heap.size (fun k => k = pb ∨ k = mb) w w' := by
  have HF := Lib.hid (findQ pb mb st s hs w h)
  have H := Lib.hid h
  have hR : Hid (mkdirF st s.data.toList = match found st s.data.toList with | .not e => (st, e) | .file _ _ => (st, 7) | .nothing q => if homeS st q ≠ 0 then (st, homeS st q) else if 512 ≤ st.files.length then (st, 9) else (st.put q ⟨[], 0, true⟩, 0)) := Lib.hid rfl
  have hE : Hid (∀ e, found st s.data.toList = .not e → e = 1) := Lib.hid (fun e he => found_not he)
  have hN : Hid (∀ q, found st s.data.toList = .nothing q → q.length ≤ 4194304) := Lib.hid (fun q he => by
    have := (found_nothing he).1
    simp at this
    omega)
  clear h
  generalize found st s.data.toList = fd at HF hR hE hN
  generalize mkdirF st s.data.toList = r at hR ⊢
  cases fd with
  | not e =>
    obtain rfl := hE.out e rfl
    obtain rfl : r = (st, 1) := hR.out
    clear hR hE hN
    unfold Found.val at HF
    go_enter Tryz.func30, Tryz.ntmps30
    go_wp2_with fail
    go_at_call 34
    refine HF.out.mono ?_
    rintro e w1 ⟨rfl, hb1⟩
    have hb2 := hb1.alloc hb1.size (.cells #[.string ⟨#[]⟩, .int .i64 0, .bool false] 84)
    have HI := Lib.hid (H.out.below hb2)
    have HB1 := Lib.hid (Keeps.of hb2 (fun k => k = pb ∨ k = mb))
    clear hb1 hb2
    go_wp2
    go_ret
    exact ⟨rfl, HI.out, HB1.out⟩
  | file q f =>
    obtain ⟨ft, fm, fd⟩ := f
    obtain rfl : r = (st, 7) := hR.out
    clear hR hE hN
    unfold Found.val at HF
    simp only at HF
    go_enter Tryz.func30, Tryz.ntmps30
    go_wp2_with fail
    go_at_call 34
    refine HF.out.mono ?_
    rintro e w1 ⟨rfl, hb1⟩
    have hb2 := hb1.alloc hb1.size (.cells #[.string ⟨ft.toArray⟩, .int .i64 fm, .bool fd] 84)
    have HI := Lib.hid (H.out.below hb2)
    have HB1 := Lib.hid (Keeps.of hb2 (fun k => k = pb ∨ k = mb))
    clear hb1 hb2
    go_wp2
    go_ret
    exact ⟨rfl, HI.out, HB1.out⟩
  | nothing q =>
    have HH : Hid (∀ w, IsStore pb mb st w → Calls Tryz.prog 49 #[.pointer (some ⟨pb, 0, none⟩), .string ⟨q.toArray⟩] w fun e w' => e = .returned (.int .i64 (homeS st q)) ∧ Below w.heap.size w w') := Lib.hid (fun w h => home_any pb mb st q (hN.out q rfl) w h)
    have hh := homeS_is st q
    simp only at hR
    generalize homeS st q = hm at HH hh hR
    unfold Found.val at HF
    clear hE
    by_cases h0 : hm = 0
    · subst h0
      rw [if_neg (by simp)] at hR
      by_cases hfull : 512 ≤ st.files.length
      · obtain rfl : r = (st, 9) := by rw [hR.out, if_pos hfull]
        have hfi : (512 : Int) ≤ (st.files.length : Int) := by omega
        clear hR hN hh
        go_enter Tryz.func30, Tryz.ntmps30
        go_wp2_with fail
        go_at_call 34
        refine HF.out.mono ?_
        rintro e w1 ⟨rfl, hb1⟩
        have hb2 := hb1.alloc hb1.size (.cells #[.string ⟨#[]⟩, .int .i64 0, .bool false] 84)
        have HI := Lib.hid (H.out.below hb2)
        have HB1 := Lib.hid hb2
        clear hb1 hb2
        go_wp2_with fail
        go_at_call 49
        refine (HH.out _ HI.out).mono ?_
        rintro e w2 ⟨rfl, hb2⟩
        have HI2 := Lib.hid (HI.out.below hb2)
        have HB2 := Lib.hid (HB1.out.trans (hb2.mono HB1.out.size))
        have c3 : w2.cell? ⟨pb, 3, none⟩ = some (.map (some mb)) := Lib.cell_of_heap HI2.out.cells 3
        have hln := fun ty => maplen_run HI2.out.map ty
        clear hb2
        go_wp2
        go_ret
        exact ⟨rfl, HI2.out, Keeps.of HB2.out _⟩
      · obtain rfl : r = (st.put q ⟨[], 0, true⟩, 0) := by rw [hR.out, if_neg hfull]
        have hfi : decide ((512 : Int) ≤ (st.files.length : Int)) = false := decide_eq_false (by omega)
        have hqn := hN.out q rfl
        clear hR hN hh
        go_enter Tryz.func30, Tryz.ntmps30
        go_wp2_with fail
        go_at_call 34
        refine HF.out.mono ?_
        rintro e w1 ⟨rfl, hb1⟩
        have hb2 := hb1.alloc hb1.size (.cells #[.string ⟨#[]⟩, .int .i64 0, .bool false] 84)
        have HI := Lib.hid (H.out.below hb2)
        have HB1 := Lib.hid hb2
        clear hb1 hb2
        go_wp2_with fail
        go_at_call 49
        refine (HH.out _ HI.out).mono ?_
        rintro e w2 ⟨rfl, hb2⟩
        have HI2 := Lib.hid (HI.out.below hb2)
        have HB2 := Lib.hid (HB1.out.trans (hb2.mono HB1.out.size))
        have c3 : w2.cell? ⟨pb, 3, none⟩ = some (.map (some mb)) := Lib.cell_of_heap HI2.out.cells 3
        have hln := fun ty => maplen_run HI2.out.map ty
        clear hb2
        go_wp2_with fail
        go_at_call 50
        refine (put_any pb mb st q [] 0 true (by simp) (.inr (by omega)) hqn _ HI2.out (by have := HI2.out.wf.used; simp; omega)).mono ?_
        rintro e w3 ⟨rfl, hI3, hk3⟩
        have HI3 := Lib.hid hI3
        have HK3 := Lib.hid ((Keeps.of HB2.out (fun k => k = pb ∨ k = mb)).trans (hk3.mono HB2.out.size (fun _ _ h => h)))
        clear hI3 hk3
        go_wp2
        go_ret
        exact ⟨rfl, HI3.out, HK3.out⟩
    · obtain rfl : r = (st, hm) := by rw [hR.out, if_pos h0]
      have hbq : (hm == 0) = false := beq_eq_false_iff_ne.2 h0
      clear hR hN hh
      go_enter Tryz.func30, Tryz.ntmps30
      go_wp2_with fail
      go_at_call 34
      refine HF.out.mono ?_
      rintro e w1 ⟨rfl, hb1⟩
      have hb2 := hb1.alloc hb1.size (.cells #[.string ⟨#[]⟩, .int .i64 0, .bool false] 84)
      have HI := Lib.hid (H.out.below hb2)
      have HB1 := Lib.hid hb2
      clear hb1 hb2
      go_wp2_with fail
      go_at_call 49
      refine (HH.out _ HI.out).mono ?_
      rintro e w2 ⟨rfl, hb2⟩
      have HI2 := Lib.hid (HI.out.below hb2)
      have HB2 := Lib.hid (HB1.out.trans (hb2.mono HB1.out.size))
      clear hb2
      go_wp2
      go_ret
      exact ⟨rfl, HI2.out, Keeps.of HB2.out _⟩
end Go.Proofs.YtmagggflamdahaaGreatDoor
