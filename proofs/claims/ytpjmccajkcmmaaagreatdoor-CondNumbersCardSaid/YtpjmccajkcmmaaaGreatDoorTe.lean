/- vfs.Store: put. vfs.Store: Read, Stat, Mkdir, Write, Append, Touch. vfs.Store: Mkdir. vfs.Store: Write. vfs.Store: Write, Append. vfs.Store: Touch, Stat, Clock, New. vfs.New, Store.Clock. -/
import Derived.Test.YtpjmccajkcmmaaaGreatDoorTd
import Derived.StillTailTactics
namespace Go.Proofs.YtpjmccajkcmmaaaGreatDoor
open Go.RowKit

def sumT (fs : List (List UInt8 × PFile)) : Nat := (fs.map (fun x => x.2.text.length)).sum
def oldT (p : List UInt8) (fs : List (List UInt8 × PFile)) : Nat := ((findF p fs).getD noFile).text.length
theorem sumT_put (p : List UInt8) (f : PFile) : ∀ fs, sumT (putF p f fs) + oldT p fs = sumT fs + f.text.length
  | [] => by simp [sumT, putF, oldT, findF, noFile]
  | (q, g) :: r => by
    have ih := sumT_put p f r
    cases hpq : (p == q) with
    | true => simp [sumT, putF, oldT, findF, hpq]; omega
    | false =>
      simp only [sumT, oldT] at ih
      simp [sumT, putF, oldT, findF, hpq]
      omega
theorem oldT_le (p : List UInt8) : ∀ fs, oldT p fs ≤ sumT fs
  | [] => by simp [sumT, oldT, findF, noFile]
  | (q, g) :: r => by
    have ih := oldT_le p r
    cases hpq : (p == q) with
    | true => simp [sumT, oldT, findF, hpq]
    | false =>
      simp only [sumT, oldT] at ih
      simp [sumT, oldT, findF, hpq]
      omega
theorem putF_mem (p : List UInt8) (f : PFile) : ∀ fs x, x ∈ putF p f fs → x = (p, f) ∨ x ∈ fs
  | [], x, h => by simp [putF] at h; exact .inl h
  | (q, g) :: r, x, h => by
    cases hpq : (p == q) with
    | true =>
      simp only [putF, hpq, if_true] at h
      rcases List.mem_cons.1 h with h | h
      · exact .inl h
      · exact .inr (List.mem_cons_of_mem _ h)
    | false =>
      simp only [putF, hpq] at h
      rcases List.mem_cons.1 h with h | h
      · exact .inr (by rw [h]; simp)
      · rcases putF_mem p f r x h with h | h
        · exact .inl h
        · exact .inr (List.mem_cons_of_mem _ h)

/-- a store in which something was put, of now -/
def PStore.put (st : PStore) (p : List UInt8) (f : PFile) : PStore := { st with clock := IntKind.i64.wrap (st.clock + 1), files := putF p { f with time := IntKind.i64.wrap (st.clock + 1) } st.files }
theorem wrap_wrap (x : Int) : IntKind.i64.wrap (IntKind.i64.wrap x) = IntKind.i64.wrap x := by
  rw [IntKind.wrap_i64, IntKind.wrap_i64]
  omega
theorem putF_len (p : List UInt8) (f : PFile) : ∀ fs : List (List UInt8 × PFile), (putF p f fs).length = if (findF p fs).isSome = true then fs.length else fs.length + 1
  | [] => rfl
  | (q, g) :: r => by
    have ih := putF_len p f r
    cases hpq : (p == q) with
    | true => simp [putF, findF, hpq]
    | false =>
      simp only [putF, findF, hpq]
      simp only [Bool.false_eq_true, if_false, List.length_cons, ih]
      split <;> rfl
theorem WfS.put {st : PStore} (h : WfS st) (p : List UInt8) (f : PFile) (hn : (findF p st.files).isSome = true ∨ st.files.length < 512) (hp : p.length ≤ 4194304) (hu : st.used + f.text.length ≤ st.room + oldT p st.files) : WfS (st.put p f) := by
  have h1 := sumT_put p { f with time := IntKind.i64.wrap (st.clock + 1) } st.files
  refine ⟨h.room, ?_, wrap_wrap _, ?_, ?_, ?_⟩
  · have h2 : (st.put p f).used = sumT (putF p { f with time := IntKind.i64.wrap (st.clock + 1) } st.files) := rfl
    have h3 : st.used = sumT st.files := rfl
    have h4 : (st.put p f).room = st.room := rfl
    simp only at h1
    omega
  · intro x hx
    rcases putF_mem _ _ _ _ hx with rfl | hx
    · exact wrap_wrap _
    · exact h.times x hx
  · have hl : (st.put p f).files.length = _ := putF_len p { f with time := IntKind.i64.wrap (st.clock + 1) } st.files
    have hc := h.cnt
    rw [hl]
    rcases hn with hn | hn
    · rw [if_pos hn]; exact hc
    · split <;> omega
  · intro x hx
    rcases putF_mem _ _ _ _ hx with rfl | hx
    · exact hp
    · exact h.keys x hx

set_option maxHeartbeats 2000000 in
set_option maxRecDepth 100000 in
theorem put_any (pb mb : Nat) (st : PStore) (p ft : List UInt8) (fm : Int) (fd : Bool) (hlen : ft.length ≤ 1048576) (hn : (findF p st.files).isSome = true ∨ st.files.length < 512) (hp : p.length ≤ 4194304) (w : World) (h : IsStore pb mb st w) (hu : st.used + ft.length ≤ st.room + oldT p st.files) :
    Calls Tryz.prog 30 #[.pointer (some ⟨pb, 0, none⟩), .string ⟨p.toArray⟩, .agg #[.string ⟨ft.toArray⟩, .int .i64 fm, .bool fd]] w fun e w' => e = .returned (.tuple #[]) ∧ IsStore pb mb (st.put p ⟨ft, fm, fd⟩) w' ∧ Keeps w.heap.size (fun k => k = pb ∨ k = mb) w w' := by
  have c2 : (w.alloc (.cells #[.string ⟨ft.toArray⟩, .int .i64 fm, .bool fd] 82)).cell? ⟨pb, 2, none⟩ = some (.int .i64 st.clock) := (World.cell?_of_block (w := w) (Below.heap_alloc w _ pb h.ltp)).trans (Lib.cell_of_heap h.cells 2)
  have f2 : (w.alloc (.cells #[.string ⟨ft.toArray⟩, .int .i64 fm, .bool fd] 82)).frozen? ⟨pb, 2, none⟩ = false := (World.frozen?_of_block (w := w) (Below.heap_alloc w _ pb h.ltp)).trans (Lib.frozen_of_heap h.cells 2)
  have HA := Lib.hid (clockAdd_any pb st.clock _ c2 f2)
  have H := Lib.hid h
  have HU := Lib.hid hu
  have HNP := Lib.hid (And.intro hn hp)
  clear h hn hp
  go_enter Tryz.func30, Tryz.ntmps30
  go_wp2_with fail
  go_at_call 47
  refine HA.out.mono ?_
  rintro e w1 ⟨rfl, hw1⟩
  obtain ⟨d, hd⟩ : ∃ d, d = IntKind.i64.wrap (st.clock + 1) := ⟨_, rfl⟩
  rw [← hd] at hw1 ⊢
  have hp1 := H.out.ltp
  have hm1 := H.out.ltm
  obtain ⟨es, mc, hm, hes⟩ := H.out.map
  have hbox1 : w1.heap[w.heap.size]? = some (.cells #[.string ⟨ft.toArray⟩, .int .i64 fm, .bool fd] 82 (0, 0)) := by
    rw [hw1, Below.heap_setCell _ _ _ _ (by show w.heap.size ≠ pb; omega)]
    exact heap_alloc_new w _
  have hcel1 : w1.heap[pb]? = some (.cells #[.int .i64 st.room, .int .i64 st.used, .int .i64 d, .map (some mb), .bool false, .slice none 0 0] 90 (0, 0)) := by
    rw [hw1]
    exact heap_set ((Below.heap_alloc w _ pb hp1).trans H.out.cells) 2 _
  have hmap1 : w1.heap[mb]? = some (.map es mc) := by
    rw [hw1, Below.heap_setCell _ _ _ _ (show mb ≠ pb by rintro rfl; rw [H.out.cells] at hm; cases hm), Below.heap_alloc w _ mb hm1]
    exact hm
  have hK1 : Keeps w.heap.size (fun k => k = pb ∨ k = mb) w w1 := by
    rw [hw1]
    exact ((Keeps.refl _ _ w).alloc (Nat.le_refl _) _).setCell (p := ⟨pb, 2, none⟩) (.inr (.inl rfl)) _
  have hne : mb ≠ pb := by rintro rfl; rw [H.out.cells] at hm; cases hm
  obtain ⟨x0, x1, x2, y0, y1, y2⟩ := cells3 hbox1
  have HB1 := Lib.hid hbox1
  have HC1 := Lib.hid hcel1
  have HM1 := Lib.hid hmap1
  have HK1 := Lib.hid hK1
  have HW1 := Lib.hid hw1
  have HD := Lib.hid hd
  clear hbox1 hcel1 hmap1 hK1 hw1 hm hd
  go_wp2
  obtain ⟨w2, hw2⟩ : ∃ w2, w2 = w1.setCell ⟨w.heap.size, 1, none⟩ (.int .i64 d) := ⟨_, rfl⟩
  rw [← hw2]
  have hbox2 : w2.heap[w.heap.size]? = some (.cells #[.string ⟨ft.toArray⟩, .int .i64 d, .bool fd] 82 (0, 0)) := by
    rw [hw2]
    exact heap_set HB1.out 1 _
  have hcel2 : w2.heap[pb]? = some (.cells #[.int .i64 st.room, .int .i64 st.used, .int .i64 d, .map (some mb), .bool false, .slice none 0 0] 90 (0, 0)) := by
    rw [hw2, Below.heap_setCell _ _ _ _ (by show pb ≠ w.heap.size; omega)]
    exact HC1.out
  have hmap2 : w2.heap[mb]? = some (.map es mc) := by
    rw [hw2, Below.heap_setCell _ _ _ _ (by show mb ≠ w.heap.size; omega)]
    exact HM1.out
  have hK2 : Keeps w.heap.size (fun k => k = pb ∨ k = mb) w w2 := by
    rw [hw2]
    exact HK1.out.setCell (p := ⟨w.heap.size, 1, none⟩) (.inl (Nat.le_refl _)) _
  rcases hg : (findF p st.files).getD noFile with ⟨gt, gm, gd⟩
  have hgl : oldT p st.files = gt.length := by unfold oldT; rw [hg]
  have hgu : oldT p st.files ≤ st.used := oldT_le p st.files
  rw [hgl] at hu hgu
  have hroom := H.out.wf.room
  have hused := H.out.wf.used
  have hlk : (Instr.lookup 83 (.map (some mb)) (.string ⟨p.toArray⟩) false).run Tryz.prog w2.drew = .ok (.agg #[.string ⟨gt.toArray⟩, .int .i64 gm, .bool gd]) w2.drew := by
    have := lookup_run false (w := w2.drew) ⟨es, mc, hmap2, hes⟩ p
    rw [hg] at this
    exact this
  have hwr1 : IntKind.i64.wrap ((ft.length : Int) - (gt.length : Int)) = (ft.length : Int) - (gt.length : Int) := by rw [IntKind.wrap_i64]; omega
  have hwr2 : IntKind.i64.wrap ((st.used : Int) + ((ft.length : Int) - (gt.length : Int))) = ((st.used + ft.length - gt.length : Nat) : Int) := by rw [IntKind.wrap_i64]; omega
  have hnu : Hid (st.used + ft.length - gt.length = (st.put p ⟨ft, fm, fd⟩).used) := Lib.hid (by
    have h1 : sumT (st.put p ⟨ft, fm, fd⟩).files + oldT p st.files = sumT st.files + ft.length := sumT_put p _ st.files
    have h2 : (st.put p ⟨ft, fm, fd⟩).used = sumT (st.put p ⟨ft, fm, fd⟩).files := rfl
    have h3 : st.used = sumT st.files := rfl
    rw [hgl] at h1
    omega)
  have hfl : ∀ W : World, (Instr.field 82 (.agg #[.string ⟨gt.toArray⟩, .int .i64 gm, .bool gd]) 0).run Tryz.prog W = .ok (.string ⟨gt.toArray⟩) W := fun W => by kernel_rfl
  generalize st.used + ft.length - gt.length = nu at hwr2 hnu
  have z0 : w2.cell? ⟨w.heap.size, 0, none⟩ = some (.string ⟨ft.toArray⟩) := Lib.cell_of_heap hbox2 0
  have z1 : w2.cell? ⟨pb, 1, none⟩ = some (.int .i64 st.used) := Lib.cell_of_heap hcel2 1
  have z3 : w2.cell? ⟨pb, 3, none⟩ = some (.map (some mb)) := Lib.cell_of_heap hcel2 3
  have z4 : w2.frozen? ⟨pb, 1, none⟩ = false := Lib.frozen_of_heap hcel2 1
  have HB2 := Lib.hid hbox2
  have HC2 := Lib.hid hcel2
  have HM2 := Lib.hid hmap2
  have HK2 := Lib.hid hK2
  clear hbox2 hcel2 hmap2 hK2 hw2 hu hgu hroom hused hg hgl x0 x1 x2 y0 y1 y2 c2 f2 HB1 HC1 HM1 HK1 HW1
  go_still_tail 19, (by kernel_rfl)
  change wpList _ _ _ _ _ w2.drew
  go_wp2
  obtain ⟨w3, hw3⟩ : ∃ w3, w3 = (w2.setCell ⟨pb, 1, none⟩ (.int .i64 nu)).drew := ⟨_, rfl⟩
  rw [← hw3]
  have hbox3 : w3.heap[w.heap.size]? = some (.cells #[.string ⟨ft.toArray⟩, .int .i64 d, .bool fd] 82 (0, 0)) := by
    rw [hw3]
    exact (Below.heap_setCell w2 ⟨pb, 1, none⟩ _ _ (by show w.heap.size ≠ pb; omega)).trans HB2.out
  have hcel3 : w3.heap[pb]? = some (.cells #[.int .i64 st.room, .int .i64 nu, .int .i64 d, .map (some mb), .bool false, .slice none 0 0] 90 (0, 0)) := by
    rw [hw3]
    exact heap_set HC2.out 1 _
  have hmap3 : w3.heap[mb]? = some (.map es mc) := by
    rw [hw3]
    exact (Below.heap_setCell w2 ⟨pb, 1, none⟩ _ _ (by show mb ≠ pb; exact hne)).trans HM2.out
  have hK3 : Keeps w.heap.size (fun k => k = pb ∨ k = mb) w w3 := by
    rw [hw3]
    exact (HK2.out.setCell (p := ⟨pb, 1, none⟩) (.inr (.inl rfl)) _).drew
  obtain ⟨o, hup, hma⟩ := update_run (w := w3.drew) ⟨es, mc, hmap3, hes⟩ p ⟨ft, d, fd⟩
  replace hup : (Instr.mapUpdate 83 (.map (some mb)) (.string ⟨p.toArray⟩) (.agg #[.string ⟨ft.toArray⟩, .int .i64 d, .bool fd])).run Tryz.prog w3.drew = .ok () { w3.drew with heap := w3.drew.heap.setIfInBounds mb o } := hup
  obtain ⟨w4, hw4⟩ : ∃ w4, w4 = { w3.drew with heap := w3.drew.heap.setIfInBounds mb o } := ⟨_, rfl⟩
  rw [← hw4] at hup hma
  have HF : Hid (IsStore pb mb (st.put p ⟨ft, fm, fd⟩) w4 ∧ Keeps w.heap.size (fun k => k = pb ∨ k = mb) w w4) := Lib.hid (by
    have hother : ∀ k, k ≠ mb → w4.heap[k]? = w3.heap[k]? := fun k hk => by
      rw [hw4]
      exact Array.getElem?_setIfInBounds_ne (Ne.symm hk)
    refine ⟨⟨H.out.wf.put p _ HNP.out.1 HNP.out.2 HU.out, ?_, ?_⟩, hK3.trans ⟨by rw [hw4]; rfl, by rw [hw4]; rfl, by rw [hw4]; rfl, by rw [hw4]; simp, fun k _ hk => hother k (fun e => hk (.inr e))⟩⟩
    · rw [hother _ (Ne.symm hne), hcel3, ← hnu.out]
      show _ = some (Obj.cells #[_, _, .int .i64 (IntKind.i64.wrap (st.clock + 1)), _, _, _] _ _)
      rw [← HD.out]
      rfl
    · show MapAt mb (putF p _ st.files) w4
      rw [← HD.out]
      exact hma)
  obtain ⟨x0, x1, x2, _, _, _⟩ := cells3 hbox3
  have z3 : w3.cell? ⟨pb, 3, none⟩ = some (.map (some mb)) := Lib.cell_of_heap hcel3 3
  clear hbox3 hcel3 hmap3 hK3 hw3 hma hw4 HB2 HC2 HM2 HK2 hlk hwr1 hwr2 hfl hnu hes
  go_still_tail 6, (by kernel_rfl)
  change wpList _ _ _ _ _ w3.drew
  go_wp2
  go_end0
  exact ⟨rfl, HF.out⟩
end Go.Proofs.YtpjmccajkcmmaaaGreatDoor

namespace Go.Proofs.YtpjmccajkcmmaaaGreatDoor
open Go.RowKit

/-- what find says of a path -/
inductive Found where
  | not (e : Int)
  | nothing (q : List UInt8)
  | file (q : List UInt8) (f : PFile)
def found (st : PStore) (p : List UInt8) : Found := match whereS p with
  | none => .not 1
  | some q => match st.get q with
    | none => .nothing q
    | some f => .file q f
def Found.val : Found → Value
  | .not e => .tuple #[.string ⟨#[]⟩, .agg #[.string ⟨#[]⟩, .int .i64 0, .bool false], .int .i64 e]
  | .nothing q => .tuple #[.string ⟨q.toArray⟩, .agg #[.string ⟨#[]⟩, .int .i64 0, .bool false], .int .i64 6]
  | .file q f => .tuple #[.string ⟨q.toArray⟩, .agg #[.string ⟨f.text.toArray⟩, .int .i64 f.time, .bool f.dir], .int .i64 0]
theorem findV_found (st : PStore) (p : List UInt8) : findV st p = (found st p).val := by
  unfold findV found
  cases whereS p with
  | none => rfl
  | some q =>
    simp only
    cases st.get q with
    | none => rfl
    | some f => rfl
theorem findQ (pb mb : Nat) (st : PStore) (s : ByteArray) (hs : s.size ≤ 262144) (w : World) (h : IsStore pb mb st w) :
    Calls Tryz.prog 28 #[.pointer (some ⟨pb, 0, none⟩), .string s] w fun e w' => e = .returned (found st s.data.toList).val ∧ Below w.heap.size w w' := by
  rw [← findV_found]
  exact find_any pb mb st s hs w h

def readF (st : PStore) (p : List UInt8) : List UInt8 × Int := match found st p with
  | .not e => ([], e)
  | .nothing _ => ([], 6)
  | .file _ f => if f.dir then ([], 8) else (f.text, 0)

end Go.Proofs.YtpjmccajkcmmaaaGreatDoor

namespace Go.Proofs.YtpjmccajkcmmaaaGreatDoor
open Go.RowKit

theorem found_not {st : PStore} {p : List UInt8} {e : Int} (he : found st p = .not e) : e = 1 := by
  unfold found at he
  cases hw : whereS p with
  | none => rw [hw] at he; cases he; rfl
  | some q =>
    rw [hw] at he
    simp only at he
    cases hg : st.get q with
    | none => rw [hg] at he; cases he
    | some f => rw [hg] at he; cases he
theorem found_nothing {st : PStore} {p q : List UInt8} (he : found st p = .nothing q) : q.length ≤ 2 * p.length + 4 ∧ st.get q = none := by
  unfold found at he
  cases hw : whereS p with
  | none => rw [hw] at he; cases he
  | some q' =>
    rw [hw] at he
    simp only at he
    cases hg : st.get q' with
    | none =>
      rw [hg] at he
      cases he
      unfold whereS at hw
      split at hw
      · cases hw
        have := cleanS_len (47 :: p)
        simp at this
        exact ⟨by omega, hg⟩
      · cases hw
    | some f => rw [hg] at he; cases he
theorem found_file {st : PStore} {p q : List UInt8} {f : PFile} (he : found st p = .file q f) : q.length ≤ 2 * p.length + 4 ∧ st.get q = some f := by
  unfold found at he
  cases hw : whereS p with
  | none => rw [hw] at he; cases he
  | some q' =>
    rw [hw] at he
    simp only at he
    cases hg : st.get q' with
    | none => rw [hg] at he; cases he
    | some f' =>
      rw [hg] at he
      cases he
      unfold whereS at hw
      split at hw
      · cases hw
        have := cleanS_len (47 :: p)
        simp at this
        exact ⟨by omega, hg⟩
      · cases hw
theorem homeS_is (st : PStore) (p : List UInt8) : homeS st p = 0 ∨ homeS st p = 6 ∨ homeS st p = 8 := by
  unfold homeS
  cases st.get (dirS p) with
  | none => simp
  | some f => cases hd : f.dir <;> simp [hd]

def mkdirF (st : PStore) (p : List UInt8) : PStore × Int := match found st p with
  | .not e => (st, e)
  | .file _ _ => (st, 7)
  | .nothing q => if homeS st q ≠ 0 then (st, homeS st q) else if 512 ≤ st.files.length then (st, 9) else (st.put q ⟨[], 0, true⟩, 0)

theorem IsStore.used_le {pb mb : Nat} {st : PStore} {w : World} (h : IsStore pb mb st w) : st.used ≤ 1048576 := Nat.le_trans h.wf.used h.wf.room

end Go.Proofs.YtpjmccajkcmmaaaGreatDoor

namespace Go.Proofs.YtpjmccajkcmmaaaGreatDoor
open Go.RowKit

/-- what Write does where something may lie: fresh: nothing lies there yet; ft: the text that lay there -/
def writeAt (st : PStore) (q ft : List UInt8) (fresh : Bool) (text : List UInt8) : PStore × Int :=
  if homeS st q ≠ 0 then (st, homeS st q)
  else if 65536 < text.length then (st, 5)
  else if st.room + ft.length < st.used + text.length ∨ (fresh = true ∧ 512 ≤ st.files.length) then (st, 9)
  else (st.put q ⟨text, 0, false⟩, 0)
def writeF (st : PStore) (p text : List UInt8) : PStore × Int := match found st p with
  | .not e => (st, e)
  | .nothing q => writeAt st q [] true text
  | .file q f => if f.dir then (st, 8) else writeAt st q f.text false text

set_option maxHeartbeats 4000000 in
set_option maxRecDepth 100000 in
theorem write_fresh (pb mb : Nat) (st : PStore) (q ft : List UInt8) (fm : Int) (s s2 : ByteArray) (hs2 : s2.size ≤ 140737488351232) (hq : q.length ≤ 4194304) (w : World) (h : IsStore pb mb st w) (hft : ft.length ≤ st.used) (hold : oldT q st.files = ft.length)
    (hF : Calls Tryz.prog 28 #[.pointer (some ⟨pb, 0, none⟩), .string s] w fun e w' => e = .returned (.tuple #[.string ⟨q.toArray⟩, .agg #[.string ⟨ft.toArray⟩, .int .i64 fm, .bool false], .int .i64 6]) ∧ Below w.heap.size w w') :
    Calls Tryz.prog 17 #[.pointer (some ⟨pb, 0, none⟩), .string s, .string s2] w fun e w' => e = .returned (.int .i64 (writeAt st q ft true s2.data.toList).2) ∧ IsStore pb mb (writeAt st q ft true s2.data.toList).1 w' ∧ Keeps w.heap.size (fun k => k = pb ∨ k = mb) w w' := by
  have HF := Lib.hid hF
  have H := Lib.hid h
  have hR : Hid (writeAt st q ft true s2.data.toList = if homeS st q ≠ 0 then (st, homeS st q) else if 65536 < s2.data.toList.length then (st, 5) else if st.room + ft.length < st.used + s2.data.toList.length ∨ (true = true ∧ 512 ≤ st.files.length) then (st, 9) else (st.put q ⟨s2.data.toList, 0, false⟩, 0)) := Lib.hid rfl
  have HH : Hid (∀ w, IsStore pb mb st w → Calls Tryz.prog 29 #[.pointer (some ⟨pb, 0, none⟩), .string ⟨q.toArray⟩] w fun e w' => e = .returned (.int .i64 (homeS st q)) ∧ Below w.heap.size w w') := Lib.hid (fun w h => home_any pb mb st q hq w h)
  have hh := homeS_is st q
  have hsl : Hid (s2.data.toList.length = s2.size) := Lib.hid (by simp)
  have hub := h.wf.used
  have hrb := h.wf.room
  rw [hsl.out] at hR
  have HO := Lib.hid hold
  
  clear h hF hold
  generalize writeAt st q ft true s2.data.toList = r at hR ⊢
  generalize homeS st q = hm at HH hh hR
  have hw1 : IntKind.i64.wrap ((st.used : Int) - (ft.length : Int)) = (st.used : Int) - (ft.length : Int) := by rw [IntKind.wrap_i64]; omega
  have hw2 : IntKind.i64.wrap ((st.room : Int) - (s2.size : Int)) = (st.room : Int) - (s2.size : Int) := by rw [IntKind.wrap_i64]; omega
  by_cases h0 : hm = 0
  · subst h0
    rw [if_neg (by simp)] at hR
    by_cases hbig : 65536 < s2.size
    · obtain rfl : r = (st, 5) := by rw [hR.out, if_pos hbig]
      have hbi : (65536 : Int) < (s2.size : Int) := by omega
      clear hR hh
      go_enter Tryz.func17, Tryz.ntmps17
      go_wp2_with fail
      go_at_call 28
      refine HF.out.mono ?_
      rintro e w1 ⟨rfl, hb1⟩
      have hbox := heap_alloc_new w1 (.cells #[.string ⟨ft.toArray⟩, .int .i64 fm, .bool false] 82)
      obtain ⟨x0, x1, x2, _, _, _⟩ := cells3 hbox
      have hb2 := hb1.alloc hb1.size (.cells #[.string ⟨ft.toArray⟩, .int .i64 fm, .bool false] 82)
      have HBox := Lib.hid hbox
      have HI := Lib.hid (H.out.below hb2)
      have HB1 := Lib.hid hb2
      clear hb1 hb2 hbox
      go_wp2_with fail
      go_at_call 29
      refine (HH.out _ HI.out).mono ?_
      rintro e w2 ⟨rfl, hb2⟩
      have hbox2 := (hb2.block w1.heap.size (by simp)).trans HBox.out
      obtain ⟨z0, z1, z2, _, _, _⟩ := cells3 hbox2
      have HI2 := Lib.hid (HI.out.below hb2)
      have HB2 := Lib.hid (HB1.out.trans (hb2.mono HB1.out.size))
      have c0 : w2.cell? ⟨pb, 0, none⟩ = some (.int .i64 st.room) := Lib.cell_of_heap HI2.out.cells 0
      have c1 : w2.cell? ⟨pb, 1, none⟩ = some (.int .i64 st.used) := Lib.cell_of_heap HI2.out.cells 1
      have c3 : w2.cell? ⟨pb, 3, none⟩ = some (.map (some mb)) := Lib.cell_of_heap HI2.out.cells 3
      clear hb2 hbox2 x0 x1 x2
      go_wp2
      go_ret
      exact ⟨rfl, HI2.out, Keeps.of HB2.out _⟩
    · rw [if_neg hbig] at hR
      have hbi : decide ((65536 : Int) < (s2.size : Int)) = false := decide_eq_false (by omega)
      by_cases hfull : st.room + ft.length < st.used + s2.size
      · obtain rfl : r = (st, 9) := by rw [hR.out, if_pos (.inl hfull)]
        have hfi : (st.room : Int) - (s2.size : Int) < (st.used : Int) - (ft.length : Int) := by omega
        clear hR hh
        go_enter Tryz.func17, Tryz.ntmps17
        go_wp2_with fail
        go_at_call 28
        refine HF.out.mono ?_
        rintro e w1 ⟨rfl, hb1⟩
        have hbox := heap_alloc_new w1 (.cells #[.string ⟨ft.toArray⟩, .int .i64 fm, .bool false] 82)
        obtain ⟨x0, x1, x2, _, _, _⟩ := cells3 hbox
        have hb2 := hb1.alloc hb1.size (.cells #[.string ⟨ft.toArray⟩, .int .i64 fm, .bool false] 82)
        have HBox := Lib.hid hbox
        have HI := Lib.hid (H.out.below hb2)
        have HB1 := Lib.hid hb2
        clear hb1 hb2 hbox
        go_wp2_with fail
        go_at_call 29
        refine (HH.out _ HI.out).mono ?_
        rintro e w2 ⟨rfl, hb2⟩
        have hbox2 := (hb2.block w1.heap.size (by simp)).trans HBox.out
        obtain ⟨z0, z1, z2, _, _, _⟩ := cells3 hbox2
        have HI2 := Lib.hid (HI.out.below hb2)
        have HB2 := Lib.hid (HB1.out.trans (hb2.mono HB1.out.size))
        have c0 : w2.cell? ⟨pb, 0, none⟩ = some (.int .i64 st.room) := Lib.cell_of_heap HI2.out.cells 0
        have c1 : w2.cell? ⟨pb, 1, none⟩ = some (.int .i64 st.used) := Lib.cell_of_heap HI2.out.cells 1
        have c3 : w2.cell? ⟨pb, 3, none⟩ = some (.map (some mb)) := Lib.cell_of_heap HI2.out.cells 3
        clear hb2 hbox2 x0 x1 x2
        go_wp2
        go_quiet (fail)
        go_wp2
        go_ret
        exact ⟨rfl, HI2.out.keep (fun _ _ => rfl), Keeps.of (HB2.out.trans ((belowN w2 _).mono HB2.out.size)) _⟩
      · have hfi : decide ((st.room : Int) - (s2.size : Int) < (st.used : Int) - (ft.length : Int)) = false := decide_eq_false (by omega)
        have HPt : Hid ((st.files.length < 512) → ∀ w, IsStore pb mb st w → Calls Tryz.prog 30 #[.pointer (some ⟨pb, 0, none⟩), .string ⟨q.toArray⟩, .agg #[.string s2, .int .i64 0, .bool false]] w fun e w' => e = .returned (.tuple #[]) ∧ IsStore pb mb (st.put q ⟨s2.data.toList, 0, false⟩) w' ∧ Keeps w.heap.size (fun k => k = pb ∨ k = mb) w w') := Lib.hid (fun hn w h => by
          have := put_any pb mb st q s2.data.toList 0 false (by rw [hsl.out]; omega) (.inr hn) hq w h (by rw [HO.out, hsl.out]; omega)
          rw [Lib.mk_data] at this
          exact this)
        by_cases h512 : 512 ≤ st.files.length
        · obtain rfl : r = (st, 9) := by rw [hR.out, if_pos (.inr ⟨rfl, h512⟩)]
          have hni : (512 : Int) ≤ (st.files.length : Int) := by omega
          clear hR hh
          go_enter Tryz.func17, Tryz.ntmps17
          go_wp2_with fail
          go_at_call 28
          refine HF.out.mono ?_
          rintro e w1 ⟨rfl, hb1⟩
          have hbox := heap_alloc_new w1 (.cells #[.string ⟨ft.toArray⟩, .int .i64 fm, .bool false] 82)
          obtain ⟨x0, x1, x2, _, _, _⟩ := cells3 hbox
          have hb2 := hb1.alloc hb1.size (.cells #[.string ⟨ft.toArray⟩, .int .i64 fm, .bool false] 82)
          have HBox := Lib.hid hbox
          have HI := Lib.hid (H.out.below hb2)
          have HB1 := Lib.hid hb2
          clear hb1 hb2 hbox
          go_wp2_with fail
          go_at_call 29
          refine (HH.out _ HI.out).mono ?_
          rintro e w2 ⟨rfl, hb2⟩
          have hbox2 := (hb2.block w1.heap.size (by simp)).trans HBox.out
          obtain ⟨z0, z1, z2, _, _, _⟩ := cells3 hbox2
          have HI2 := Lib.hid (HI.out.below hb2)
          have HB2 := Lib.hid (HB1.out.trans (hb2.mono HB1.out.size))
          have c0 : w2.cell? ⟨pb, 0, none⟩ = some (.int .i64 st.room) := Lib.cell_of_heap HI2.out.cells 0
          have c1 : w2.cell? ⟨pb, 1, none⟩ = some (.int .i64 st.used) := Lib.cell_of_heap HI2.out.cells 1
          have c3 : w2.cell? ⟨pb, 3, none⟩ = some (.map (some mb)) := Lib.cell_of_heap HI2.out.cells 3
          clear hb2 hbox2 x0 x1 x2
          go_wp2
          go_quiet (fail)
          have hln := fun ty => maplen_run (w := w2.drewN nq) HI2.out.map ty
          go_wp2
          go_ret
          exact ⟨rfl, HI2.out.keep (fun _ _ => rfl), Keeps.of (HB2.out.trans ((belowN w2 _).mono HB2.out.size)) _⟩
        · obtain rfl : r = (st.put q ⟨s2.data.toList, 0, false⟩, 0) := by rw [hR.out, if_neg (by rintro (h | h); exact hfull h; exact h512 h.2)]
          have hni : decide ((512 : Int) ≤ (st.files.length : Int)) = false := decide_eq_false (by omega)
          clear hR hh
          go_enter Tryz.func17, Tryz.ntmps17
          go_wp2_with fail
          go_at_call 28
          refine HF.out.mono ?_
          rintro e w1 ⟨rfl, hb1⟩
          have hbox := heap_alloc_new w1 (.cells #[.string ⟨ft.toArray⟩, .int .i64 fm, .bool false] 82)
          obtain ⟨x0, x1, x2, _, _, _⟩ := cells3 hbox
          have hb2 := hb1.alloc hb1.size (.cells #[.string ⟨ft.toArray⟩, .int .i64 fm, .bool false] 82)
          have HBox := Lib.hid hbox
          have HI := Lib.hid (H.out.below hb2)
          have HB1 := Lib.hid hb2
          clear hb1 hb2 hbox
          go_wp2_with fail
          go_at_call 29
          refine (HH.out _ HI.out).mono ?_
          rintro e w2 ⟨rfl, hb2⟩
          have hbox2 := (hb2.block w1.heap.size (by simp)).trans HBox.out
          obtain ⟨z0, z1, z2, _, _, _⟩ := cells3 hbox2
          have HI2 := Lib.hid (HI.out.below hb2)
          have HB2 := Lib.hid (HB1.out.trans (hb2.mono HB1.out.size))
          have c0 : w2.cell? ⟨pb, 0, none⟩ = some (.int .i64 st.room) := Lib.cell_of_heap HI2.out.cells 0
          have c1 : w2.cell? ⟨pb, 1, none⟩ = some (.int .i64 st.used) := Lib.cell_of_heap HI2.out.cells 1
          have c3 : w2.cell? ⟨pb, 3, none⟩ = some (.map (some mb)) := Lib.cell_of_heap HI2.out.cells 3
          clear hb2 hbox2 x0 x1 x2
          go_wp2
          go_quiet (fail)
          have hln := fun ty => maplen_run (w := w2.drewN nq) HI2.out.map ty
          go_wp2_with fail
          go_at_call 30
          refine (HPt.out (by omega) _ (HI2.out.keep (w' := w2.drewN nq) (fun _ _ => rfl))).mono ?_
          rintro e w3 ⟨rfl, hI3, hk3⟩
          have HI3 := Lib.hid hI3
          have HK3 := Lib.hid (((Keeps.of HB2.out (fun k => k = pb ∨ k = mb)).trans (Keeps.of (belowN w2 _) _ |>.mono HB2.out.size (fun _ _ h => h))).trans (hk3.mono HB2.out.size (fun _ _ h => h)))
          clear hI3 hk3
          go_wp2_with fail
          go_at_call 31
          refine (note_any pb mb _ _ _ _ HI3.out).mono ?_
          rintro e w4 ⟨rfl, rfl⟩
          go_wp2
          go_ret
          exact ⟨rfl, HI3.out, HK3.out⟩
  · obtain rfl : r = (st, hm) := by rw [hR.out, if_pos h0]
    have hbq : (hm == 0) = false := beq_eq_false_iff_ne.2 h0
    clear hR hh
    go_enter Tryz.func17, Tryz.ntmps17
    go_wp2_with fail
    go_at_call 28
    refine HF.out.mono ?_
    rintro e w1 ⟨rfl, hb1⟩
    have hbox := heap_alloc_new w1 (.cells #[.string ⟨ft.toArray⟩, .int .i64 fm, .bool false] 82)
    obtain ⟨x0, x1, x2, _, _, _⟩ := cells3 hbox
    have hb2 := hb1.alloc hb1.size (.cells #[.string ⟨ft.toArray⟩, .int .i64 fm, .bool false] 82)
    have HBox := Lib.hid hbox
    have HI := Lib.hid (H.out.below hb2)
    have HB1 := Lib.hid hb2
    clear hb1 hb2 hbox
    go_wp2_with fail
    go_at_call 29
    refine (HH.out _ HI.out).mono ?_
    rintro e w2 ⟨rfl, hb2⟩
    have hbox2 := (hb2.block w1.heap.size (by simp)).trans HBox.out
    obtain ⟨z0, z1, z2, _, _, _⟩ := cells3 hbox2
    have HI2 := Lib.hid (HI.out.below hb2)
    have HB2 := Lib.hid (HB1.out.trans (hb2.mono HB1.out.size))
    have c0 : w2.cell? ⟨pb, 0, none⟩ = some (.int .i64 st.room) := Lib.cell_of_heap HI2.out.cells 0
    have c1 : w2.cell? ⟨pb, 1, none⟩ = some (.int .i64 st.used) := Lib.cell_of_heap HI2.out.cells 1
    have c3 : w2.cell? ⟨pb, 3, none⟩ = some (.map (some mb)) := Lib.cell_of_heap HI2.out.cells 3
    clear hb2 hbox2 x0 x1 x2
    go_wp2
    go_ret
    exact ⟨rfl, HI2.out, Keeps.of HB2.out _⟩

set_option maxHeartbeats 4000000 in
set_option maxRecDepth 100000 in
theorem write_old (pb mb : Nat) (st : PStore) (q ft : List UInt8) (fm : Int) (s s2 : ByteArray) (hs2 : s2.size ≤ 140737488351232) (hq : q.length ≤ 4194304) (w : World) (h : IsStore pb mb st w) (hft : ft.length ≤ st.used) (hold : oldT q st.files = ft.length) (hin : (findF q st.files).isSome = true)
    (hF : Calls Tryz.prog 28 #[.pointer (some ⟨pb, 0, none⟩), .string s] w fun e w' => e = .returned (.tuple #[.string ⟨q.toArray⟩, .agg #[.string ⟨ft.toArray⟩, .int .i64 fm, .bool false], .int .i64 0]) ∧ Below w.heap.size w w') :
    Calls Tryz.prog 17 #[.pointer (some ⟨pb, 0, none⟩), .string s, .string s2] w fun e w' => e = .returned (.int .i64 (writeAt st q ft false s2.data.toList).2) ∧ IsStore pb mb (writeAt st q ft false s2.data.toList).1 w' ∧ Keeps w.heap.size (fun k => k = pb ∨ k = mb) w w' := by
  have HF := Lib.hid hF
  have H := Lib.hid h
  have hR : Hid (writeAt st q ft false s2.data.toList = if homeS st q ≠ 0 then (st, homeS st q) else if 65536 < s2.data.toList.length then (st, 5) else if st.room + ft.length < st.used + s2.data.toList.length ∨ (false = true ∧ 512 ≤ st.files.length) then (st, 9) else (st.put q ⟨s2.data.toList, 0, false⟩, 0)) := Lib.hid rfl
  have HH : Hid (∀ w, IsStore pb mb st w → Calls Tryz.prog 29 #[.pointer (some ⟨pb, 0, none⟩), .string ⟨q.toArray⟩] w fun e w' => e = .returned (.int .i64 (homeS st q)) ∧ Below w.heap.size w w') := Lib.hid (fun w h => home_any pb mb st q hq w h)
  have hh := homeS_is st q
  have hsl : Hid (s2.data.toList.length = s2.size) := Lib.hid (by simp)
  have hub := h.wf.used
  have hrb := h.wf.room
  rw [hsl.out] at hR
  have HO := Lib.hid hold
  have HIN := Lib.hid hin
  clear h hF hold hin
  generalize writeAt st q ft false s2.data.toList = r at hR ⊢
  generalize homeS st q = hm at HH hh hR
  have hw1 : IntKind.i64.wrap ((st.used : Int) - (ft.length : Int)) = (st.used : Int) - (ft.length : Int) := by rw [IntKind.wrap_i64]; omega
  have hw2 : IntKind.i64.wrap ((st.room : Int) - (s2.size : Int)) = (st.room : Int) - (s2.size : Int) := by rw [IntKind.wrap_i64]; omega
  by_cases h0 : hm = 0
  · subst h0
    rw [if_neg (by simp)] at hR
    by_cases hbig : 65536 < s2.size
    · obtain rfl : r = (st, 5) := by rw [hR.out, if_pos hbig]
      have hbi : (65536 : Int) < (s2.size : Int) := by omega
      clear hR hh
      go_enter Tryz.func17, Tryz.ntmps17
      go_wp2_with fail
      go_at_call 28
      refine HF.out.mono ?_
      rintro e w1 ⟨rfl, hb1⟩
      have hbox := heap_alloc_new w1 (.cells #[.string ⟨ft.toArray⟩, .int .i64 fm, .bool false] 82)
      obtain ⟨x0, x1, x2, _, _, _⟩ := cells3 hbox
      have hb2 := hb1.alloc hb1.size (.cells #[.string ⟨ft.toArray⟩, .int .i64 fm, .bool false] 82)
      have HBox := Lib.hid hbox
      have HI := Lib.hid (H.out.below hb2)
      have HB1 := Lib.hid hb2
      clear hb1 hb2 hbox
      go_wp2_with fail
      go_at_call 29
      refine (HH.out _ HI.out).mono ?_
      rintro e w2 ⟨rfl, hb2⟩
      have hbox2 := (hb2.block w1.heap.size (by simp)).trans HBox.out
      obtain ⟨z0, z1, z2, _, _, _⟩ := cells3 hbox2
      have HI2 := Lib.hid (HI.out.below hb2)
      have HB2 := Lib.hid (HB1.out.trans (hb2.mono HB1.out.size))
      have c0 : w2.cell? ⟨pb, 0, none⟩ = some (.int .i64 st.room) := Lib.cell_of_heap HI2.out.cells 0
      have c1 : w2.cell? ⟨pb, 1, none⟩ = some (.int .i64 st.used) := Lib.cell_of_heap HI2.out.cells 1
      have c3 : w2.cell? ⟨pb, 3, none⟩ = some (.map (some mb)) := Lib.cell_of_heap HI2.out.cells 3
      clear hb2 hbox2 x0 x1 x2
      go_wp2
      go_ret
      exact ⟨rfl, HI2.out, Keeps.of HB2.out _⟩
    · rw [if_neg hbig] at hR
      have hbi : decide ((65536 : Int) < (s2.size : Int)) = false := decide_eq_false (by omega)
      by_cases hfull : st.room + ft.length < st.used + s2.size
      · obtain rfl : r = (st, 9) := by rw [hR.out, if_pos (.inl hfull)]
        have hfi : (st.room : Int) - (s2.size : Int) < (st.used : Int) - (ft.length : Int) := by omega
        clear hR hh
        go_enter Tryz.func17, Tryz.ntmps17
        go_wp2_with fail
        go_at_call 28
        refine HF.out.mono ?_
        rintro e w1 ⟨rfl, hb1⟩
        have hbox := heap_alloc_new w1 (.cells #[.string ⟨ft.toArray⟩, .int .i64 fm, .bool false] 82)
        obtain ⟨x0, x1, x2, _, _, _⟩ := cells3 hbox
        have hb2 := hb1.alloc hb1.size (.cells #[.string ⟨ft.toArray⟩, .int .i64 fm, .bool false] 82)
        have HBox := Lib.hid hbox
        have HI := Lib.hid (H.out.below hb2)
        have HB1 := Lib.hid hb2
        clear hb1 hb2 hbox
        go_wp2_with fail
        go_at_call 29
        refine (HH.out _ HI.out).mono ?_
        rintro e w2 ⟨rfl, hb2⟩
        have hbox2 := (hb2.block w1.heap.size (by simp)).trans HBox.out
        obtain ⟨z0, z1, z2, _, _, _⟩ := cells3 hbox2
        have HI2 := Lib.hid (HI.out.below hb2)
        have HB2 := Lib.hid (HB1.out.trans (hb2.mono HB1.out.size))
        have c0 : w2.cell? ⟨pb, 0, none⟩ = some (.int .i64 st.room) := Lib.cell_of_heap HI2.out.cells 0
        have c1 : w2.cell? ⟨pb, 1, none⟩ = some (.int .i64 st.used) := Lib.cell_of_heap HI2.out.cells 1
        have c3 : w2.cell? ⟨pb, 3, none⟩ = some (.map (some mb)) := Lib.cell_of_heap HI2.out.cells 3
        clear hb2 hbox2 x0 x1 x2
        go_wp2
        go_quiet (fail)
        go_wp2
        go_ret
        exact ⟨rfl, HI2.out.keep (fun _ _ => rfl), Keeps.of (HB2.out.trans ((belowN w2 _).mono HB2.out.size)) _⟩
      · have hfi : decide ((st.room : Int) - (s2.size : Int) < (st.used : Int) - (ft.length : Int)) = false := decide_eq_false (by omega)
        have HPt : Hid (((findF q st.files).isSome = true) → ∀ w, IsStore pb mb st w → Calls Tryz.prog 30 #[.pointer (some ⟨pb, 0, none⟩), .string ⟨q.toArray⟩, .agg #[.string s2, .int .i64 0, .bool false]] w fun e w' => e = .returned (.tuple #[]) ∧ IsStore pb mb (st.put q ⟨s2.data.toList, 0, false⟩) w' ∧ Keeps w.heap.size (fun k => k = pb ∨ k = mb) w w') := Lib.hid (fun hn w h => by
          have := put_any pb mb st q s2.data.toList 0 false (by rw [hsl.out]; omega) (.inl hn) hq w h (by rw [HO.out, hsl.out]; omega)
          rw [Lib.mk_data] at this
          exact this)
        obtain rfl : r = (st.put q ⟨s2.data.toList, 0, false⟩, 0) := by rw [hR.out, if_neg (by rintro (h | h); exact hfull h; exact absurd h.1 (by simp))]
        clear hR hh
        go_enter Tryz.func17, Tryz.ntmps17
        go_wp2_with fail
        go_at_call 28
        refine HF.out.mono ?_
        rintro e w1 ⟨rfl, hb1⟩
        have hbox := heap_alloc_new w1 (.cells #[.string ⟨ft.toArray⟩, .int .i64 fm, .bool false] 82)
        obtain ⟨x0, x1, x2, _, _, _⟩ := cells3 hbox
        have hb2 := hb1.alloc hb1.size (.cells #[.string ⟨ft.toArray⟩, .int .i64 fm, .bool false] 82)
        have HBox := Lib.hid hbox
        have HI := Lib.hid (H.out.below hb2)
        have HB1 := Lib.hid hb2
        clear hb1 hb2 hbox
        go_wp2_with fail
        go_at_call 29
        refine (HH.out _ HI.out).mono ?_
        rintro e w2 ⟨rfl, hb2⟩
        have hbox2 := (hb2.block w1.heap.size (by simp)).trans HBox.out
        obtain ⟨z0, z1, z2, _, _, _⟩ := cells3 hbox2
        have HI2 := Lib.hid (HI.out.below hb2)
        have HB2 := Lib.hid (HB1.out.trans (hb2.mono HB1.out.size))
        have c0 : w2.cell? ⟨pb, 0, none⟩ = some (.int .i64 st.room) := Lib.cell_of_heap HI2.out.cells 0
        have c1 : w2.cell? ⟨pb, 1, none⟩ = some (.int .i64 st.used) := Lib.cell_of_heap HI2.out.cells 1
        have c3 : w2.cell? ⟨pb, 3, none⟩ = some (.map (some mb)) := Lib.cell_of_heap HI2.out.cells 3
        clear hb2 hbox2 x0 x1 x2
        go_wp2
        go_quiet (fail)
        go_wp2_with fail
        go_at_call 30
        refine (HPt.out HIN.out _ (HI2.out.keep (w' := w2.drewN nq) (fun _ _ => rfl))).mono ?_
        rintro e w3 ⟨rfl, hI3, hk3⟩
        have HI3 := Lib.hid hI3
        have HK3 := Lib.hid (((Keeps.of HB2.out (fun k => k = pb ∨ k = mb)).trans (Keeps.of (belowN w2 _) _ |>.mono HB2.out.size (fun _ _ h => h))).trans (hk3.mono HB2.out.size (fun _ _ h => h)))
        clear hI3 hk3
        go_wp2_with fail
        go_at_call 31
        refine (note_any pb mb _ _ _ _ HI3.out).mono ?_
        rintro e w4 ⟨rfl, rfl⟩
        go_wp2
        go_ret
        exact ⟨rfl, HI3.out, HK3.out⟩
  · obtain rfl : r = (st, hm) := by rw [hR.out, if_pos h0]
    have hbq : (hm == 0) = false := beq_eq_false_iff_ne.2 h0
    clear hR hh
    go_enter Tryz.func17, Tryz.ntmps17
    go_wp2_with fail
    go_at_call 28
    refine HF.out.mono ?_
    rintro e w1 ⟨rfl, hb1⟩
    have hbox := heap_alloc_new w1 (.cells #[.string ⟨ft.toArray⟩, .int .i64 fm, .bool false] 82)
    obtain ⟨x0, x1, x2, _, _, _⟩ := cells3 hbox
    have hb2 := hb1.alloc hb1.size (.cells #[.string ⟨ft.toArray⟩, .int .i64 fm, .bool false] 82)
    have HBox := Lib.hid hbox
    have HI := Lib.hid (H.out.below hb2)
    have HB1 := Lib.hid hb2
    clear hb1 hb2 hbox
    go_wp2_with fail
    go_at_call 29
    refine (HH.out _ HI.out).mono ?_
    rintro e w2 ⟨rfl, hb2⟩
    have hbox2 := (hb2.block w1.heap.size (by simp)).trans HBox.out
    obtain ⟨z0, z1, z2, _, _, _⟩ := cells3 hbox2
    have HI2 := Lib.hid (HI.out.below hb2)
    have HB2 := Lib.hid (HB1.out.trans (hb2.mono HB1.out.size))
    have c0 : w2.cell? ⟨pb, 0, none⟩ = some (.int .i64 st.room) := Lib.cell_of_heap HI2.out.cells 0
    have c1 : w2.cell? ⟨pb, 1, none⟩ = some (.int .i64 st.used) := Lib.cell_of_heap HI2.out.cells 1
    have c3 : w2.cell? ⟨pb, 3, none⟩ = some (.map (some mb)) := Lib.cell_of_heap HI2.out.cells 3
    clear hb2 hbox2 x0 x1 x2
    go_wp2
    go_ret
    exact ⟨rfl, HI2.out, Keeps.of HB2.out _⟩
end Go.Proofs.YtpjmccajkcmmaaaGreatDoor

namespace Go.Proofs.YtpjmccajkcmmaaaGreatDoor
open Go.RowKit

set_option maxHeartbeats 2000000 in
set_option maxRecDepth 100000 in
theorem write_store (pb mb : Nat) (st : PStore) (s s2 : ByteArray) (hs : s.size ≤ 262144) (hs2 : s2.size ≤ 140737488351232) (w : World) (h : IsStore pb mb st w) :
    Calls Tryz.prog 17 #[.pointer (some ⟨pb, 0, none⟩), .string s, .string s2] w fun e w' => e = .returned (.int .i64 (writeF st s.data.toList s2.data.toList).2) ∧ IsStore pb mb (writeF st s.data.toList s2.data.toList).1 w' ∧ Keeps w.heap.size (fun k => k = pb ∨ k = mb) w w' := by
  have hF := findQ pb mb st s hs w h
  have hsl : s.data.toList.length = s.size := by simp
  unfold writeF
  cases hfd : found st s.data.toList with
  | not e =>
    obtain rfl := found_not hfd
    rw [hfd] at hF
    unfold Found.val at hF
    have HF := Lib.hid hF
    have H := Lib.hid h
    clear h hF hfd
    go_enter Tryz.func17, Tryz.ntmps17
    go_wp2_with fail
    go_at_call 28
    refine HF.out.mono ?_
    rintro e w1 ⟨rfl, hb1⟩
    have hb2 := hb1.alloc hb1.size (.cells #[.string ⟨#[]⟩, .int .i64 0, .bool false] 82)
    have HI := Lib.hid (H.out.below hb2)
    have HB1 := Lib.hid (Keeps.of hb2 (fun k => k = pb ∨ k = mb))
    clear hb1 hb2
    go_wp2
    go_ret
    exact ⟨rfl, HI.out, HB1.out⟩
  | nothing q =>
    obtain ⟨h1, h2⟩ := found_nothing hfd
    rw [hfd] at hF
    have hold : oldT q st.files = 0 := by
      unfold oldT
      have : findF q st.files = none := h2
      rw [this]
      rfl
    exact write_fresh pb mb st q [] 0 s s2 hs2 (by omega) w h (Nat.zero_le _) hold hF
  | file q f =>
    obtain ⟨h1, h2⟩ := found_file hfd
    rw [hfd] at hF
    obtain ⟨ft, fm, fd⟩ := f
    cases fd with
    | true =>
      unfold Found.val at hF
      simp only at hF
      have HF := Lib.hid hF
      have H := Lib.hid h
      clear h hF hfd
      go_enter Tryz.func17, Tryz.ntmps17
      go_wp2_with fail
      go_at_call 28
      refine HF.out.mono ?_
      rintro e w1 ⟨rfl, hb1⟩
      have hb2 := hb1.alloc hb1.size (.cells #[.string ⟨ft.toArray⟩, .int .i64 fm, .bool true] 82)
      have HI := Lib.hid (H.out.below hb2)
      have HB1 := Lib.hid (Keeps.of hb2 (fun k => k = pb ∨ k = mb))
      clear hb1 hb2
      go_wp2
      go_ret
      exact ⟨rfl, HI.out, HB1.out⟩
    | false =>
      have hold : oldT q st.files = ft.length := by
        unfold oldT
        have : findF q st.files = some ⟨ft, fm, false⟩ := h2
        rw [this]
        rfl
      have hle : ft.length ≤ st.used := by rw [← hold]; exact oldT_le q st.files
      exact write_old pb mb st q ft fm s s2 hs2 (by omega) w h hle hold (by rw [show findF q st.files = some ⟨ft, fm, false⟩ from h2]; rfl) hF

/-- the text that lies at a path; empty of anything else -/
def textF (st : PStore) (p : List UInt8) : List UInt8 := match found st p with | .file _ f => f.text | _ => []
def appendF (st : PStore) (p text : List UInt8) : PStore × Int := writeF st p (textF st p ++ text)
theorem textF_len {pb mb : Nat} {st : PStore} {w : World} (h : IsStore pb mb st w) (p : List UInt8) : (textF st p).length ≤ 1048576 := by
  unfold textF
  cases hfd : found st p with
  | not e => simp
  | nothing q => simp
  | file q f =>
    obtain ⟨_, h2⟩ := found_file hfd
    have h3 : oldT q st.files = f.text.length := by
      unfold oldT
      have : findF q st.files = some f := h2
      rw [this]
      rfl
    have h4 := oldT_le q st.files
    have h5 := h.used_le
    have h6 : st.used = sumT st.files := rfl
    simp only
    omega

end Go.Proofs.YtpjmccajkcmmaaaGreatDoor

namespace Go.Proofs.YtpjmccajkcmmaaaGreatDoor
open Go.RowKit

def touchF (st : PStore) (p : List UInt8) : PStore × Int := match found st p with
  | .file q f => if f.dir then (st.put q f, 0) else writeF st p f.text
  | _ => writeF st p []

/-- what Stat says -/
def statF (st : PStore) (p : List UInt8) : Int × Bool × Int := match found st p with
  | .not e => (0, false, e)
  | .nothing _ => (0, false, 6)
  | .file _ f => (f.time, f.dir, 0)

set_option maxHeartbeats 2000000 in
set_option maxRecDepth 100000 in
theorem stat_store (pb mb : Nat) (st : PStore) (s : ByteArray) (hs : s.size ≤ 262144) (w : World) (h : IsStore pb mb st w) :
    Calls Tryz.prog 59 #[.pointer (some ⟨pb, 0, none⟩), .string s] w fun e w' => e = .returned (.tuple #[.int .i64 (statF st s.data.toList).1, .bool (statF st s.data.toList).2.1, .int .i64 (statF st s.data.toList).2.2]) ∧ Below w.heap.size w w' := by
  have hF := findQ pb mb st s hs w h
  obtain ⟨q, t, hV⟩ : ∃ q t, (found st s.data.toList).val = .tuple #[.string q, .agg #[.string t, .int .i64 (statF st s.data.toList).1, .bool (statF st s.data.toList).2.1], .int .i64 (statF st s.data.toList).2.2] := by
    unfold statF
    cases found st s.data.toList with
    | not e => exact ⟨_, _, rfl⟩
    | nothing q => exact ⟨_, _, rfl⟩
    | file q f => exact ⟨_, _, rfl⟩
  rw [hV] at hF
  have HF := Lib.hid hF
  generalize statF st s.data.toList = r at HF ⊢
  obtain ⟨fm, fd, fe⟩ := r
  simp only at HF ⊢
  clear hF hV h
  go_enter Tryz.func59, Tryz.ntmps59
  go_wp2_with fail
  go_at_call 28
  refine HF.out.mono ?_
  rintro e w1 ⟨rfl, hb1⟩
  have hb2 := hb1.alloc hb1.size (.cells #[.string t, .int .i64 fm, .bool fd] 82)
  have hbox := heap_alloc_new w1 (.cells #[.string t, .int .i64 fm, .bool fd] 82)
  obtain ⟨x0, x1, x2, _, _, _⟩ := cells3 hbox
  have HB1 := Lib.hid hb2
  clear hb1 hb2 hbox
  go_wp2
  go_quiet (fail)
  go_wp2
  go_ret3
  exact ⟨rfl, HB1.out.trans ((belowN _ _).mono HB1.out.size)⟩
end Go.Proofs.YtpjmccajkcmmaaaGreatDoor

namespace Go.Proofs.YtpjmccajkcmmaaaGreatDoor
open Go.RowKit

def newS (n : Nat) : PStore := ⟨n, 0, [([47], ⟨[], 0, true⟩)]⟩

set_option maxHeartbeats 2000000 in
set_option maxRecDepth 100000 in
theorem new_store (n : Nat) (hn : n ≤ 1048576) (w : World) :
    Calls Tryz.prog 13 #[.int .i64 n] w fun e w' => ∃ pb mb, e = .returned (.tuple #[.pointer (some ⟨pb, 0, none⟩), .int .i64 0]) ∧ IsStore pb mb (newS n) w' ∧ Below w.heap.size w w' ∧ w.heap.size ≤ pb ∧ w.heap.size ≤ mb := by
  have h1 : ¬ (n : Int) < 0 := by omega
  have h2 : ¬ (1048576 : Int) < (n : Int) := by omega
  have hmm := @run_makeMap Tryz.prog
  have hm0 : MapAt w.heap.size [] (w.alloc (.map #[] 0)) := ⟨#[], 0, heap_alloc_new w _, rfl, by simp [Stamps]⟩
  obtain ⟨o, hup, hma⟩ := update_run hm0 [47] ⟨[], 0, true⟩
  replace hup : (Instr.mapUpdate 83 (.map (some w.heap.size)) (.string ⟨#[47]⟩) (.agg #[.string ⟨#[]⟩, .int .i64 0, .bool true])).run Tryz.prog (w.alloc (.map #[] 0)) = .ok () { (w.alloc (.map #[] 0)) with heap := (w.alloc (.map #[] 0)).heap.setIfInBounds w.heap.size o } := hup
  obtain ⟨w2, hw2⟩ : ∃ w2, w2 = { (w.alloc (.map #[] 0)) with heap := (w.alloc (.map #[] 0)).heap.setIfInBounds w.heap.size o } := ⟨_, rfl⟩
  rw [← hw2] at hup hma
  have hs2 : w2.heap.size = w.heap.size + 1 := by rw [hw2]; simp
  have hB2 : Below w.heap.size w w2 := by
    rw [hw2]
    refine ((Below.refl _ w).alloc (Nat.le_refl _) (.map #[] 0)).trans ⟨rfl, rfl, rfl, by simp, fun k hk => ?_⟩
    exact Array.getElem?_setIfInBounds_ne (by omega)
  have HF : Hid (IsStore (w.heap.size + 1) w.heap.size (newS n) (w2.alloc (.cells #[.int .i64 n, .int .i64 0, .int .i64 0, .map (some w.heap.size), .bool false, .slice none 0 0] 90)) ∧ Below w.heap.size w (w2.alloc (.cells #[.int .i64 n, .int .i64 0, .int .i64 0, .map (some w.heap.size), .bool false, .slice none 0 0] 90))) := Lib.hid (by
    refine ⟨⟨⟨hn, Nat.zero_le _, (by show IntKind.i64.wrap 0 = 0; decide), ?_, (by simp [newS]), (fun x hx => by simp [newS] at hx; subst hx; simp)⟩, ?_, ?_⟩, hB2.alloc (by omega) _⟩
    · intro x hx
      simp [newS] at hx
      subst hx
      decide
    · rw [← hs2]
      exact heap_alloc_new w2 _
    · obtain ⟨es, mc, q1, q2⟩ := hma
      exact ⟨es, mc, (Below.heap_alloc w2 _ _ (by omega)).trans q1, q2⟩)
  clear hm0 hma hw2 hB2
  go_enter Tryz.func13, Tryz.ntmps13
  go_wp2
  go_ret2
  exact ⟨w.heap.size + 1, rfl, w.heap.size, HF.out.1, HF.out.2, by omega, Nat.le_refl _⟩
end Go.Proofs.YtpjmccajkcmmaaaGreatDoor
