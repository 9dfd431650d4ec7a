/- sh.Proc.does: a command with its redirections. Printed by wip/gendoes.py. -/
import Derived.Test.YtmagggflamdahaaGreatDoorSj
import Derived.StillTailTactics
namespace Go.Proofs.YtmagggflamdahaaGreatDoor
open Go.RowKit

theorem IsProc.lt {K : Nat → Prop} {pb : Nat} {v : Value} {pr : PProc} {w : World} (h : IsProc K pb v pr w) : pb < w.heap.size := by
  obtain ⟨lv, p, h1, h2⟩ := h.cells
  exact h1.lt
theorem IsProc.frozen {K : Nat → Prop} {pb : Nat} {v : Value} {pr : PProc} {w : World} (h : IsProc K pb v pr w) (j : Nat) : w.frozen? ⟨pb, j, none⟩ = false := by
  obtain ⟨lv, p, h1, h2⟩ := h.cells
  exact Lib.frozen_of_heap h1.heap j
theorem IsProc.c2 {K : Nat → Prop} {pb : Nat} {v : Value} {pr : PProc} {w : World} (h : IsProc K pb v pr w) : w.cell? ⟨pb, 2, none⟩ = some (.int .i64 pr.status) := by
  obtain ⟨lv, p, h1, h2⟩ := h.cells
  exact Lib.cell_of_heap h1.heap 2
/-- the status set -/
theorem IsProc.put {K : Nat → Prop} {pb : Nat} {v : Value} {pr : PProc} {w : World} (h : IsProc K pb v pr w) (n : Int) : IsProc K pb v ⟨pr.left, n, pr.said⟩ (w.setCell ⟨pb, 2, none⟩ (.int .i64 n)) := by
  obtain ⟨lv, p, h1, h2⟩ := h.cells
  refine ⟨⟨lv, p, ⟨by simpa using heap_set h1.heap 2 (.int .i64 n), h1.addr, h1.buf, ownsRowF_heap h1.own (fun k hk => Below.heap_setCell w ⟨pb, 2, none⟩ _ k (fun e => h1.apart (by decide) (by rw [hk, e])))⟩, ?_⟩, h.apart⟩
  exact h2.keep (fun k hK _ => Below.heap_setCell w ⟨pb, 2, none⟩ _ k (h.apart k hK).1)
/-- more is said -/
theorem IsProc.say {K : Nat → Prop} {pb : Nat} {v : Value} {pr : PProc} (w : World) (h : IsProc K pb v pr w) (hK : ∀ k, K k → k < w.heap.size) (s : ByteArray) (hlen : pr.said.length + s.size ≤ 140737488355328) :
    Calls Tryz.prog 59 #[.pointer (some ⟨pb, 3, none⟩), .string s] w fun e w' => e = .returned (.tuple #[.int .i64 s.size, .nilIface]) ∧
      ∃ v', IsProc K pb v' ⟨pr.left, pr.status, pr.said ++ s.data.toList⟩ w' ∧ RowFrom w.heap.size v v' ∧ Keeps w.heap.size (fun k => k = pb ∨ v.ownBlock = some k) w w' := by
  obtain ⟨lv, p, h1, h2⟩ := h.cells
  refine (writeString_any w BLies.proc h1 s hlen).mono ?_
  rintro e w' ⟨rfl, v', hb, hr, hk⟩
  refine ⟨rfl, v', ⟨⟨lv, _, by simpa using hb, h2.keep (fun k hKk hl => hk.block k hl (by
    rintro (rfl | hv)
    · exact (h.apart _ hKk).1 rfl
    · exact (h.apart _ hKk).2 hv))⟩, fun k hKk => ⟨(h.apart k hKk).1, fun hv => ?_⟩⟩, hr, hk⟩
  rcases hr k hv with h' | h'
  · exact (h.apart k hKk).2 h'
  · have := hK k hKk; omega

/-- what a command reads -/
def inOf (st : PStore) : Option (List UInt8) → Option (List UInt8)
  | none => some []
  | some p => if (readF st p).2 = 0 then some (readF st p).1 else none
/-- what is done with what it says -/
def doesOut (st : PStore) (left : List PCmd) (n : Int) (t said : List UInt8) (out : Option (List UInt8)) (add : Bool) : PStore × PProc := match out with
  | none => (st, ⟨left, n, said ++ t.take (65536 - said.length)⟩)
  | some p => ((if add then appendF st p t else writeF st p t).1, ⟨left, if (if add then appendF st p t else writeF st p t).2 = 0 then n else 1, said⟩)

set_option maxHeartbeats 8000000 in
set_option maxRecDepth 100000 in
theorem does_none_none {K : Nat → Prop} {ppb pb mb : Nat} {v wv : Value} (pr : PProc) (st : PStore) (op : List UInt8) (words : List (List UInt8)) (add : Bool) (w : World) (hp : IsProc K ppb v pr w) (hs : IsStore pb mb st w) (hK : ∀ k, K k → k < w.heap.size) (hap : ∀ k, k = pb ∨ k = mb → k ≠ ppb ∧ v.ownBlock ≠ some k ∧ ¬ K k) (hsaid : pr.said.length ≤ 65536) (hwv : StrsAt K w wv words) (n : Int) (t : List UInt8) (ht : t.length ≤ 1073741824) (st1 : PStore) (left1 : List PCmd) (hrun : ∀ W, IsStore pb mb st W → IsProc K ppb v pr W → StrsAt K W wv words → Below w.heap.size w W → Calls Tryz.prog 58 #[.pointer (some ⟨ppb, 0, none⟩), wv, .string ⟨#[]⟩, .pointer (some ⟨pb, 0, none⟩)] W fun e W' => e = .returned (.tuple #[.int .i64 n, .string ⟨t.toArray⟩]) ∧ IsStore pb mb st1 W' ∧ IsProc K ppb v ⟨left1, pr.status, pr.said⟩ W' ∧ Keeps W.heap.size (fun k => k = pb ∨ k = mb ∨ k = ppb) W W') :
    Calls Tryz.prog 37 #[.pointer (some ⟨ppb, 0, none⟩), .agg #[strV op, wv, .pointer none, .pointer none, .bool add], .pointer (some ⟨pb, 0, none⟩)] w fun e w' => e = .returned (.tuple #[]) ∧ IsStore pb mb (doesOut st1 left1 n t pr.said none add).1 w' ∧ (∃ v', IsProc K ppb v' (doesOut st1 left1 n t pr.said none add).2 w' ∧ RowFrom w.heap.size v v') ∧ Keeps w.heap.size (fun k => k = pb ∨ k = mb ∨ k = ppb ∨ v.ownBlock = some k) w w' := by
  have hpp := hp.lt
  have hlp := hs.ltp
  have hlm := hs.ltm
  obtain ⟨bx, hbx⟩ : ∃ bx, bx = Obj.cells #[strV op, wv, .pointer none, .pointer none, .bool add] 90 := ⟨_, rfl⟩
  have hB0 : Below w.heap.size w (w.alloc bx) := (Below.refl _ _).alloc (Nat.le_refl _) _
  have hx0 : (w.alloc bx).heap[w.heap.size]? = some bx := heap_alloc_new w bx
  have hp0 := hp.below hB0
  have hs0 := hs.below hB0
  have hwv0 : StrsAt K (w.alloc bx) wv words := SlAt.keep hwv (fun k _ hl => hB0.block k hl)
  have hz0 : (w.alloc bx).heap.size = w.heap.size + 1 := by simp
  obtain ⟨w1, hw1⟩ : ∃ w1, w1 = w.alloc bx := ⟨_, rfl⟩
  have c2 : (w.alloc bx).cell? ⟨w.heap.size, 2, none⟩ = some (.pointer none) := by rw [hbx] at hx0 ⊢; exact Lib.cell_of_heap hx0 2
  have HR := Lib.hid (hrun _ hs0 hp0 hwv0 hB0)
  have c1 : (w.alloc bx).cell? ⟨w.heap.size, 1, none⟩ = some wv := by rw [hbx] at hx0 ⊢; exact Lib.cell_of_heap hx0 1
  rw [← hw1] at hx0 hB0 hz0 hp0 hs0
  have hKs : ∀ k, K k → k ≠ pb ∧ k ≠ mb ∧ k ≠ ppb := fun k hk => ⟨fun e => (hap k (.inl e)).2.2 hk, fun e => (hap k (.inr e)).2.2 hk, (hp.apart k hk).1⟩
  have HX := Lib.hid hx0
  have hz1 : Hid (w.heap.size + 1 ≤ w1.heap.size) := Lib.hid (by omega)
  have HB0 : Hid (Keeps w.heap.size (fun k => k = pb ∨ k = mb ∨ k = ppb ∨ v.ownBlock = some k) w w1) := Lib.hid (Keeps.of hB0 _)
  clear hz0 hrun hx0 hB0 hp0 hs0 hwv0 hs hp hwv
  rw [hbx] at c1 c2 HR
  go_enter Tryz.func37, Tryz.ntmps37
  go_wp2_with fail
  go_at_call 58
  refine HR.out.mono ?_
  rintro e w2 ⟨rfl, hs2, hp2, hk2⟩
  rw [← hbx, ← hw1] at hk2
  have hx2 : w2.heap[w.heap.size]? = some bx := (hk2.block _ (by have := hz1.out; omega) (by omega)).trans HX.out
  obtain ⟨w3, hw3⟩ : ∃ w3, w3 = w2.setCell ⟨ppb, 2, none⟩ (.int .i64 n) := ⟨_, rfl⟩
  have hset : ∀ k, k ≠ ppb → w3.heap[k]? = w2.heap[k]? := fun k hk => by rw [hw3]; exact Below.heap_setCell w2 ⟨ppb, 2, none⟩ _ k hk
  have hp3 : IsProc K ppb v ⟨left1, n, pr.said⟩ w3 := by rw [hw3]; exact hp2.put n
  have hs3 : IsStore pb mb st1 w3 := hs2.keep (fun k hk => hset k (hap k hk).1)
  have hx3 : w3.heap[w.heap.size]? = some bx := (hset _ (by omega)).trans hx2
  have d2 := hp2.c2
  have f2 := hp2.frozen 2
  have hsz3 : w3.heap.size = w2.heap.size := by rw [hw3]; simp [World.setCell]
  have hk3 : Keeps w.heap.size (fun k => k = pb ∨ k = mb ∨ k = ppb ∨ v.ownBlock = some k) w w3 := by
    rw [hw3]
    exact Keeps.setCell ((HB0.out).trans ((hk2.mono (by have := hz1.out; omega) (by intro k _ hk; rcases hk with h | h | h; exact Or.inl h; exact Or.inr (Or.inl h); exact Or.inr (Or.inr (Or.inl h)))))) (.inr (.inr (.inr (.inl rfl)))) _
  have HP3 := Lib.hid hp3
  have HS3 := Lib.hid hs3
  have HX3 := Lib.hid hx3
  have HK3 := Lib.hid hk3
  have HSZ := Lib.hid (show w.heap.size + 1 ≤ w3.heap.size by rw [hsz3]; have := hk2.size; have := hz1.out; omega)
  have d3 : (w2.setCell ⟨ppb, 2, none⟩ (.int .i64 n)).cell? ⟨w.heap.size, 3, none⟩ = some (.pointer none) := by rw [← hw3]; rw [hbx] at hx3; exact Lib.cell_of_heap hx3 3
  have HL : Hid (Calls Tryz.prog 60 #[.pointer (some ⟨ppb, 3, none⟩)] w3.drew fun e w' => e = .returned (.int .i64 pr.said.length) ∧ w' = w3.drew) := Lib.hid (by
    obtain ⟨lv, pp, h1, h2⟩ := hp3.cells
    exact (bldLen_any w3.drew (h1.keep (fun _ _ => rfl))).mono fun _ _ ⟨h, k⟩ => ⟨h, k.symm⟩)
  have HW := Lib.hid (IsProc.say w3.drew (hp3.keep (w' := w3.drew) (fun _ _ _ => rfl)) (fun k hk => by show k < w3.heap.size; have := hK k hk; have := HSZ.out; omega) ((⟨t.toArray⟩ : ByteArray).extract 0 (min (t.length : Int) (65536 - (pr.said.length : Int))).toNat) (by
    show pr.said.length + _ ≤ _
    simp only [ByteArray.size_extract]
    show _ + (min _ t.toArray.size - 0) ≤ _
    simp only [List.size_toArray]
    omega))
  have HSL : Hid (((⟨t.toArray⟩ : ByteArray).extract 0 (min (t.length : Int) (65536 - (pr.said.length : Int))).toNat).data.toList = t.take (65536 - pr.said.length)) := Lib.hid (by
    rw [Lib.extract_data]
    show (t.drop 0).take _ = _
    rw [List.drop_zero]
    by_cases hle : t.length ≤ 65536 - pr.said.length
    · rw [List.take_of_length_le hle, List.take_of_length_le (by omega)]
    · congr 1
      omega)
  have hmn : 0 ≤ min (t.length : Int) (65536 - (pr.said.length : Int)) ∧ min (t.length : Int) (65536 - (pr.said.length : Int)) ≤ (t.length : Int) := by omega
  clear hs2 hp2 hk2 hx2 hset hp3 hs3 hx3 hsz3 hk3 HR HX HB0
  go_wp2_with (fail)
  rw [← hw3]
  clear d2 d3 f2 hw3
  have hwr : IntKind.i64.wrap (65536 - (pr.said.length : Int)) = 65536 - (pr.said.length : Int) := by rw [IntKind.wrap_i64]; omega
  refine wp_region_still_tail 13 (by kernel_rfl) (by kernel_rfl) ?_
  simp only [List.take_succ_cons, List.take_zero, List.drop_succ_cons, List.drop_zero]
  repeat still_step
  still_call HL.out
  repeat still_step
  refine wpStill_nil ?_
  change wpList _ _ _ _ _ w3.drew
  go_wp2_with fail
  go_at_call 59
  refine HW.out.mono ?_
  rintro e w4 ⟨rfl, v', h1, h2, h3⟩
  rw [HSL.out] at h1
  have H1 := Lib.hid h1
  have H2 := Lib.hid h2
  have H3 := Lib.hid h3
  clear h1 h2 h3
  go_wp2
  (try simp only [Exit.inBlock, Exit.then])
  refine bodyPost_ret (results_none rfl _ _ _) rfl ?_
  refine ⟨rfl, ?_, ⟨v', H1.out, H2.out.mono (by show w.heap.size ≤ w3.heap.size; have := HSZ.out; omega)⟩, HK3.out.drew.trans (Keeps.mono (M' := fun k => k = pb ∨ k = mb ∨ k = ppb ∨ v.ownBlock = some k) H3.out (by show w.heap.size ≤ w3.heap.size; have := HSZ.out; omega) (fun k _ hk => Or.elim hk (fun e => Or.inr (Or.inr (Or.inl e))) (fun e => Or.inr (Or.inr (Or.inr e)))))⟩
  exact HS3.out.keep (fun k hk => (H3.out.block k (by show k < w3.heap.size; have := HSZ.out; have := hap k hk; rcases hk with rfl | rfl <;> omega) (fun hh => hh.elim (hap k hk).1 (hap k hk).2.1)))
set_option maxHeartbeats 8000000 in
set_option maxRecDepth 100000 in
theorem does_none_write {K : Nat → Prop} {ppb pb mb : Nat} {v wv ov : Value} (pr : PProc) (st : PStore) (op : List UInt8) (words : List (List UInt8)) (w : World) (hp : IsProc K ppb v pr w) (hs : IsStore pb mb st w) (hK : ∀ k, K k → k < w.heap.size) (hap : ∀ k, k = pb ∨ k = mb → k ≠ ppb ∧ v.ownBlock ≠ some k ∧ ¬ K k) (hwv : StrsAt K w wv words) (q : List UInt8) (hql : q.length ≤ 262144) (hov : PtrAt K w ov (some q)) (n : Int) (t : List UInt8) (ht : t.length ≤ 1073741824) (st1 : PStore) (left1 : List PCmd) (hrun : ∀ W, IsStore pb mb st W → IsProc K ppb v pr W → StrsAt K W wv words → Below w.heap.size w W → Calls Tryz.prog 58 #[.pointer (some ⟨ppb, 0, none⟩), wv, .string ⟨#[]⟩, .pointer (some ⟨pb, 0, none⟩)] W fun e W' => e = .returned (.tuple #[.int .i64 n, .string ⟨t.toArray⟩]) ∧ IsStore pb mb st1 W' ∧ IsProc K ppb v ⟨left1, pr.status, pr.said⟩ W' ∧ Keeps W.heap.size (fun k => k = pb ∨ k = mb ∨ k = ppb) W W') :
    Calls Tryz.prog 37 #[.pointer (some ⟨ppb, 0, none⟩), .agg #[strV op, wv, .pointer none, ov, .bool false], .pointer (some ⟨pb, 0, none⟩)] w fun e w' => e = .returned (.tuple #[]) ∧ IsStore pb mb (doesOut st1 left1 n t pr.said (some q) false).1 w' ∧ (∃ v', IsProc K ppb v' (doesOut st1 left1 n t pr.said (some q) false).2 w' ∧ RowFrom w.heap.size v v') ∧ Keeps w.heap.size (fun k => k = pb ∨ k = mb ∨ k = ppb ∨ v.ownBlock = some k) w w' := by
  obtain ⟨ob, ofr, rfl, hKob, hob⟩ := hov
  have HAP : Hid (∀ k, K k → v.ownBlock ≠ some k) := Lib.hid (fun k hk => (hp.apart k hk).2)
  have hpp := hp.lt
  have hlp := hs.ltp
  have hlm := hs.ltm
  obtain ⟨bx, hbx⟩ : ∃ bx, bx = Obj.cells #[strV op, wv, .pointer none, .pointer (some ⟨ob, 0, none⟩), .bool false] 90 := ⟨_, rfl⟩
  have hB0 : Below w.heap.size w (w.alloc bx) := (Below.refl _ _).alloc (Nat.le_refl _) _
  have hx0 : (w.alloc bx).heap[w.heap.size]? = some bx := heap_alloc_new w bx
  have hp0 := hp.below hB0
  have hs0 := hs.below hB0
  have hwv0 : StrsAt K (w.alloc bx) wv words := SlAt.keep hwv (fun k _ hl => hB0.block k hl)
  have hz0 : (w.alloc bx).heap.size = w.heap.size + 1 := by simp
  obtain ⟨w1, hw1⟩ : ∃ w1, w1 = w.alloc bx := ⟨_, rfl⟩
  have c2 : (w.alloc bx).cell? ⟨w.heap.size, 2, none⟩ = some (.pointer none) := by rw [hbx] at hx0 ⊢; exact Lib.cell_of_heap hx0 2
  have HR := Lib.hid (hrun _ hs0 hp0 hwv0 hB0)
  have c1 : (w.alloc bx).cell? ⟨w.heap.size, 1, none⟩ = some wv := by rw [hbx] at hx0 ⊢; exact Lib.cell_of_heap hx0 1
  rw [← hw1] at hx0 hB0 hz0 hp0 hs0
  have hKs : ∀ k, K k → k ≠ pb ∧ k ≠ mb ∧ k ≠ ppb := fun k hk => ⟨fun e => (hap k (.inl e)).2.2 hk, fun e => (hap k (.inr e)).2.2 hk, (hp.apart k hk).1⟩
  have HX := Lib.hid hx0
  have hz1 : Hid (w.heap.size + 1 ≤ w1.heap.size) := Lib.hid (by omega)
  have HB0 : Hid (Keeps w.heap.size (fun k => k = pb ∨ k = mb ∨ k = ppb ∨ v.ownBlock = some k) w w1) := Lib.hid (Keeps.of hB0 _)
  clear hz0 hrun hx0 hB0 hp0 hs0 hwv0 hs hp hwv
  rw [hbx] at c1 c2 HR
  go_enter Tryz.func37, Tryz.ntmps37
  go_wp2_with fail
  go_at_call 58
  refine HR.out.mono ?_
  rintro e w2 ⟨rfl, hs2, hp2, hk2⟩
  rw [← hbx, ← hw1] at hk2
  have hx2 : w2.heap[w.heap.size]? = some bx := (hk2.block _ (by have := hz1.out; omega) (by omega)).trans HX.out
  obtain ⟨w3, hw3⟩ : ∃ w3, w3 = w2.setCell ⟨ppb, 2, none⟩ (.int .i64 n) := ⟨_, rfl⟩
  have hset : ∀ k, k ≠ ppb → w3.heap[k]? = w2.heap[k]? := fun k hk => by rw [hw3]; exact Below.heap_setCell w2 ⟨ppb, 2, none⟩ _ k hk
  have hp3 : IsProc K ppb v ⟨left1, n, pr.said⟩ w3 := by rw [hw3]; exact hp2.put n
  have hs3 : IsStore pb mb st1 w3 := hs2.keep (fun k hk => hset k (hap k hk).1)
  have hx3 : w3.heap[w.heap.size]? = some bx := (hset _ (by omega)).trans hx2
  have d2 := hp2.c2
  have f2 := hp2.frozen 2
  have hsz3 : w3.heap.size = w2.heap.size := by rw [hw3]; simp [World.setCell]
  have hk3 : Keeps w.heap.size (fun k => k = pb ∨ k = mb ∨ k = ppb ∨ v.ownBlock = some k) w w3 := by
    rw [hw3]
    exact Keeps.setCell ((HB0.out).trans ((hk2.mono (by have := hz1.out; omega) (by intro k _ hk; rcases hk with h | h | h; exact Or.inl h; exact Or.inr (Or.inl h); exact Or.inr (Or.inr (Or.inl h)))))) (.inr (.inr (.inr (.inl rfl)))) _
  have HP3 := Lib.hid hp3
  have HS3 := Lib.hid hs3
  have HX3 := Lib.hid hx3
  have HK3 := Lib.hid hk3
  have HSZ := Lib.hid (show w.heap.size + 1 ≤ w3.heap.size by rw [hsz3]; have := hk2.size; have := hz1.out; omega)
  have d3 : (w2.setCell ⟨ppb, 2, none⟩ (.int .i64 n)).cell? ⟨w.heap.size, 3, none⟩ = some (.pointer (some ⟨ob, 0, none⟩)) := by rw [← hw3]; rw [hbx] at hx3; exact Lib.cell_of_heap hx3 3
  have d4 : (w2.setCell ⟨ppb, 2, none⟩ (.int .i64 n)).cell? ⟨w.heap.size, 4, none⟩ = some (.bool false) := by rw [← hw3]; rw [hbx] at hx3; exact Lib.cell_of_heap hx3 4
  have hob3 : w3.heap[ob]? = some (.cells #[strV q] 9 ofr) := (hset ob (hKs ob hKob).2.2).trans ((hk2.block ob (by have := hz1.out; have := hK ob hKob; omega) (by have := hKs ob hKob; omega)).trans ((HB0.out.block ob (hK ob hKob) (by rintro (e | e | e | e); exact (hKs ob hKob).1 e; exact (hKs ob hKob).2.1 e; exact (hKs ob hKob).2.2 e; exact HAP.out ob hKob e)).trans hob))
  have dq : (w2.setCell ⟨ppb, 2, none⟩ (.int .i64 n)).cell? ⟨ob, 0, none⟩ = some (.string ⟨q.toArray⟩) := by rw [← hw3]; exact Lib.cell_of_heap hob3 0
  have HW : Hid (Calls Tryz.prog 32 #[.pointer (some ⟨pb, 0, none⟩), .string ⟨q.toArray⟩, .string ⟨t.toArray⟩] w3 fun e w' => e = .returned (.int .i64 (writeF st1 q t).2) ∧ IsStore pb mb (writeF st1 q t).1 w' ∧ Keeps w3.heap.size (fun k => k = pb ∨ k = mb) w3 w') := Lib.hid (write_store pb mb st1 ⟨q.toArray⟩ ⟨t.toArray⟩ (by show q.toArray.size ≤ _; simpa using hql) (by show t.toArray.size ≤ _; simp; omega) w3 hs3)
  have HD : Hid (doesOut st1 left1 n t pr.said (some q) false = ((writeF st1 q t).1, ⟨left1, if (writeF st1 q t).2 = 0 then n else 1, pr.said⟩)) := Lib.hid rfl
  generalize writeF st1 q t = r at HW HD
  obtain ⟨st2, er⟩ := r
  simp only at HW HD
  clear hs2 hp2 hk2 hx2 hset hp3 hs3 hx3 hsz3 hk3 HR HX HB0 hob hob3
  rw [hw3] at HW
  go_wp2_with fail
  go_at_call 32
  refine HW.out.mono ?_
  rw [← hw3]
  rintro e w4 ⟨rfl, hs4, hk4⟩
  have hp4 : IsProc K ppb v ⟨left1, n, pr.said⟩ w4 := HP3.out.keep (fun k hk hl => hk4.block k hl (by
    rintro (e | e)
    · rcases hk with h | h | h
      · exact (hap k (.inl e)).1 h
      · exact (hap k (.inl e)).2.1 h
      · exact (hap k (.inl e)).2.2 h
    · rcases hk with h | h | h
      · exact (hap k (.inr e)).1 h
      · exact (hap k (.inr e)).2.1 h
      · exact (hap k (.inr e)).2.2 h))
  have hK4 : Keeps w.heap.size (fun k => k = pb ∨ k = mb ∨ k = ppb ∨ v.ownBlock = some k) w w4 := HK3.out.trans (Keeps.mono (M' := fun k => k = pb ∨ k = mb ∨ k = ppb ∨ v.ownBlock = some k) hk4 (by have := HSZ.out; omega) (fun k _ hk => Or.elim hk (fun e => Or.inl e) (fun e => Or.inr (Or.inl e))))
  by_cases he : er = 0
  · have hne : (er != 0) = false := by rw [he]; rfl
    rw [if_pos he] at HD
    have HP4 := Lib.hid hp4
    have HS4 := Lib.hid hs4
    have HK4 := Lib.hid hK4
    clear hp4 hs4 hk4 hK4 d2 d3 d4 dq f2 hw3 he
    go_wp2
    go_end0
    exact ⟨rfl, by rw [HD.out]; exact HS4.out, ⟨v, by rw [HD.out]; exact HP4.out, RowFrom.refl _ _⟩, HK4.out⟩
  · have hne : (er != 0) = true := by simpa using he
    rw [if_neg he] at HD
    have g2 := hp4.c2
    have gf := hp4.frozen 2
    have HP4 := Lib.hid (hp4.put 1)
    have HS4 : Hid (IsStore pb mb st2 (w4.setCell ⟨ppb, 2, none⟩ (.int .i64 1))) := Lib.hid (hs4.keep (fun k hk => Below.heap_setCell w4 ⟨ppb, 2, none⟩ _ k (hap k hk).1))
    have HK4 := Lib.hid (hK4.setCell (p := ⟨ppb, 2, none⟩) (.inr (.inr (.inr (.inl rfl)))) (.int .i64 1))
    clear hp4 hs4 hk4 hK4 d2 d3 d4 dq f2 hw3 he
    go_wp2
    go_end0
    exact ⟨rfl, by rw [HD.out]; exact HS4.out, ⟨v, by rw [HD.out]; exact HP4.out, RowFrom.refl _ _⟩, HK4.out⟩

set_option maxHeartbeats 8000000 in
set_option maxRecDepth 100000 in
theorem does_none_append {K : Nat → Prop} {ppb pb mb : Nat} {v wv ov : Value} (pr : PProc) (st : PStore) (op : List UInt8) (words : List (List UInt8)) (w : World) (hp : IsProc K ppb v pr w) (hs : IsStore pb mb st w) (hK : ∀ k, K k → k < w.heap.size) (hap : ∀ k, k = pb ∨ k = mb → k ≠ ppb ∧ v.ownBlock ≠ some k ∧ ¬ K k) (hwv : StrsAt K w wv words) (q : List UInt8) (hql : q.length ≤ 262144) (hov : PtrAt K w ov (some q)) (n : Int) (t : List UInt8) (ht : t.length ≤ 1073741824) (st1 : PStore) (left1 : List PCmd) (hrun : ∀ W, IsStore pb mb st W → IsProc K ppb v pr W → StrsAt K W wv words → Below w.heap.size w W → Calls Tryz.prog 58 #[.pointer (some ⟨ppb, 0, none⟩), wv, .string ⟨#[]⟩, .pointer (some ⟨pb, 0, none⟩)] W fun e W' => e = .returned (.tuple #[.int .i64 n, .string ⟨t.toArray⟩]) ∧ IsStore pb mb st1 W' ∧ IsProc K ppb v ⟨left1, pr.status, pr.said⟩ W' ∧ Keeps W.heap.size (fun k => k = pb ∨ k = mb ∨ k = ppb) W W') :
    Calls Tryz.prog 37 #[.pointer (some ⟨ppb, 0, none⟩), .agg #[strV op, wv, .pointer none, ov, .bool true], .pointer (some ⟨pb, 0, none⟩)] w fun e w' => e = .returned (.tuple #[]) ∧ IsStore pb mb (doesOut st1 left1 n t pr.said (some q) true).1 w' ∧ (∃ v', IsProc K ppb v' (doesOut st1 left1 n t pr.said (some q) true).2 w' ∧ RowFrom w.heap.size v v') ∧ Keeps w.heap.size (fun k => k = pb ∨ k = mb ∨ k = ppb ∨ v.ownBlock = some k) w w' := by
  obtain ⟨ob, ofr, rfl, hKob, hob⟩ := hov
  have HAP : Hid (∀ k, K k → v.ownBlock ≠ some k) := Lib.hid (fun k hk => (hp.apart k hk).2)
  have hpp := hp.lt
  have hlp := hs.ltp
  have hlm := hs.ltm
  obtain ⟨bx, hbx⟩ : ∃ bx, bx = Obj.cells #[strV op, wv, .pointer none, .pointer (some ⟨ob, 0, none⟩), .bool true] 90 := ⟨_, rfl⟩
  have hB0 : Below w.heap.size w (w.alloc bx) := (Below.refl _ _).alloc (Nat.le_refl _) _
  have hx0 : (w.alloc bx).heap[w.heap.size]? = some bx := heap_alloc_new w bx
  have hp0 := hp.below hB0
  have hs0 := hs.below hB0
  have hwv0 : StrsAt K (w.alloc bx) wv words := SlAt.keep hwv (fun k _ hl => hB0.block k hl)
  have hz0 : (w.alloc bx).heap.size = w.heap.size + 1 := by simp
  obtain ⟨w1, hw1⟩ : ∃ w1, w1 = w.alloc bx := ⟨_, rfl⟩
  have c2 : (w.alloc bx).cell? ⟨w.heap.size, 2, none⟩ = some (.pointer none) := by rw [hbx] at hx0 ⊢; exact Lib.cell_of_heap hx0 2
  have HR := Lib.hid (hrun _ hs0 hp0 hwv0 hB0)
  have c1 : (w.alloc bx).cell? ⟨w.heap.size, 1, none⟩ = some wv := by rw [hbx] at hx0 ⊢; exact Lib.cell_of_heap hx0 1
  rw [← hw1] at hx0 hB0 hz0 hp0 hs0
  have hKs : ∀ k, K k → k ≠ pb ∧ k ≠ mb ∧ k ≠ ppb := fun k hk => ⟨fun e => (hap k (.inl e)).2.2 hk, fun e => (hap k (.inr e)).2.2 hk, (hp.apart k hk).1⟩
  have HX := Lib.hid hx0
  have hz1 : Hid (w.heap.size + 1 ≤ w1.heap.size) := Lib.hid (by omega)
  have HB0 : Hid (Keeps w.heap.size (fun k => k = pb ∨ k = mb ∨ k = ppb ∨ v.ownBlock = some k) w w1) := Lib.hid (Keeps.of hB0 _)
  clear hz0 hrun hx0 hB0 hp0 hs0 hwv0 hs hp hwv
  rw [hbx] at c1 c2 HR
  go_enter Tryz.func37, Tryz.ntmps37
  go_wp2_with fail
  go_at_call 58
  refine HR.out.mono ?_
  rintro e w2 ⟨rfl, hs2, hp2, hk2⟩
  rw [← hbx, ← hw1] at hk2
  have hx2 : w2.heap[w.heap.size]? = some bx := (hk2.block _ (by have := hz1.out; omega) (by omega)).trans HX.out
  obtain ⟨w3, hw3⟩ : ∃ w3, w3 = w2.setCell ⟨ppb, 2, none⟩ (.int .i64 n) := ⟨_, rfl⟩
  have hset : ∀ k, k ≠ ppb → w3.heap[k]? = w2.heap[k]? := fun k hk => by rw [hw3]; exact Below.heap_setCell w2 ⟨ppb, 2, none⟩ _ k hk
  have hp3 : IsProc K ppb v ⟨left1, n, pr.said⟩ w3 := by rw [hw3]; exact hp2.put n
  have hs3 : IsStore pb mb st1 w3 := hs2.keep (fun k hk => hset k (hap k hk).1)
  have hx3 : w3.heap[w.heap.size]? = some bx := (hset _ (by omega)).trans hx2
  have d2 := hp2.c2
  have f2 := hp2.frozen 2
  have hsz3 : w3.heap.size = w2.heap.size := by rw [hw3]; simp [World.setCell]
  have hk3 : Keeps w.heap.size (fun k => k = pb ∨ k = mb ∨ k = ppb ∨ v.ownBlock = some k) w w3 := by
    rw [hw3]
    exact Keeps.setCell ((HB0.out).trans ((hk2.mono (by have := hz1.out; omega) (by intro k _ hk; rcases hk with h | h | h; exact Or.inl h; exact Or.inr (Or.inl h); exact Or.inr (Or.inr (Or.inl h)))))) (.inr (.inr (.inr (.inl rfl)))) _
  have HP3 := Lib.hid hp3
  have HS3 := Lib.hid hs3
  have HX3 := Lib.hid hx3
  have HK3 := Lib.hid hk3
  have HSZ := Lib.hid (show w.heap.size + 1 ≤ w3.heap.size by rw [hsz3]; have := hk2.size; have := hz1.out; omega)
  have d3 : (w2.setCell ⟨ppb, 2, none⟩ (.int .i64 n)).cell? ⟨w.heap.size, 3, none⟩ = some (.pointer (some ⟨ob, 0, none⟩)) := by rw [← hw3]; rw [hbx] at hx3; exact Lib.cell_of_heap hx3 3
  have d4 : (w2.setCell ⟨ppb, 2, none⟩ (.int .i64 n)).cell? ⟨w.heap.size, 4, none⟩ = some (.bool true) := by rw [← hw3]; rw [hbx] at hx3; exact Lib.cell_of_heap hx3 4
  have hob3 : w3.heap[ob]? = some (.cells #[strV q] 9 ofr) := (hset ob (hKs ob hKob).2.2).trans ((hk2.block ob (by have := hz1.out; have := hK ob hKob; omega) (by have := hKs ob hKob; omega)).trans ((HB0.out.block ob (hK ob hKob) (by rintro (e | e | e | e); exact (hKs ob hKob).1 e; exact (hKs ob hKob).2.1 e; exact (hKs ob hKob).2.2 e; exact HAP.out ob hKob e)).trans hob))
  have dq : (w2.setCell ⟨ppb, 2, none⟩ (.int .i64 n)).cell? ⟨ob, 0, none⟩ = some (.string ⟨q.toArray⟩) := by rw [← hw3]; exact Lib.cell_of_heap hob3 0
  have HW : Hid (Calls Tryz.prog 61 #[.pointer (some ⟨pb, 0, none⟩), .string ⟨q.toArray⟩, .string ⟨t.toArray⟩] w3 fun e w' => e = .returned (.int .i64 (appendF st1 q t).2) ∧ IsStore pb mb (appendF st1 q t).1 w' ∧ Keeps w3.heap.size (fun k => k = pb ∨ k = mb) w3 w') := Lib.hid (append_store pb mb st1 ⟨q.toArray⟩ ⟨t.toArray⟩ (by show q.toArray.size ≤ _; simpa using hql) (by show t.toArray.size ≤ _; simp; omega) w3 hs3)
  have HD : Hid (doesOut st1 left1 n t pr.said (some q) true = ((appendF st1 q t).1, ⟨left1, if (appendF st1 q t).2 = 0 then n else 1, pr.said⟩)) := Lib.hid rfl
  generalize appendF st1 q t = r at HW HD
  obtain ⟨st2, er⟩ := r
  simp only at HW HD
  clear hs2 hp2 hk2 hx2 hset hp3 hs3 hx3 hsz3 hk3 HR HX HB0 hob hob3
  rw [hw3] at HW
  go_wp2_with fail
  go_at_call 61
  refine HW.out.mono ?_
  rw [← hw3]
  rintro e w4 ⟨rfl, hs4, hk4⟩
  have hp4 : IsProc K ppb v ⟨left1, n, pr.said⟩ w4 := HP3.out.keep (fun k hk hl => hk4.block k hl (by
    rintro (e | e)
    · rcases hk with h | h | h
      · exact (hap k (.inl e)).1 h
      · exact (hap k (.inl e)).2.1 h
      · exact (hap k (.inl e)).2.2 h
    · rcases hk with h | h | h
      · exact (hap k (.inr e)).1 h
      · exact (hap k (.inr e)).2.1 h
      · exact (hap k (.inr e)).2.2 h))
  have hK4 : Keeps w.heap.size (fun k => k = pb ∨ k = mb ∨ k = ppb ∨ v.ownBlock = some k) w w4 := HK3.out.trans (Keeps.mono (M' := fun k => k = pb ∨ k = mb ∨ k = ppb ∨ v.ownBlock = some k) hk4 (by have := HSZ.out; omega) (fun k _ hk => Or.elim hk (fun e => Or.inl e) (fun e => Or.inr (Or.inl e))))
  by_cases he : er = 0
  · have hne : (er != 0) = false := by rw [he]; rfl
    rw [if_pos he] at HD
    have HP4 := Lib.hid hp4
    have HS4 := Lib.hid hs4
    have HK4 := Lib.hid hK4
    clear hp4 hs4 hk4 hK4 d2 d3 d4 dq f2 hw3 he
    go_wp2
    go_end0
    exact ⟨rfl, by rw [HD.out]; exact HS4.out, ⟨v, by rw [HD.out]; exact HP4.out, RowFrom.refl _ _⟩, HK4.out⟩
  · have hne : (er != 0) = true := by simpa using he
    rw [if_neg he] at HD
    have g2 := hp4.c2
    have gf := hp4.frozen 2
    have HP4 := Lib.hid (hp4.put 1)
    have HS4 : Hid (IsStore pb mb st2 (w4.setCell ⟨ppb, 2, none⟩ (.int .i64 1))) := Lib.hid (hs4.keep (fun k hk => Below.heap_setCell w4 ⟨ppb, 2, none⟩ _ k (hap k hk).1))
    have HK4 := Lib.hid (hK4.setCell (p := ⟨ppb, 2, none⟩) (.inr (.inr (.inr (.inl rfl)))) (.int .i64 1))
    clear hp4 hs4 hk4 hK4 d2 d3 d4 dq f2 hw3 he
    go_wp2
    go_end0
    exact ⟨rfl, by rw [HD.out]; exact HS4.out, ⟨v, by rw [HD.out]; exact HP4.out, RowFrom.refl _ _⟩, HK4.out⟩

set_option maxHeartbeats 8000000 in
set_option maxRecDepth 100000 in
theorem does_some_none {K : Nat → Prop} {ppb pb mb : Nat} {v wv iv : Value} (pr : PProc) (st : PStore) (op : List UInt8) (words : List (List UInt8)) (add : Bool) (w : World) (hp : IsProc K ppb v pr w) (hs : IsStore pb mb st w) (hK : ∀ k, K k → k < w.heap.size) (hap : ∀ k, k = pb ∨ k = mb → k ≠ ppb ∧ v.ownBlock ≠ some k ∧ ¬ K k) (hsaid : pr.said.length ≤ 65536) (hwv : StrsAt K w wv words) (p : List UInt8) (hpl : p.length ≤ 262144) (hiv : PtrAt K w iv (some p)) (i : List UInt8) (hin : readF st p = (i, 0)) (n : Int) (t : List UInt8) (ht : t.length ≤ 1073741824) (st1 : PStore) (left1 : List PCmd) (hrun : ∀ W, IsStore pb mb st W → IsProc K ppb v pr W → StrsAt K W wv words → Below w.heap.size w W → Calls Tryz.prog 58 #[.pointer (some ⟨ppb, 0, none⟩), wv, .string ⟨i.toArray⟩, .pointer (some ⟨pb, 0, none⟩)] W fun e W' => e = .returned (.tuple #[.int .i64 n, .string ⟨t.toArray⟩]) ∧ IsStore pb mb st1 W' ∧ IsProc K ppb v ⟨left1, pr.status, pr.said⟩ W' ∧ Keeps W.heap.size (fun k => k = pb ∨ k = mb ∨ k = ppb) W W') :
    Calls Tryz.prog 37 #[.pointer (some ⟨ppb, 0, none⟩), .agg #[strV op, wv, iv, .pointer none, .bool add], .pointer (some ⟨pb, 0, none⟩)] w fun e w' => e = .returned (.tuple #[]) ∧ IsStore pb mb (doesOut st1 left1 n t pr.said none add).1 w' ∧ (∃ v', IsProc K ppb v' (doesOut st1 left1 n t pr.said none add).2 w' ∧ RowFrom w.heap.size v v') ∧ Keeps w.heap.size (fun k => k = pb ∨ k = mb ∨ k = ppb ∨ v.ownBlock = some k) w w' := by
  have hpp := hp.lt
  have hlp := hs.ltp
  have hlm := hs.ltm
  obtain ⟨bx, hbx⟩ : ∃ bx, bx = Obj.cells #[strV op, wv, iv, .pointer none, .bool add] 90 := ⟨_, rfl⟩
  have hB0 : Below w.heap.size w (w.alloc bx) := (Below.refl _ _).alloc (Nat.le_refl _) _
  have hx0 : (w.alloc bx).heap[w.heap.size]? = some bx := heap_alloc_new w bx
  have hp0 := hp.below hB0
  have hs0 := hs.below hB0
  have hwv0 : StrsAt K (w.alloc bx) wv words := SlAt.keep hwv (fun k _ hl => hB0.block k hl)
  have hz0 : (w.alloc bx).heap.size = w.heap.size + 1 := by simp
  obtain ⟨ib, ifr, rfl, hKib, hib⟩ := hiv
  have hib0 : (w.alloc bx).heap[ib]? = some (.cells #[strV p] 9 ifr) := (hB0.block ib (hK ib hKib)).trans hib
  have e2 : (w.alloc bx).cell? ⟨ib, 0, none⟩ = some (.string ⟨p.toArray⟩) := Lib.cell_of_heap hib0 0
  have HRd : Hid (Calls Tryz.prog 13 #[.pointer (some ⟨pb, 0, none⟩), .string ⟨p.toArray⟩] (w.alloc bx) fun e w' => e = .returned (.tuple #[.string ⟨(readF st p).1.toArray⟩, .int .i64 (readF st p).2]) ∧ Below (w.alloc bx).heap.size (w.alloc bx) w') := Lib.hid (read_store pb mb st ⟨p.toArray⟩ (by show p.toArray.size ≤ _; simpa using hpl) _ hs0)
  rw [hin] at HRd
  simp only at HRd
  obtain ⟨w0, hw0⟩ : ∃ w0, w0 = w.alloc bx := ⟨_, rfl⟩
  have c2 : (w.alloc bx).cell? ⟨w.heap.size, 2, none⟩ = some (.pointer (some ⟨ib, 0, none⟩)) := by rw [hbx] at hx0 ⊢; exact Lib.cell_of_heap hx0 2
  rw [← hw0] at hx0 hB0 hz0 hp0 hs0 hwv0
  have hKs : ∀ k, K k → k ≠ pb ∧ k ≠ mb ∧ k ≠ ppb := fun k hk => ⟨fun e => (hap k (.inl e)).2.2 hk, fun e => (hap k (.inr e)).2.2 hk, (hp.apart k hk).1⟩
  rw [hbx] at c2 HRd e2
  clear hib0 hib hs hp hwv
  go_enter Tryz.func37, Tryz.ntmps37
  go_wp2_with fail
  go_at_call 13
  refine HRd.out.mono ?_
  rintro e w1 ⟨rfl, hb1⟩
  rw [← hbx, ← hw0] at hb1
  have hx1 : w1.heap[w.heap.size]? = some bx := (hb1.block _ (by omega)).trans hx0
  have hp1 := hp0.below hb1
  have hs1 := hs0.below hb1
  have hwv1 : StrsAt K w1 wv words := SlAt.keep hwv0 (fun k _ hl => hb1.block k hl)
  have hB1 : Below w.heap.size w w1 := hB0.trans (hb1.mono (by omega))
  have HR := Lib.hid (hrun _ hs1 hp1 hwv1 hB1)
  have c1 : w1.cell? ⟨w.heap.size, 1, none⟩ = some wv := by rw [hbx] at hx1; exact Lib.cell_of_heap hx1 1
  have HX := Lib.hid hx1
  have hz1 : Hid (w.heap.size + 1 ≤ w1.heap.size) := Lib.hid (by have := hb1.size; omega)
  have HB0 : Hid (Keeps w.heap.size (fun k => k = pb ∨ k = mb ∨ k = ppb ∨ v.ownBlock = some k) w w1) := Lib.hid (Keeps.of hB1 _)
  clear hx1 hp1 hs1 hwv1 hB1 hb1 hx0 hp0 hs0 hwv0 hB0 c2 e2 HRd hrun hw0 hz0
  go_wp2_with fail
  go_at_call 58
  refine HR.out.mono ?_
  rintro e w2 ⟨rfl, hs2, hp2, hk2⟩
  have hx2 : w2.heap[w.heap.size]? = some bx := (hk2.block _ (by have := hz1.out; omega) (by omega)).trans HX.out
  obtain ⟨w3, hw3⟩ : ∃ w3, w3 = w2.setCell ⟨ppb, 2, none⟩ (.int .i64 n) := ⟨_, rfl⟩
  have hset : ∀ k, k ≠ ppb → w3.heap[k]? = w2.heap[k]? := fun k hk => by rw [hw3]; exact Below.heap_setCell w2 ⟨ppb, 2, none⟩ _ k hk
  have hp3 : IsProc K ppb v ⟨left1, n, pr.said⟩ w3 := by rw [hw3]; exact hp2.put n
  have hs3 : IsStore pb mb st1 w3 := hs2.keep (fun k hk => hset k (hap k hk).1)
  have hx3 : w3.heap[w.heap.size]? = some bx := (hset _ (by omega)).trans hx2
  have d2 := hp2.c2
  have f2 := hp2.frozen 2
  have hsz3 : w3.heap.size = w2.heap.size := by rw [hw3]; simp [World.setCell]
  have hk3 : Keeps w.heap.size (fun k => k = pb ∨ k = mb ∨ k = ppb ∨ v.ownBlock = some k) w w3 := by
    rw [hw3]
    exact Keeps.setCell ((HB0.out).trans ((hk2.mono (by have := hz1.out; omega) (by intro k _ hk; rcases hk with h | h | h; exact Or.inl h; exact Or.inr (Or.inl h); exact Or.inr (Or.inr (Or.inl h)))))) (.inr (.inr (.inr (.inl rfl)))) _
  have HP3 := Lib.hid hp3
  have HS3 := Lib.hid hs3
  have HX3 := Lib.hid hx3
  have HK3 := Lib.hid hk3
  have HSZ := Lib.hid (show w.heap.size + 1 ≤ w3.heap.size by rw [hsz3]; have := hk2.size; have := hz1.out; omega)
  have d3 : (w2.setCell ⟨ppb, 2, none⟩ (.int .i64 n)).cell? ⟨w.heap.size, 3, none⟩ = some (.pointer none) := by rw [← hw3]; rw [hbx] at hx3; exact Lib.cell_of_heap hx3 3
  have HL : Hid (Calls Tryz.prog 60 #[.pointer (some ⟨ppb, 3, none⟩)] w3.drew fun e w' => e = .returned (.int .i64 pr.said.length) ∧ w' = w3.drew) := Lib.hid (by
    obtain ⟨lv, pp, h1, h2⟩ := hp3.cells
    exact (bldLen_any w3.drew (h1.keep (fun _ _ => rfl))).mono fun _ _ ⟨h, k⟩ => ⟨h, k.symm⟩)
  have HW := Lib.hid (IsProc.say w3.drew (hp3.keep (w' := w3.drew) (fun _ _ _ => rfl)) (fun k hk => by show k < w3.heap.size; have := hK k hk; have := HSZ.out; omega) ((⟨t.toArray⟩ : ByteArray).extract 0 (min (t.length : Int) (65536 - (pr.said.length : Int))).toNat) (by
    show pr.said.length + _ ≤ _
    simp only [ByteArray.size_extract]
    show _ + (min _ t.toArray.size - 0) ≤ _
    simp only [List.size_toArray]
    omega))
  have HSL : Hid (((⟨t.toArray⟩ : ByteArray).extract 0 (min (t.length : Int) (65536 - (pr.said.length : Int))).toNat).data.toList = t.take (65536 - pr.said.length)) := Lib.hid (by
    rw [Lib.extract_data]
    show (t.drop 0).take _ = _
    rw [List.drop_zero]
    by_cases hle : t.length ≤ 65536 - pr.said.length
    · rw [List.take_of_length_le hle, List.take_of_length_le (by omega)]
    · congr 1
      omega)
  have hmn : 0 ≤ min (t.length : Int) (65536 - (pr.said.length : Int)) ∧ min (t.length : Int) (65536 - (pr.said.length : Int)) ≤ (t.length : Int) := by omega
  clear hs2 hp2 hk2 hx2 hset hp3 hs3 hx3 hsz3 hk3 HR HX HB0
  go_wp2_with (fail)
  rw [← hw3]
  clear d2 d3 f2 hw3
  have hwr : IntKind.i64.wrap (65536 - (pr.said.length : Int)) = 65536 - (pr.said.length : Int) := by rw [IntKind.wrap_i64]; omega
  refine wp_region_still_tail 13 (by kernel_rfl) (by kernel_rfl) ?_
  simp only [List.take_succ_cons, List.take_zero, List.drop_succ_cons, List.drop_zero]
  repeat still_step
  still_call HL.out
  repeat still_step
  refine wpStill_nil ?_
  change wpList _ _ _ _ _ w3.drew
  go_wp2_with fail
  go_at_call 59
  refine HW.out.mono ?_
  rintro e w4 ⟨rfl, v', h1, h2, h3⟩
  rw [HSL.out] at h1
  have H1 := Lib.hid h1
  have H2 := Lib.hid h2
  have H3 := Lib.hid h3
  clear h1 h2 h3
  go_wp2
  (try simp only [Exit.inBlock, Exit.then])
  refine bodyPost_ret (results_none rfl _ _ _) rfl ?_
  refine ⟨rfl, ?_, ⟨v', H1.out, H2.out.mono (by show w.heap.size ≤ w3.heap.size; have := HSZ.out; omega)⟩, HK3.out.drew.trans (Keeps.mono (M' := fun k => k = pb ∨ k = mb ∨ k = ppb ∨ v.ownBlock = some k) H3.out (by show w.heap.size ≤ w3.heap.size; have := HSZ.out; omega) (fun k _ hk => Or.elim hk (fun e => Or.inr (Or.inr (Or.inl e))) (fun e => Or.inr (Or.inr (Or.inr e)))))⟩
  exact HS3.out.keep (fun k hk => (H3.out.block k (by show k < w3.heap.size; have := HSZ.out; have := hap k hk; rcases hk with rfl | rfl <;> omega) (fun hh => hh.elim (hap k hk).1 (hap k hk).2.1)))
set_option maxHeartbeats 8000000 in
set_option maxRecDepth 100000 in
theorem does_some_write {K : Nat → Prop} {ppb pb mb : Nat} {v wv iv ov : Value} (pr : PProc) (st : PStore) (op : List UInt8) (words : List (List UInt8)) (w : World) (hp : IsProc K ppb v pr w) (hs : IsStore pb mb st w) (hK : ∀ k, K k → k < w.heap.size) (hap : ∀ k, k = pb ∨ k = mb → k ≠ ppb ∧ v.ownBlock ≠ some k ∧ ¬ K k) (hwv : StrsAt K w wv words) (p : List UInt8) (hpl : p.length ≤ 262144) (hiv : PtrAt K w iv (some p)) (q : List UInt8) (hql : q.length ≤ 262144) (hov : PtrAt K w ov (some q)) (i : List UInt8) (hin : readF st p = (i, 0)) (n : Int) (t : List UInt8) (ht : t.length ≤ 1073741824) (st1 : PStore) (left1 : List PCmd) (hrun : ∀ W, IsStore pb mb st W → IsProc K ppb v pr W → StrsAt K W wv words → Below w.heap.size w W → Calls Tryz.prog 58 #[.pointer (some ⟨ppb, 0, none⟩), wv, .string ⟨i.toArray⟩, .pointer (some ⟨pb, 0, none⟩)] W fun e W' => e = .returned (.tuple #[.int .i64 n, .string ⟨t.toArray⟩]) ∧ IsStore pb mb st1 W' ∧ IsProc K ppb v ⟨left1, pr.status, pr.said⟩ W' ∧ Keeps W.heap.size (fun k => k = pb ∨ k = mb ∨ k = ppb) W W') :
    Calls Tryz.prog 37 #[.pointer (some ⟨ppb, 0, none⟩), .agg #[strV op, wv, iv, ov, .bool false], .pointer (some ⟨pb, 0, none⟩)] w fun e w' => e = .returned (.tuple #[]) ∧ IsStore pb mb (doesOut st1 left1 n t pr.said (some q) false).1 w' ∧ (∃ v', IsProc K ppb v' (doesOut st1 left1 n t pr.said (some q) false).2 w' ∧ RowFrom w.heap.size v v') ∧ Keeps w.heap.size (fun k => k = pb ∨ k = mb ∨ k = ppb ∨ v.ownBlock = some k) w w' := by
  obtain ⟨ob, ofr, rfl, hKob, hob⟩ := hov
  have HAP : Hid (∀ k, K k → v.ownBlock ≠ some k) := Lib.hid (fun k hk => (hp.apart k hk).2)
  have hpp := hp.lt
  have hlp := hs.ltp
  have hlm := hs.ltm
  obtain ⟨bx, hbx⟩ : ∃ bx, bx = Obj.cells #[strV op, wv, iv, .pointer (some ⟨ob, 0, none⟩), .bool false] 90 := ⟨_, rfl⟩
  have hB0 : Below w.heap.size w (w.alloc bx) := (Below.refl _ _).alloc (Nat.le_refl _) _
  have hx0 : (w.alloc bx).heap[w.heap.size]? = some bx := heap_alloc_new w bx
  have hp0 := hp.below hB0
  have hs0 := hs.below hB0
  have hwv0 : StrsAt K (w.alloc bx) wv words := SlAt.keep hwv (fun k _ hl => hB0.block k hl)
  have hz0 : (w.alloc bx).heap.size = w.heap.size + 1 := by simp
  obtain ⟨ib, ifr, rfl, hKib, hib⟩ := hiv
  have hib0 : (w.alloc bx).heap[ib]? = some (.cells #[strV p] 9 ifr) := (hB0.block ib (hK ib hKib)).trans hib
  have e2 : (w.alloc bx).cell? ⟨ib, 0, none⟩ = some (.string ⟨p.toArray⟩) := Lib.cell_of_heap hib0 0
  have HRd : Hid (Calls Tryz.prog 13 #[.pointer (some ⟨pb, 0, none⟩), .string ⟨p.toArray⟩] (w.alloc bx) fun e w' => e = .returned (.tuple #[.string ⟨(readF st p).1.toArray⟩, .int .i64 (readF st p).2]) ∧ Below (w.alloc bx).heap.size (w.alloc bx) w') := Lib.hid (read_store pb mb st ⟨p.toArray⟩ (by show p.toArray.size ≤ _; simpa using hpl) _ hs0)
  rw [hin] at HRd
  simp only at HRd
  obtain ⟨w0, hw0⟩ : ∃ w0, w0 = w.alloc bx := ⟨_, rfl⟩
  have c2 : (w.alloc bx).cell? ⟨w.heap.size, 2, none⟩ = some (.pointer (some ⟨ib, 0, none⟩)) := by rw [hbx] at hx0 ⊢; exact Lib.cell_of_heap hx0 2
  rw [← hw0] at hx0 hB0 hz0 hp0 hs0 hwv0
  have hKs : ∀ k, K k → k ≠ pb ∧ k ≠ mb ∧ k ≠ ppb := fun k hk => ⟨fun e => (hap k (.inl e)).2.2 hk, fun e => (hap k (.inr e)).2.2 hk, (hp.apart k hk).1⟩
  rw [hbx] at c2 HRd e2
  clear hib0 hib hs hp hwv
  go_enter Tryz.func37, Tryz.ntmps37
  go_wp2_with fail
  go_at_call 13
  refine HRd.out.mono ?_
  rintro e w1 ⟨rfl, hb1⟩
  rw [← hbx, ← hw0] at hb1
  have hx1 : w1.heap[w.heap.size]? = some bx := (hb1.block _ (by omega)).trans hx0
  have hp1 := hp0.below hb1
  have hs1 := hs0.below hb1
  have hwv1 : StrsAt K w1 wv words := SlAt.keep hwv0 (fun k _ hl => hb1.block k hl)
  have hB1 : Below w.heap.size w w1 := hB0.trans (hb1.mono (by omega))
  have HR := Lib.hid (hrun _ hs1 hp1 hwv1 hB1)
  have c1 : w1.cell? ⟨w.heap.size, 1, none⟩ = some wv := by rw [hbx] at hx1; exact Lib.cell_of_heap hx1 1
  have HX := Lib.hid hx1
  have hz1 : Hid (w.heap.size + 1 ≤ w1.heap.size) := Lib.hid (by have := hb1.size; omega)
  have HB0 : Hid (Keeps w.heap.size (fun k => k = pb ∨ k = mb ∨ k = ppb ∨ v.ownBlock = some k) w w1) := Lib.hid (Keeps.of hB1 _)
  clear hx1 hp1 hs1 hwv1 hB1 hb1 hx0 hp0 hs0 hwv0 hB0 c2 e2 HRd hrun hw0 hz0
  go_wp2_with fail
  go_at_call 58
  refine HR.out.mono ?_
  rintro e w2 ⟨rfl, hs2, hp2, hk2⟩
  have hx2 : w2.heap[w.heap.size]? = some bx := (hk2.block _ (by have := hz1.out; omega) (by omega)).trans HX.out
  obtain ⟨w3, hw3⟩ : ∃ w3, w3 = w2.setCell ⟨ppb, 2, none⟩ (.int .i64 n) := ⟨_, rfl⟩
  have hset : ∀ k, k ≠ ppb → w3.heap[k]? = w2.heap[k]? := fun k hk => by rw [hw3]; exact Below.heap_setCell w2 ⟨ppb, 2, none⟩ _ k hk
  have hp3 : IsProc K ppb v ⟨left1, n, pr.said⟩ w3 := by rw [hw3]; exact hp2.put n
  have hs3 : IsStore pb mb st1 w3 := hs2.keep (fun k hk => hset k (hap k hk).1)
  have hx3 : w3.heap[w.heap.size]? = some bx := (hset _ (by omega)).trans hx2
  have d2 := hp2.c2
  have f2 := hp2.frozen 2
  have hsz3 : w3.heap.size = w2.heap.size := by rw [hw3]; simp [World.setCell]
  have hk3 : Keeps w.heap.size (fun k => k = pb ∨ k = mb ∨ k = ppb ∨ v.ownBlock = some k) w w3 := by
    rw [hw3]
    exact Keeps.setCell ((HB0.out).trans ((hk2.mono (by have := hz1.out; omega) (by intro k _ hk; rcases hk with h | h | h; exact Or.inl h; exact Or.inr (Or.inl h); exact Or.inr (Or.inr (Or.inl h)))))) (.inr (.inr (.inr (.inl rfl)))) _
  have HP3 := Lib.hid hp3
  have HS3 := Lib.hid hs3
  have HX3 := Lib.hid hx3
  have HK3 := Lib.hid hk3
  have HSZ := Lib.hid (show w.heap.size + 1 ≤ w3.heap.size by rw [hsz3]; have := hk2.size; have := hz1.out; omega)
  have d3 : (w2.setCell ⟨ppb, 2, none⟩ (.int .i64 n)).cell? ⟨w.heap.size, 3, none⟩ = some (.pointer (some ⟨ob, 0, none⟩)) := by rw [← hw3]; rw [hbx] at hx3; exact Lib.cell_of_heap hx3 3
  have d4 : (w2.setCell ⟨ppb, 2, none⟩ (.int .i64 n)).cell? ⟨w.heap.size, 4, none⟩ = some (.bool false) := by rw [← hw3]; rw [hbx] at hx3; exact Lib.cell_of_heap hx3 4
  have hob3 : w3.heap[ob]? = some (.cells #[strV q] 9 ofr) := (hset ob (hKs ob hKob).2.2).trans ((hk2.block ob (by have := hz1.out; have := hK ob hKob; omega) (by have := hKs ob hKob; omega)).trans ((HB0.out.block ob (hK ob hKob) (by rintro (e | e | e | e); exact (hKs ob hKob).1 e; exact (hKs ob hKob).2.1 e; exact (hKs ob hKob).2.2 e; exact HAP.out ob hKob e)).trans hob))
  have dq : (w2.setCell ⟨ppb, 2, none⟩ (.int .i64 n)).cell? ⟨ob, 0, none⟩ = some (.string ⟨q.toArray⟩) := by rw [← hw3]; exact Lib.cell_of_heap hob3 0
  have HW : Hid (Calls Tryz.prog 32 #[.pointer (some ⟨pb, 0, none⟩), .string ⟨q.toArray⟩, .string ⟨t.toArray⟩] w3 fun e w' => e = .returned (.int .i64 (writeF st1 q t).2) ∧ IsStore pb mb (writeF st1 q t).1 w' ∧ Keeps w3.heap.size (fun k => k = pb ∨ k = mb) w3 w') := Lib.hid (write_store pb mb st1 ⟨q.toArray⟩ ⟨t.toArray⟩ (by show q.toArray.size ≤ _; simpa using hql) (by show t.toArray.size ≤ _; simp; omega) w3 hs3)
  have HD : Hid (doesOut st1 left1 n t pr.said (some q) false = ((writeF st1 q t).1, ⟨left1, if (writeF st1 q t).2 = 0 then n else 1, pr.said⟩)) := Lib.hid rfl
  generalize writeF st1 q t = r at HW HD
  obtain ⟨st2, er⟩ := r
  simp only at HW HD
  clear hs2 hp2 hk2 hx2 hset hp3 hs3 hx3 hsz3 hk3 HR HX HB0 hob hob3
  rw [hw3] at HW
  go_wp2_with fail
  go_at_call 32
  refine HW.out.mono ?_
  rw [← hw3]
  rintro e w4 ⟨rfl, hs4, hk4⟩
  have hp4 : IsProc K ppb v ⟨left1, n, pr.said⟩ w4 := HP3.out.keep (fun k hk hl => hk4.block k hl (by
    rintro (e | e)
    · rcases hk with h | h | h
      · exact (hap k (.inl e)).1 h
      · exact (hap k (.inl e)).2.1 h
      · exact (hap k (.inl e)).2.2 h
    · rcases hk with h | h | h
      · exact (hap k (.inr e)).1 h
      · exact (hap k (.inr e)).2.1 h
      · exact (hap k (.inr e)).2.2 h))
  have hK4 : Keeps w.heap.size (fun k => k = pb ∨ k = mb ∨ k = ppb ∨ v.ownBlock = some k) w w4 := HK3.out.trans (Keeps.mono (M' := fun k => k = pb ∨ k = mb ∨ k = ppb ∨ v.ownBlock = some k) hk4 (by have := HSZ.out; omega) (fun k _ hk => Or.elim hk (fun e => Or.inl e) (fun e => Or.inr (Or.inl e))))
  by_cases he : er = 0
  · have hne : (er != 0) = false := by rw [he]; rfl
    rw [if_pos he] at HD
    have HP4 := Lib.hid hp4
    have HS4 := Lib.hid hs4
    have HK4 := Lib.hid hK4
    clear hp4 hs4 hk4 hK4 d2 d3 d4 dq f2 hw3 he
    go_wp2
    go_end0
    exact ⟨rfl, by rw [HD.out]; exact HS4.out, ⟨v, by rw [HD.out]; exact HP4.out, RowFrom.refl _ _⟩, HK4.out⟩
  · have hne : (er != 0) = true := by simpa using he
    rw [if_neg he] at HD
    have g2 := hp4.c2
    have gf := hp4.frozen 2
    have HP4 := Lib.hid (hp4.put 1)
    have HS4 : Hid (IsStore pb mb st2 (w4.setCell ⟨ppb, 2, none⟩ (.int .i64 1))) := Lib.hid (hs4.keep (fun k hk => Below.heap_setCell w4 ⟨ppb, 2, none⟩ _ k (hap k hk).1))
    have HK4 := Lib.hid (hK4.setCell (p := ⟨ppb, 2, none⟩) (.inr (.inr (.inr (.inl rfl)))) (.int .i64 1))
    clear hp4 hs4 hk4 hK4 d2 d3 d4 dq f2 hw3 he
    go_wp2
    go_end0
    exact ⟨rfl, by rw [HD.out]; exact HS4.out, ⟨v, by rw [HD.out]; exact HP4.out, RowFrom.refl _ _⟩, HK4.out⟩

set_option maxHeartbeats 8000000 in
set_option maxRecDepth 100000 in
theorem does_some_append {K : Nat → Prop} {ppb pb mb : Nat} {v wv iv ov : Value} (pr : PProc) (st : PStore) (op : List UInt8) (words : List (List UInt8)) (w : World) (hp : IsProc K ppb v pr w) (hs : IsStore pb mb st w) (hK : ∀ k, K k → k < w.heap.size) (hap : ∀ k, k = pb ∨ k = mb → k ≠ ppb ∧ v.ownBlock ≠ some k ∧ ¬ K k) (hwv : StrsAt K w wv words) (p : List UInt8) (hpl : p.length ≤ 262144) (hiv : PtrAt K w iv (some p)) (q : List UInt8) (hql : q.length ≤ 262144) (hov : PtrAt K w ov (some q)) (i : List UInt8) (hin : readF st p = (i, 0)) (n : Int) (t : List UInt8) (ht : t.length ≤ 1073741824) (st1 : PStore) (left1 : List PCmd) (hrun : ∀ W, IsStore pb mb st W → IsProc K ppb v pr W → StrsAt K W wv words → Below w.heap.size w W → Calls Tryz.prog 58 #[.pointer (some ⟨ppb, 0, none⟩), wv, .string ⟨i.toArray⟩, .pointer (some ⟨pb, 0, none⟩)] W fun e W' => e = .returned (.tuple #[.int .i64 n, .string ⟨t.toArray⟩]) ∧ IsStore pb mb st1 W' ∧ IsProc K ppb v ⟨left1, pr.status, pr.said⟩ W' ∧ Keeps W.heap.size (fun k => k = pb ∨ k = mb ∨ k = ppb) W W') :
    Calls Tryz.prog 37 #[.pointer (some ⟨ppb, 0, none⟩), .agg #[strV op, wv, iv, ov, .bool true], .pointer (some ⟨pb, 0, none⟩)] w fun e w' => e = .returned (.tuple #[]) ∧ IsStore pb mb (doesOut st1 left1 n t pr.said (some q) true).1 w' ∧ (∃ v', IsProc K ppb v' (doesOut st1 left1 n t pr.said (some q) true).2 w' ∧ RowFrom w.heap.size v v') ∧ Keeps w.heap.size (fun k => k = pb ∨ k = mb ∨ k = ppb ∨ v.ownBlock = some k) w w' := by
  obtain ⟨ob, ofr, rfl, hKob, hob⟩ := hov
  have HAP : Hid (∀ k, K k → v.ownBlock ≠ some k) := Lib.hid (fun k hk => (hp.apart k hk).2)
  have hpp := hp.lt
  have hlp := hs.ltp
  have hlm := hs.ltm
  obtain ⟨bx, hbx⟩ : ∃ bx, bx = Obj.cells #[strV op, wv, iv, .pointer (some ⟨ob, 0, none⟩), .bool true] 90 := ⟨_, rfl⟩
  have hB0 : Below w.heap.size w (w.alloc bx) := (Below.refl _ _).alloc (Nat.le_refl _) _
  have hx0 : (w.alloc bx).heap[w.heap.size]? = some bx := heap_alloc_new w bx
  have hp0 := hp.below hB0
  have hs0 := hs.below hB0
  have hwv0 : StrsAt K (w.alloc bx) wv words := SlAt.keep hwv (fun k _ hl => hB0.block k hl)
  have hz0 : (w.alloc bx).heap.size = w.heap.size + 1 := by simp
  obtain ⟨ib, ifr, rfl, hKib, hib⟩ := hiv
  have hib0 : (w.alloc bx).heap[ib]? = some (.cells #[strV p] 9 ifr) := (hB0.block ib (hK ib hKib)).trans hib
  have e2 : (w.alloc bx).cell? ⟨ib, 0, none⟩ = some (.string ⟨p.toArray⟩) := Lib.cell_of_heap hib0 0
  have HRd : Hid (Calls Tryz.prog 13 #[.pointer (some ⟨pb, 0, none⟩), .string ⟨p.toArray⟩] (w.alloc bx) fun e w' => e = .returned (.tuple #[.string ⟨(readF st p).1.toArray⟩, .int .i64 (readF st p).2]) ∧ Below (w.alloc bx).heap.size (w.alloc bx) w') := Lib.hid (read_store pb mb st ⟨p.toArray⟩ (by show p.toArray.size ≤ _; simpa using hpl) _ hs0)
  rw [hin] at HRd
  simp only at HRd
  obtain ⟨w0, hw0⟩ : ∃ w0, w0 = w.alloc bx := ⟨_, rfl⟩
  have c2 : (w.alloc bx).cell? ⟨w.heap.size, 2, none⟩ = some (.pointer (some ⟨ib, 0, none⟩)) := by rw [hbx] at hx0 ⊢; exact Lib.cell_of_heap hx0 2
  rw [← hw0] at hx0 hB0 hz0 hp0 hs0 hwv0
  have hKs : ∀ k, K k → k ≠ pb ∧ k ≠ mb ∧ k ≠ ppb := fun k hk => ⟨fun e => (hap k (.inl e)).2.2 hk, fun e => (hap k (.inr e)).2.2 hk, (hp.apart k hk).1⟩
  rw [hbx] at c2 HRd e2
  clear hib0 hib hs hp hwv
  go_enter Tryz.func37, Tryz.ntmps37
  go_wp2_with fail
  go_at_call 13
  refine HRd.out.mono ?_
  rintro e w1 ⟨rfl, hb1⟩
  rw [← hbx, ← hw0] at hb1
  have hx1 : w1.heap[w.heap.size]? = some bx := (hb1.block _ (by omega)).trans hx0
  have hp1 := hp0.below hb1
  have hs1 := hs0.below hb1
  have hwv1 : StrsAt K w1 wv words := SlAt.keep hwv0 (fun k _ hl => hb1.block k hl)
  have hB1 : Below w.heap.size w w1 := hB0.trans (hb1.mono (by omega))
  have HR := Lib.hid (hrun _ hs1 hp1 hwv1 hB1)
  have c1 : w1.cell? ⟨w.heap.size, 1, none⟩ = some wv := by rw [hbx] at hx1; exact Lib.cell_of_heap hx1 1
  have HX := Lib.hid hx1
  have hz1 : Hid (w.heap.size + 1 ≤ w1.heap.size) := Lib.hid (by have := hb1.size; omega)
  have HB0 : Hid (Keeps w.heap.size (fun k => k = pb ∨ k = mb ∨ k = ppb ∨ v.ownBlock = some k) w w1) := Lib.hid (Keeps.of hB1 _)
  clear hx1 hp1 hs1 hwv1 hB1 hb1 hx0 hp0 hs0 hwv0 hB0 c2 e2 HRd hrun hw0 hz0
  go_wp2_with fail
  go_at_call 58
  refine HR.out.mono ?_
  rintro e w2 ⟨rfl, hs2, hp2, hk2⟩
  have hx2 : w2.heap[w.heap.size]? = some bx := (hk2.block _ (by have := hz1.out; omega) (by omega)).trans HX.out
  obtain ⟨w3, hw3⟩ : ∃ w3, w3 = w2.setCell ⟨ppb, 2, none⟩ (.int .i64 n) := ⟨_, rfl⟩
  have hset : ∀ k, k ≠ ppb → w3.heap[k]? = w2.heap[k]? := fun k hk => by rw [hw3]; exact Below.heap_setCell w2 ⟨ppb, 2, none⟩ _ k hk
  have hp3 : IsProc K ppb v ⟨left1, n, pr.said⟩ w3 := by rw [hw3]; exact hp2.put n
  have hs3 : IsStore pb mb st1 w3 := hs2.keep (fun k hk => hset k (hap k hk).1)
  have hx3 : w3.heap[w.heap.size]? = some bx := (hset _ (by omega)).trans hx2
  have d2 := hp2.c2
  have f2 := hp2.frozen 2
  have hsz3 : w3.heap.size = w2.heap.size := by rw [hw3]; simp [World.setCell]
  have hk3 : Keeps w.heap.size (fun k => k = pb ∨ k = mb ∨ k = ppb ∨ v.ownBlock = some k) w w3 := by
    rw [hw3]
    exact Keeps.setCell ((HB0.out).trans ((hk2.mono (by have := hz1.out; omega) (by intro k _ hk; rcases hk with h | h | h; exact Or.inl h; exact Or.inr (Or.inl h); exact Or.inr (Or.inr (Or.inl h)))))) (.inr (.inr (.inr (.inl rfl)))) _
  have HP3 := Lib.hid hp3
  have HS3 := Lib.hid hs3
  have HX3 := Lib.hid hx3
  have HK3 := Lib.hid hk3
  have HSZ := Lib.hid (show w.heap.size + 1 ≤ w3.heap.size by rw [hsz3]; have := hk2.size; have := hz1.out; omega)
  have d3 : (w2.setCell ⟨ppb, 2, none⟩ (.int .i64 n)).cell? ⟨w.heap.size, 3, none⟩ = some (.pointer (some ⟨ob, 0, none⟩)) := by rw [← hw3]; rw [hbx] at hx3; exact Lib.cell_of_heap hx3 3
  have d4 : (w2.setCell ⟨ppb, 2, none⟩ (.int .i64 n)).cell? ⟨w.heap.size, 4, none⟩ = some (.bool true) := by rw [← hw3]; rw [hbx] at hx3; exact Lib.cell_of_heap hx3 4
  have hob3 : w3.heap[ob]? = some (.cells #[strV q] 9 ofr) := (hset ob (hKs ob hKob).2.2).trans ((hk2.block ob (by have := hz1.out; have := hK ob hKob; omega) (by have := hKs ob hKob; omega)).trans ((HB0.out.block ob (hK ob hKob) (by rintro (e | e | e | e); exact (hKs ob hKob).1 e; exact (hKs ob hKob).2.1 e; exact (hKs ob hKob).2.2 e; exact HAP.out ob hKob e)).trans hob))
  have dq : (w2.setCell ⟨ppb, 2, none⟩ (.int .i64 n)).cell? ⟨ob, 0, none⟩ = some (.string ⟨q.toArray⟩) := by rw [← hw3]; exact Lib.cell_of_heap hob3 0
  have HW : Hid (Calls Tryz.prog 61 #[.pointer (some ⟨pb, 0, none⟩), .string ⟨q.toArray⟩, .string ⟨t.toArray⟩] w3 fun e w' => e = .returned (.int .i64 (appendF st1 q t).2) ∧ IsStore pb mb (appendF st1 q t).1 w' ∧ Keeps w3.heap.size (fun k => k = pb ∨ k = mb) w3 w') := Lib.hid (append_store pb mb st1 ⟨q.toArray⟩ ⟨t.toArray⟩ (by show q.toArray.size ≤ _; simpa using hql) (by show t.toArray.size ≤ _; simp; omega) w3 hs3)
  have HD : Hid (doesOut st1 left1 n t pr.said (some q) true = ((appendF st1 q t).1, ⟨left1, if (appendF st1 q t).2 = 0 then n else 1, pr.said⟩)) := Lib.hid rfl
  generalize appendF st1 q t = r at HW HD
  obtain ⟨st2, er⟩ := r
  simp only at HW HD
  clear hs2 hp2 hk2 hx2 hset hp3 hs3 hx3 hsz3 hk3 HR HX HB0 hob hob3
  rw [hw3] at HW
  go_wp2_with fail
  go_at_call 61
  refine HW.out.mono ?_
  rw [← hw3]
  rintro e w4 ⟨rfl, hs4, hk4⟩
  have hp4 : IsProc K ppb v ⟨left1, n, pr.said⟩ w4 := HP3.out.keep (fun k hk hl => hk4.block k hl (by
    rintro (e | e)
    · rcases hk with h | h | h
      · exact (hap k (.inl e)).1 h
      · exact (hap k (.inl e)).2.1 h
      · exact (hap k (.inl e)).2.2 h
    · rcases hk with h | h | h
      · exact (hap k (.inr e)).1 h
      · exact (hap k (.inr e)).2.1 h
      · exact (hap k (.inr e)).2.2 h))
  have hK4 : Keeps w.heap.size (fun k => k = pb ∨ k = mb ∨ k = ppb ∨ v.ownBlock = some k) w w4 := HK3.out.trans (Keeps.mono (M' := fun k => k = pb ∨ k = mb ∨ k = ppb ∨ v.ownBlock = some k) hk4 (by have := HSZ.out; omega) (fun k _ hk => Or.elim hk (fun e => Or.inl e) (fun e => Or.inr (Or.inl e))))
  by_cases he : er = 0
  · have hne : (er != 0) = false := by rw [he]; rfl
    rw [if_pos he] at HD
    have HP4 := Lib.hid hp4
    have HS4 := Lib.hid hs4
    have HK4 := Lib.hid hK4
    clear hp4 hs4 hk4 hK4 d2 d3 d4 dq f2 hw3 he
    go_wp2
    go_end0
    exact ⟨rfl, by rw [HD.out]; exact HS4.out, ⟨v, by rw [HD.out]; exact HP4.out, RowFrom.refl _ _⟩, HK4.out⟩
  · have hne : (er != 0) = true := by simpa using he
    rw [if_neg he] at HD
    have g2 := hp4.c2
    have gf := hp4.frozen 2
    have HP4 := Lib.hid (hp4.put 1)
    have HS4 : Hid (IsStore pb mb st2 (w4.setCell ⟨ppb, 2, none⟩ (.int .i64 1))) := Lib.hid (hs4.keep (fun k hk => Below.heap_setCell w4 ⟨ppb, 2, none⟩ _ k (hap k hk).1))
    have HK4 := Lib.hid (hK4.setCell (p := ⟨ppb, 2, none⟩) (.inr (.inr (.inr (.inl rfl)))) (.int .i64 1))
    clear hp4 hs4 hk4 hK4 d2 d3 d4 dq f2 hw3 he
    go_wp2
    go_end0
    exact ⟨rfl, by rw [HD.out]; exact HS4.out, ⟨v, by rw [HD.out]; exact HP4.out, RowFrom.refl _ _⟩, HK4.out⟩

set_option maxHeartbeats 8000000 in
set_option maxRecDepth 100000 in
theorem does_bad_any {K : Nat → Prop} {ppb pb mb : Nat} {v wv iv ov : Value} (pr : PProc) (st : PStore) (op : List UInt8) (words : List (List UInt8)) (add : Bool) (w : World) (hp : IsProc K ppb v pr w) (hs : IsStore pb mb st w) (hK : ∀ k, K k → k < w.heap.size) (hap : ∀ k, k = pb ∨ k = mb → k ≠ ppb ∧ v.ownBlock ≠ some k ∧ ¬ K k) (hwv : StrsAt K w wv words) (p : List UInt8) (hpl : p.length ≤ 262144) (hiv : PtrAt K w iv (some p)) (hin : (readF st p).2 ≠ 0) :
    Calls Tryz.prog 37 #[.pointer (some ⟨ppb, 0, none⟩), .agg #[strV op, wv, iv, ov, .bool add], .pointer (some ⟨pb, 0, none⟩)] w fun e w' => e = .returned (.tuple #[]) ∧ IsStore pb mb (st, (⟨pr.left, 1, pr.said⟩ : PProc)).1 w' ∧ (∃ v', IsProc K ppb v' (st, (⟨pr.left, 1, pr.said⟩ : PProc)).2 w' ∧ RowFrom w.heap.size v v') ∧ Keeps w.heap.size (fun k => k = pb ∨ k = mb ∨ k = ppb ∨ v.ownBlock = some k) w w' := by
  have hpp := hp.lt
  have hlp := hs.ltp
  have hlm := hs.ltm
  obtain ⟨bx, hbx⟩ : ∃ bx, bx = Obj.cells #[strV op, wv, iv, ov, .bool add] 90 := ⟨_, rfl⟩
  have hB0 : Below w.heap.size w (w.alloc bx) := (Below.refl _ _).alloc (Nat.le_refl _) _
  have hx0 : (w.alloc bx).heap[w.heap.size]? = some bx := heap_alloc_new w bx
  have hp0 := hp.below hB0
  have hs0 := hs.below hB0
  have hwv0 : StrsAt K (w.alloc bx) wv words := SlAt.keep hwv (fun k _ hl => hB0.block k hl)
  have hz0 : (w.alloc bx).heap.size = w.heap.size + 1 := by simp
  obtain ⟨ib, ifr, rfl, hKib, hib⟩ := hiv
  have hib0 : (w.alloc bx).heap[ib]? = some (.cells #[strV p] 9 ifr) := (hB0.block ib (hK ib hKib)).trans hib
  have e2 : (w.alloc bx).cell? ⟨ib, 0, none⟩ = some (.string ⟨p.toArray⟩) := Lib.cell_of_heap hib0 0
  have HRd : Hid (Calls Tryz.prog 13 #[.pointer (some ⟨pb, 0, none⟩), .string ⟨p.toArray⟩] (w.alloc bx) fun e w' => e = .returned (.tuple #[.string ⟨(readF st p).1.toArray⟩, .int .i64 (readF st p).2]) ∧ Below (w.alloc bx).heap.size (w.alloc bx) w') := Lib.hid (read_store pb mb st ⟨p.toArray⟩ (by show p.toArray.size ≤ _; simpa using hpl) _ hs0)
  generalize readF st p = rd at HRd hin
  obtain ⟨rt, re⟩ := rd
  simp only at HRd hin
  have hne : (re != 0) = true := by simpa using hin
  obtain ⟨w0, hw0⟩ : ∃ w0, w0 = w.alloc bx := ⟨_, rfl⟩
  have c2 : (w.alloc bx).cell? ⟨w.heap.size, 2, none⟩ = some (.pointer (some ⟨ib, 0, none⟩)) := by rw [hbx] at hx0 ⊢; exact Lib.cell_of_heap hx0 2
  rw [← hw0] at hx0 hB0 hz0 hp0 hs0 hwv0
  have hKs : ∀ k, K k → k ≠ pb ∧ k ≠ mb ∧ k ≠ ppb := fun k hk => ⟨fun e => (hap k (.inl e)).2.2 hk, fun e => (hap k (.inr e)).2.2 hk, (hp.apart k hk).1⟩
  rw [hbx] at c2 HRd e2
  clear hib0 hib hs hp hwv
  go_enter Tryz.func37, Tryz.ntmps37
  go_wp2_with fail
  go_at_call 13
  refine HRd.out.mono ?_
  rintro e w1 ⟨rfl, hb1⟩
  rw [← hbx, ← hw0] at hb1
  have hx1 : w1.heap[w.heap.size]? = some bx := (hb1.block _ (by omega)).trans hx0
  have hp1 := hp0.below hb1
  have hs1 := hs0.below hb1
  have hwv1 : StrsAt K w1 wv words := SlAt.keep hwv0 (fun k _ hl => hb1.block k hl)
  have hB1 : Below w.heap.size w w1 := hB0.trans (hb1.mono (by omega))
  have d2 := hp1.c2
  have f2 := hp1.frozen 2
  have HP := Lib.hid (hp1.put 1)
  have HS : Hid (IsStore pb mb st (w1.setCell ⟨ppb, 2, none⟩ (.int .i64 1))) := Lib.hid (hs1.keep (fun k hk => Below.heap_setCell w1 ⟨ppb, 2, none⟩ _ k (hap k hk).1))
  have HK : Hid (Keeps w.heap.size (fun k => k = pb ∨ k = mb ∨ k = ppb ∨ v.ownBlock = some k) w (w1.setCell ⟨ppb, 2, none⟩ (.int .i64 1))) := Lib.hid ((Keeps.of hB1 _).setCell (.inr (.inr (.inr (.inl rfl)))) _)
  clear hx1 hp1 hs1 hwv1 hB1 hb1 hx0 hp0 hs0 hwv0 hB0 c2 e2 HRd hKs
  go_wp2
  (try simp only [Exit.inBlock, Exit.then])
  refine bodyPost_ret (results_none rfl _ _ _) rfl ?_
  exact ⟨rfl, HS.out, ⟨v, HP.out, RowFrom.refl _ _⟩, HK.out⟩

/-- a command with its redirections -/
theorem does_any {K : Nat → Prop} {ppb pb mb : Nat} {v wv iv ov : Value} (pr : PProc) (st : PStore) (c : PCmd) (w : World) (hp : IsProc K ppb v pr w) (hs : IsStore pb mb st w) (hK : ∀ k, K k → k < w.heap.size) (hap : ∀ k, k = pb ∨ k = mb → k ≠ ppb ∧ v.ownBlock ≠ some k ∧ ¬ K k) (hsaid : pr.said.length ≤ 65536)
    (hwv : StrsAt K w wv c.words) (hiv : PtrAt K w iv c.inn) (hov : PtrAt K w ov c.out) (hpi : ∀ p, c.inn = some p → p.length ≤ 262144) (hpo : ∀ p, c.out = some p → p.length ≤ 262144) (i : List UInt8) (hi : inOf st c.inn = some i)
    (n : Int) (t : List UInt8) (ht : t.length ≤ 1073741824) (st1 : PStore) (left1 : List PCmd)
    (hrun : ∀ W, IsStore pb mb st W → IsProc K ppb v pr W → StrsAt K W wv c.words → Below w.heap.size w W → Calls Tryz.prog 58 #[.pointer (some ⟨ppb, 0, none⟩), wv, .string ⟨i.toArray⟩, .pointer (some ⟨pb, 0, none⟩)] W fun e W' => e = .returned (.tuple #[.int .i64 n, .string ⟨t.toArray⟩]) ∧ IsStore pb mb st1 W' ∧ IsProc K ppb v ⟨left1, pr.status, pr.said⟩ W' ∧ Keeps W.heap.size (fun k => k = pb ∨ k = mb ∨ k = ppb) W W') :
    Calls Tryz.prog 37 #[.pointer (some ⟨ppb, 0, none⟩), .agg #[strV c.op, wv, iv, ov, .bool c.add], .pointer (some ⟨pb, 0, none⟩)] w fun e w' => e = .returned (.tuple #[]) ∧ IsStore pb mb (doesOut st1 left1 n t pr.said c.out c.add).1 w' ∧ (∃ v', IsProc K ppb v' (doesOut st1 left1 n t pr.said c.out c.add).2 w' ∧ RowFrom w.heap.size v v') ∧ Keeps w.heap.size (fun k => k = pb ∨ k = mb ∨ k = ppb ∨ v.ownBlock = some k) w w' := by
  obtain ⟨op, words, inn, out, add⟩ := c
  simp only at hwv hiv hov hpi hpo hi hrun ⊢
  cases inn with
  | none =>
    have hiv' : iv = .pointer none := hiv
    subst hiv'
    obtain rfl : i = [] := (Option.some.inj hi).symm
    cases out with
    | none =>
      have hov' : ov = .pointer none := hov
      subst hov'
      exact does_none_none pr st op words add w hp hs hK hap hsaid hwv n t ht st1 left1 hrun
    | some q =>
      cases add with
      | false => exact does_none_write pr st op words w hp hs hK hap hwv q (hpo q rfl) hov n t ht st1 left1 hrun
      | true => exact does_none_append pr st op words w hp hs hK hap hwv q (hpo q rfl) hov n t ht st1 left1 hrun
  | some p =>
    have hin : readF st p = (i, 0) := by
      change (if (readF st p).2 = 0 then some (readF st p).1 else none) = some i at hi
      by_cases h0 : (readF st p).2 = 0
      · rw [if_pos h0] at hi
        injection hi with hi
        rw [← hi, ← h0]
      · rw [if_neg h0] at hi
        cases hi
    cases out with
    | none =>
      have hov' : ov = .pointer none := hov
      subst hov'
      exact does_some_none pr st op words add w hp hs hK hap hsaid hwv p (hpi p rfl) hiv i hin n t ht st1 left1 hrun
    | some q =>
      cases add with
      | false => exact does_some_write pr st op words w hp hs hK hap hwv p (hpi p rfl) hiv q (hpo q rfl) hov i hin n t ht st1 left1 hrun
      | true => exact does_some_append pr st op words w hp hs hK hap hwv p (hpi p rfl) hiv q (hpo q rfl) hov i hin n t ht st1 left1 hrun
/-- .. what it should read is not there -/
theorem does_not {K : Nat → Prop} {ppb pb mb : Nat} {v wv iv ov : Value} (pr : PProc) (st : PStore) (c : PCmd) (w : World) (hp : IsProc K ppb v pr w) (hs : IsStore pb mb st w) (hK : ∀ k, K k → k < w.heap.size) (hap : ∀ k, k = pb ∨ k = mb → k ≠ ppb ∧ v.ownBlock ≠ some k ∧ ¬ K k)
    (hwv : StrsAt K w wv c.words) (hiv : PtrAt K w iv c.inn) (hpi : ∀ p, c.inn = some p → p.length ≤ 262144) (hi : inOf st c.inn = none) :
    Calls Tryz.prog 37 #[.pointer (some ⟨ppb, 0, none⟩), .agg #[strV c.op, wv, iv, ov, .bool c.add], .pointer (some ⟨pb, 0, none⟩)] w fun e w' => e = .returned (.tuple #[]) ∧ IsStore pb mb st w' ∧ (∃ v', IsProc K ppb v' ⟨pr.left, 1, pr.said⟩ w' ∧ RowFrom w.heap.size v v') ∧ Keeps w.heap.size (fun k => k = pb ∨ k = mb ∨ k = ppb ∨ v.ownBlock = some k) w w' := by
  obtain ⟨op, words, inn, out, add⟩ := c
  simp only at hwv hiv hpi hi ⊢
  cases inn with
  | none => cases hi
  | some p =>
    refine does_bad_any pr st op words add w hp hs hK hap hwv p (hpi p rfl) hiv ?_
    intro h0
    change (if (readF st p).2 = 0 then some (readF st p).1 else none) = none at hi
    rw [if_pos h0] at hi
    cases hi

end Go.Proofs.YtmagggflamdahaaGreatDoor
