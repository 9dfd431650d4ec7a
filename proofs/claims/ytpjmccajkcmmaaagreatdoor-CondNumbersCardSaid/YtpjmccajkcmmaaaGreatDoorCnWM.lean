/- bobstaylaw10.worlds, over scenes of no files. -/
import Derived.Test.YtpjmccajkcmmaaaGreatDoorTs
import Derived.Test.YtpjmccajkcmmaaaGreatDoorTt
import Derived.Test.YtpjmccajkcmmaaaGreatDoorTg
import Derived.Test.YtpjmccajkcmmaaaGreatDoorTe
namespace Go.Proofs.YtpjmccajkcmmaaaGreatDoor
open Go.RowKit

/-- a scene's variables, as they lie -/
structure VarsIn (a : Option Addr) (L : TMap) (w : World) : Prop where
  at' : ∀ i p, L[i]? = some p → ∃ g, a = some ⟨g, 0, none⟩ ∧ g < w.heap.size ∧ w.cell? ⟨g, i * 2, none⟩ = some (.string ⟨p.1.toArray⟩) ∧ w.cell? ⟨g, i * 2 + 1, none⟩ = some (.string ⟨p.2.toArray⟩)
/-- variables, put into the global scope -/
def putAll (vs : Nat → TMap) : TMap → Nat → TMap
  | [] => vs
  | p :: l => putAll (putVs vs 3 p.1 p.2) l
theorem putAll_snoc (vs : Nat → TMap) (l : TMap) (p : List UInt8 × List UInt8) : putAll vs (l ++ [p]) = putVs (putAll vs l) 3 p.1 p.2 := by
  induction l generalizing vs with
  | nil => rfl
  | cons q l ih => exact ih _
theorem putT_len (p v : List UInt8) (l : TMap) : (putT p v l).length ≤ l.length + 1 := by
  induction l with
  | nil => simp [putT]
  | cons q l ih =>
    obtain ⟨a, b⟩ := q
    unfold putT
    split
    · simp
    · simp only [List.length_cons]; omega
theorem putAll_len (n : Nat) (vs : Nat → TMap) (l : TMap) (h : (vs 3).length ≤ n) : (putAll vs l 3).length ≤ n + l.length := by
  induction l generalizing vs n with
  | nil => exact h
  | cons q l ih =>
    have := ih (n + 1) (putVs vs 3 q.1 q.2) (by
      have := putT_len q.1 q.2 (vs 3)
      show (if 3 = 3 then putT q.1 q.2 (vs 3) else vs 3).length ≤ _
      rw [if_pos rfl]
      omega)
    simp only [List.length_cons]
    exact Nat.le_trans this (by omega)

abbrev sceneO (a : Option Addr) (n c : Nat) (f0 : Int) : Obj := .cells #[.slice a n c, .slice none 0 0, .slice none 0 0, .slice none 0 0, .slice none 0 0, .int .i64 f0] 25 (0, 0)
abbrev worldO : Obj := .cells #[.pointer none, .pointer none, .slice none 0 0, .slice none 0 0, .slice none 0 0, .int .i64 0] 31 (0, 0)
abbrev rworldO : Obj := .cells #[.pointer none, .pointer none, .slice none 0 0, .slice none 0 0, .slice none 0 0, .int .i64 0] 35 (0, 0)
/-- the worlds, as they are being built -/
structure WJ (a : Option Addr) (L : TMap) (c : Nat) (f0 : Int) (w : World) (ub i j : Nat) (W : World) : Prop where
  h0 : W.heap[w.heap.size]? = some (sceneO a L.length c f0)
  h1 : W.heap[w.heap.size + 1]? = some worldO
  h2 : W.heap[w.heap.size + 1 + 1]? = some rworldO
  vars : IsVars (w.heap.size + 1 + 1 + 1) (fun i => w.heap.size + 1 + 1 + 1 + 1 + i) (putAll newVs (L.take i)) W
  set : ∃ l, RVAt ub ub l W ∧ l.length ≤ j
  lo : w.heap.size + 9 ≤ ub
  below : Below w.heap.size w W
section
variable {a : Option Addr} {L : TMap} {c : Nat} {f0 : Int} {w W W' : World} {ub i j : Nat}
theorem WJ.go (h : WJ a L c f0 w ub i j W) (hb : Below W.heap.size W W') : WJ a L c f0 w ub i j W' := by
  have hs := (Array.getElem?_eq_some_iff.1 h.h2).1
  obtain ⟨l, h1, h2⟩ := h.set
  exact ⟨(hb.block _ (by omega)).trans h.h0, (hb.block _ (by omega)).trans h.h1, (hb.block _ hs).trans h.h2, h.vars.below hb, ⟨l, h1.below hb, h2⟩, h.lo, h.below.trans (hb.mono h.below.size)⟩
theorem WJ.put (h : WJ a L c f0 w ub i j W) {p : List UInt8 × List UInt8} (hp : L[i]? = some p) (hv : IsVars (w.heap.size + 1 + 1 + 1) (fun i => w.heap.size + 1 + 1 + 1 + 1 + i) (putVs (putAll newVs (L.take i)) 3 p.1 p.2) W') (hk : Keeps W.heap.size (fun k => k = w.heap.size + 1 + 1 + 1 + 1 + 3) W W') : WJ a L c f0 w ub (i + 1) j W' := by
  have hs := (Array.getElem?_eq_some_iff.1 h.h2).1
  have hlo := h.lo
  have hz := h.below.size
  obtain ⟨l, h1, h2⟩ := h.set
  refine ⟨(hk.block _ (by omega) (by omega)).trans h.h0, (hk.block _ (by omega) (by omega)).trans h.h1, (hk.block _ hs (by omega)).trans h.h2, ?_, ⟨l, h1.keep (fun k hk1 hk2 => hk.block k hk2 (by omega)), h2⟩, h.lo, h.below.trans ((hk.mono hz (fun _ _ e => e)).below (fun k hk e => by omega))⟩
  rw [List.take_add_one, hp]
  simp only [Option.toList_some]
  rw [putAll_snoc]
  exact hv
theorem WJ.rput (h : WJ a L c f0 w ub i j W) (hs : ∃ l, RVAt ub ub l W' ∧ l.length ≤ j + 1) (hk : Keeps W.heap.size (fun k => k = ub) W W') : WJ a L c f0 w ub i (j + 1) W' := by
  have hs2 := (Array.getElem?_eq_some_iff.1 h.h2).1
  have hlo := h.lo
  have hz := h.below.size
  refine ⟨(hk.block _ (by omega) (by omega)).trans h.h0, (hk.block _ (by omega) (by omega)).trans h.h1, (hk.block _ hs2 (by omega)).trans h.h2, h.vars.keep (hk.block _ h.vars.lt (by omega)) (fun i hi => hk.block _ (h.vars.maps i hi).lt (by omega)), hs, h.lo, h.below.trans ((hk.mono hz (fun _ _ e => e)).below (fun k hk e => by omega))⟩
end

theorem results_two {fn : Func} {p q : Tmp} (h : fn.results = #[.cell p 31, .cell q 35]) (tmps : Array Value) (w : World) (b c : Nat) {xs ys : Array Value}
    (hp : tmps[p]?.getD undef = .pointer (some ⟨b, 0, none⟩)) (hq : tmps[q]?.getD undef = .pointer (some ⟨c, 0, none⟩))
    (gb : w.heap[b]? = some (.cells xs 31 (0, 0))) (gc : w.heap[c]? = some (.cells ys 35 (0, 0))) (hx : xs.size = 6) (hy : ys.size = 6) :
    (results fn tmps).run Tryz.prog w = .ok (.tuple #[.agg xs, .agg ys]) w := by
  have hl := run_loadVar_row (P := Tryz.prog) w b 31 31 xs (0, 0) _ gb Tryz.underlying31 rfl (by rw [hx]; kernel_rfl)
  have hl2 := run_loadVar_row (P := Tryz.prog) w c 35 35 ys (0, 0) _ gc Tryz.underlying35 rfl (by rw [hy]; kernel_rfl)
  simp [results, h, hp, hq, asAddr, hl, hl2]

set_option maxHeartbeats 8000000 in
set_option maxRecDepth 100000 in
theorem worlds_any (L : TMap) (hL : L.length ≤ 60) (hn : ∀ p ∈ L, Ascii p.1 ∧ rightS p.1 = true ∧ p.1.length ≤ 65536 ∧ p.2.length ≤ 65536) (a : Option Addr) (c : Nat) (f0 : Int) (w : World) (hs : VarsIn a L w) :
    Calls Tryz.prog 8 #[.agg #[.slice a L.length c, .slice none 0 0, .slice none 0 0, .slice none 0 0, .slice none 0 0, .int .i64 f0]] w fun e w' => ∃ (vb : Nat) (mb : Nat → Nat) (sp up rp : Option Addr), e = .returned (.tuple #[.agg #[.pointer (some ⟨vb, 0, none⟩), .pointer sp, .slice none 0 0, .slice none 0 0, .slice none 0 0, .int .i64 f0], .agg #[.pointer up, .pointer rp, .slice none 0 0, .slice none 0 0, .slice none 0 0, .int .i64 f0]]) ∧ IsVars vb mb (putAll newVs L) w' ∧ Below w.heap.size w w' := by
  have HN := Lib.hid (fun W => newVars_any W)
  have HSt := Lib.hid (fun W => new_store 1000 (by omega) W)
  have HRf := Lib.hid (fun W => refNewM_any W)
  obtain ⟨w3, hw3⟩ : ∃ w3, w3 = ((w.alloc (.cells #[.slice a L.length c, .slice none 0 0, .slice none 0 0, .slice none 0 0, .slice none 0 0, .int .i64 f0] 25)).alloc (.cells #[.pointer none, .pointer none, .slice none 0 0, .slice none 0 0, .slice none 0 0, .int .i64 0] 31)).alloc (.cells #[.pointer none, .pointer none, .slice none 0 0, .slice none 0 0, .slice none 0 0, .int .i64 0] 35) := ⟨_, rfl⟩
  go_enter Tryz.func8, Tryz.ntmps8
  go_wp2_with fail
  rw [← hw3]
  go_at_call 12
  refine (HN.out _).mono ?_
  rintro e w4 ⟨rfl, hv4, hb4⟩
  go_wp2_with fail
  go_at_call 13
  refine (HSt.out _).mono ?_
  rintro e w5 ⟨pb, smb, rfl, -, hb5, -, -⟩
  go_wp2_with fail
  go_at_call 14
  refine (HRf.out _).mono ?_
  rintro e w6 ⟨lv, rfl, hrow, hb6⟩
  obtain ⟨la, lc, rfl⟩ := ownsRow_slice hrow
  have g0 : w3.heap[w.heap.size]? = some (.cells #[.slice a L.length c, .slice none 0 0, .slice none 0 0, .slice none 0 0, .slice none 0 0, .int .i64 f0] 25 (0, 0)) := by
    rw [hw3]
    exact (Below.heap_alloc _ _ _ (by simp <;> omega)).trans ((Below.heap_alloc _ _ _ (by simp)).trans (heap_alloc_new w _))
  have g1 : w3.heap[w.heap.size + 1]? = some (.cells #[.pointer none, .pointer none, .slice none 0 0, .slice none 0 0, .slice none 0 0, .int .i64 0] 31 (0, 0)) := by
    rw [hw3]
    exact (Below.heap_alloc _ _ _ (by simp)).trans (heap_alloc2_new w _ _)
  have g2 : w3.heap[w.heap.size + 1 + 1]? = some (.cells #[.pointer none, .pointer none, .slice none 0 0, .slice none 0 0, .slice none 0 0, .int .i64 0] 35 (0, 0)) := by
    rw [hw3]
    have := heap_alloc2_new (w.alloc (.cells #[.slice a L.length c, .slice none 0 0, .slice none 0 0, .slice none 0 0, .slice none 0 0, .int .i64 f0] 25)) (.cells #[.pointer none, .pointer none, .slice none 0 0, .slice none 0 0, .slice none 0 0, .int .i64 0] 31) (.cells #[.pointer none, .pointer none, .slice none 0 0, .slice none 0 0, .slice none 0 0, .int .i64 0] 35)
    rw [show (w.alloc (.cells #[.slice a L.length c, .slice none 0 0, .slice none 0 0, .slice none 0 0, .slice none 0 0, .int .i64 f0] 25)).heap.size = w.heap.size + 1 by simp] at this
    exact this
  have hS3 : w3.heap.size = w.heap.size + 1 + 1 + 1 := by rw [hw3]; simp
  have hB3 : Below w.heap.size w w3 := by rw [hw3]; exact (((Below.refl _ w).alloc (Nat.le_refl _) _).alloc (by simp) _).alloc (by simp <;> omega) _
  have z4 := hb4.size
  have z5 := hb5.size
  have z6 := hb6.size
  obtain ⟨w7, hw7⟩ : ∃ w7, w7 = w6.alloc (.cells #[.int .i64 1000, .int .i64 0, .slice la 1 lc, .bool false, .slice none 0 0] 61) := ⟨_, rfl⟩
  have hv4' : IsVars (w.heap.size + 1 + 1 + 1) (fun i => w.heap.size + 1 + 1 + 1 + 1 + i) newVs w4 := by rw [hS3] at hv4; exact hv4
  have hlo : w.heap.size + 9 ≤ w4.heap.size := by
    have := (hv4'.maps 4 (by omega)).lt
    omega
  have hJ4 : WJ a L c f0 w w4.heap.size 0 0 (w4.alloc (.cells #[.slice none 0 0] 55)) := by
    have hb34 : Below w.heap.size w (w4.alloc (.cells #[.slice none 0 0] 55)) := (hB3.trans (hb4.mono (by omega))).alloc (by omega) _
    have n4 : ∀ k, k < w.heap.size + 3 → (w4.alloc (.cells #[.slice none 0 0] 55)).heap[k]? = w3.heap[k]? := fun k hk => (Below.heap_alloc _ _ _ (by omega)).trans (hb4.block k (by omega))
    exact ⟨(n4 _ (by omega)).trans g0, (n4 _ (by omega)).trans g1, (n4 _ (by omega)).trans g2, hv4'.below ((Below.refl _ _).alloc (Nat.le_refl _) _), ⟨[], ⟨⟨.slice none 0 0, heap_alloc_new _ _, ⟨rfl, .inl ⟨rfl, rfl⟩⟩⟩, Nat.le_refl _, by simp⟩, by simp⟩, hlo, hb34⟩
  have hJ7 : WJ a L c f0 w w4.heap.size 0 0 w7 := by rw [hw7]; exact ((hJ4.go hb5).go hb6).go ((Below.refl _ _).alloc (Nat.le_refl _) _)
  have e0 : w7.cell? ⟨w.heap.size, 0, none⟩ = some (.slice a L.length c) := Lib.cell_of_heap hJ7.h0 0
  rw [hw7] at e0
  have HJ7 := Lib.hid hJ7
  generalize w4.heap.size = ub at hJ7 HJ7 hlo ⊢
  clear hv4' hlo hJ4 hJ7 g0 g1 g2 hS3 hB3 z4 z5 z6 hv4 hb4 hb5 hb6 hrow hw3
  go_wp2_with fail
  rw [← hw7]
  clear hw7 e0
  go_loopw [11, 28] (fun _ v28 wr => ∃ i : Nat, v28 = .int .i64 i ∧ i ≤ L.length ∧ Hid (WJ a L c f0 w ub i i wr)) (fun _ v28 _ => L.length + 1 - (intOf v28).toNat)
  case atStart => exact ⟨0, rfl, Nat.zero_le _, HJ7⟩
  case round =>
    clear HJ7
    obtain ⟨i, rfl, hi, HJ⟩ := hrel
    by_cases hlt : i < L.length
    · obtain ⟨q, hq⟩ : ∃ q, L[i]? = some q := ⟨L[i], List.getElem?_eq_getElem hlt⟩
      obtain ⟨g, rfl, hg, hc0, hc1⟩ := hs.at' i q hq
      obtain ⟨hasc, hrt, hl1, hl2⟩ := hn q (List.mem_of_getElem? hq)
      have d0 : wr.cell? ⟨g, i * 2, none⟩ = some (.string ⟨q.1.toArray⟩) := (HJ.out.below.cell hg).trans hc0
      have d1 : wr.cell? ⟨g, i * 2 + 1, none⟩ = some (.string ⟨q.2.toArray⟩) := (HJ.out.below.cell hg).trans hc1
      have HJ1 := Lib.hid (HJ.out.go ((Below.refl _ _).alloc (Nat.le_refl _) (.cells #[.string ⟨q.1.toArray⟩, .string ⟨q.2.toArray⟩] 47)))
      have hbox : (wr.alloc (.cells #[.string ⟨q.1.toArray⟩, .string ⟨q.2.toArray⟩] 47)).heap[wr.heap.size]? = some (.cells #[.string ⟨q.1.toArray⟩, .string ⟨q.2.toArray⟩] 47 (0, 0)) := heap_alloc_new wr _
      have HP : Hid (Calls Tryz.prog 15 #[.pointer (some ⟨w.heap.size + 1 + 1 + 1, 0, none⟩), .int .i64 3, .string ⟨q.1.toArray⟩, .string ⟨q.2.toArray⟩] (wr.alloc (.cells #[.string ⟨q.1.toArray⟩, .string ⟨q.2.toArray⟩] 47)) fun e w' => e = .returned (.int .i64 0) ∧ IsVars (w.heap.size + 1 + 1 + 1) (fun i => w.heap.size + 1 + 1 + 1 + 1 + i) (putVs (putAll newVs (L.take i)) 3 q.1 q.2) w' ∧ Keeps (wr.alloc (.cells #[.string ⟨q.1.toArray⟩, .string ⟨q.2.toArray⟩] 47)).heap.size (fun k => k = w.heap.size + 1 + 1 + 1 + 1 + 3) (wr.alloc (.cells #[.string ⟨q.1.toArray⟩, .string ⟨q.2.toArray⟩] 47)) w') := Lib.hid (put_var 3 (by omega) (by omega) q.1 q.2 hasc hrt hl2 (by
        have := putAll_len 0 newVs (L.take i) (by simp [newVs])
        have h2 : (L.take i).length ≤ 60 := by rw [List.length_take]; omega
        omega) _ HJ1.out.vars)
      have HQ := Lib.hid hq
      have HBox := Lib.hid hbox
      have hszr : wr.heap.size < (wr.alloc (.cells #[.string ⟨q.1.toArray⟩, .string ⟨q.2.toArray⟩] 47)).heap.size := by simp
      have HSz := Lib.hid hszr
      have hne : wr.heap.size ≠ w.heap.size + 1 + 1 + 1 + 1 + 3 := by
        have := HJ.out.lo
        obtain ⟨l, h1, -⟩ := HJ.out.set
        obtain ⟨lv, h2, -⟩ := h1.cells
        have := (Array.getElem?_eq_some_iff.1 h2).1
        omega
      have HU := Lib.hid (fun l (hl : l.length ≤ i) W (hW : ub ≤ W.heap.size) (h : RVAt ub ub l W) => vPut_any 3 ⟨q.1.toArray⟩ ⟨q.2.toArray⟩ (by show q.1.toArray.size ≤ _; simp; omega) (by show q.2.toArray.size ≤ _; simp; omega) (by omega) W hW h)
      clear hq hg hc0 hc1 hasc hrt hl1 hl2 hbox hszr
      go_wp2_with fail
      go_at_call 15
      refine HP.out.mono ?_
      rintro e w2 ⟨rfl, hv2, hk2⟩
      have HJ2 := Lib.hid (HJ1.out.put HQ.out hv2 hk2)
      have HBox2 := Lib.hid ((hk2.block _ HSz.out hne).trans HBox.out)
      have b0 : w2.cell? ⟨wr.heap.size, 0, none⟩ = some (.string ⟨q.1.toArray⟩) := Lib.cell_of_heap HBox2.out 0
      have b1 : w2.cell? ⟨wr.heap.size, 1, none⟩ = some (.string ⟨q.2.toArray⟩) := Lib.cell_of_heap HBox2.out 1
      have HU2 : Hid (Calls Tryz.prog 16 #[.pointer (some ⟨ub, 0, none⟩), .int .i64 3, .string ⟨q.1.toArray⟩, .string ⟨q.2.toArray⟩] w2 fun e w' => (∃ i : Int, e = .returned (.int .i64 i)) ∧ (∃ l, RVAt ub ub l w' ∧ l.length ≤ i + 1) ∧ Keeps w2.heap.size (fun k => k = ub) w2 w') := Lib.hid (by
        obtain ⟨l, h1, h2⟩ := HJ2.out.set
        have hub : ub ≤ w2.heap.size := by obtain ⟨lv, h3, -⟩ := h1.cells; have := (Array.getElem?_eq_some_iff.1 h3).1; omega
        refine (HU.out l h2 w2 hub h1).mono ?_
        rintro e w' ⟨he, ⟨l', h4, h5⟩, hk⟩
        exact ⟨he, ⟨l', h4, by omega⟩, hk⟩)
      clear hv2 hk2 HP HJ1 HBox HSz hne HU HBox2 d0 d1
      go_wp2_with fail
      go_at_call 16
      refine HU2.out.mono ?_
      rintro e w3 ⟨⟨k, rfl⟩, hs3, hk3⟩
      have HJ3 := Lib.hid (HJ2.out.rput hs3 hk3)
      clear hs3 hk3 HJ2 HU2 b0 b1
      go_wp2
      go_roundw
      case rel => exact ⟨i + 1, by go_num, by omega, HJ3⟩
      case measure => simp [intOf]; omega
    · obtain rfl : i = L.length := by omega
      have e1 : wr.cell? ⟨w.heap.size, 1, none⟩ = some (.slice none 0 0) := Lib.cell_of_heap HJ.out.h0 1
      go_wp2
      go_loop [13, 50] (fun _ v50 => v50 = .int .i64 0) (fun _ _ => 0)
      case atStart => rfl
      case round =>
        obtain rfl := hrel
        have s2 : wr.cell? ⟨w.heap.size, 2, none⟩ = some (.slice none 0 0) := Lib.cell_of_heap HJ.out.h0 2
        have sd2 : wr.drew.cell? ⟨w.heap.size, 2, none⟩ = some (.slice none 0 0) := s2
        have s3 : wr.cell? ⟨w.heap.size, 3, none⟩ = some (.slice none 0 0) := Lib.cell_of_heap HJ.out.h0 3
        have sd3 : wr.drew.cell? ⟨w.heap.size, 3, none⟩ = some (.slice none 0 0) := s3
        have s4 : wr.cell? ⟨w.heap.size, 4, none⟩ = some (.slice none 0 0) := Lib.cell_of_heap HJ.out.h0 4
        have sd4 : wr.drew.cell? ⟨w.heap.size, 4, none⟩ = some (.slice none 0 0) := s4
        have s5 : wr.cell? ⟨w.heap.size, 5, none⟩ = some (.int .i64 f0) := Lib.cell_of_heap HJ.out.h0 5
        have sd5 : wr.drew.cell? ⟨w.heap.size, 5, none⟩ = some (.int .i64 f0) := s5
        have x0 : wr.cell? ⟨w.heap.size + 1, 0, none⟩ = some (.pointer none) := Lib.cell_of_heap HJ.out.h1 0
        have xf0 : wr.frozen? ⟨w.heap.size + 1, 0, none⟩ = false := Lib.frozen_of_heap HJ.out.h1 0
        have x1 : wr.cell? ⟨w.heap.size + 1, 1, none⟩ = some (.pointer none) := Lib.cell_of_heap HJ.out.h1 1
        have xf1 : wr.frozen? ⟨w.heap.size + 1, 1, none⟩ = false := Lib.frozen_of_heap HJ.out.h1 1
        have x2 : wr.cell? ⟨w.heap.size + 1, 2, none⟩ = some (.slice none 0 0) := Lib.cell_of_heap HJ.out.h1 2
        have xf2 : wr.frozen? ⟨w.heap.size + 1, 2, none⟩ = false := Lib.frozen_of_heap HJ.out.h1 2
        have x3 : wr.cell? ⟨w.heap.size + 1, 3, none⟩ = some (.slice none 0 0) := Lib.cell_of_heap HJ.out.h1 3
        have xf3 : wr.frozen? ⟨w.heap.size + 1, 3, none⟩ = false := Lib.frozen_of_heap HJ.out.h1 3
        have x4 : wr.cell? ⟨w.heap.size + 1, 4, none⟩ = some (.slice none 0 0) := Lib.cell_of_heap HJ.out.h1 4
        have xf4 : wr.frozen? ⟨w.heap.size + 1, 4, none⟩ = false := Lib.frozen_of_heap HJ.out.h1 4
        have x5 : wr.cell? ⟨w.heap.size + 1, 5, none⟩ = some (.int .i64 0) := Lib.cell_of_heap HJ.out.h1 5
        have xf5 : wr.frozen? ⟨w.heap.size + 1, 5, none⟩ = false := Lib.frozen_of_heap HJ.out.h1 5
        have y0 : wr.cell? ⟨w.heap.size + 1 + 1, 0, none⟩ = some (.pointer none) := Lib.cell_of_heap HJ.out.h2 0
        have yf0 : wr.frozen? ⟨w.heap.size + 1 + 1, 0, none⟩ = false := Lib.frozen_of_heap HJ.out.h2 0
        have y1 : wr.cell? ⟨w.heap.size + 1 + 1, 1, none⟩ = some (.pointer none) := Lib.cell_of_heap HJ.out.h2 1
        have yf1 : wr.frozen? ⟨w.heap.size + 1 + 1, 1, none⟩ = false := Lib.frozen_of_heap HJ.out.h2 1
        have y2 : wr.cell? ⟨w.heap.size + 1 + 1, 2, none⟩ = some (.slice none 0 0) := Lib.cell_of_heap HJ.out.h2 2
        have yf2 : wr.frozen? ⟨w.heap.size + 1 + 1, 2, none⟩ = false := Lib.frozen_of_heap HJ.out.h2 2
        have y3 : wr.cell? ⟨w.heap.size + 1 + 1, 3, none⟩ = some (.slice none 0 0) := Lib.cell_of_heap HJ.out.h2 3
        have yf3 : wr.frozen? ⟨w.heap.size + 1 + 1, 3, none⟩ = false := Lib.frozen_of_heap HJ.out.h2 3
        have y4 : wr.cell? ⟨w.heap.size + 1 + 1, 4, none⟩ = some (.slice none 0 0) := Lib.cell_of_heap HJ.out.h2 4
        have yf4 : wr.frozen? ⟨w.heap.size + 1 + 1, 4, none⟩ = false := Lib.frozen_of_heap HJ.out.h2 4
        have y5 : wr.cell? ⟨w.heap.size + 1 + 1, 5, none⟩ = some (.int .i64 0) := Lib.cell_of_heap HJ.out.h2 5
        have yf5 : wr.frozen? ⟨w.heap.size + 1 + 1, 5, none⟩ = false := Lib.frozen_of_heap HJ.out.h2 5
        go_wp2_with fail
        have HB0 := Lib.hid (show wr.drew.heap[w.heap.size]? = some (sceneO a L.length c f0) from HJ.out.h0)
        have HX0 := Lib.hid (show wr.drew.heap[w.heap.size + 1]? = some worldO from HJ.out.h1)
        have HY0 := Lib.hid (show wr.drew.heap[w.heap.size + 1 + 1]? = some rworldO from HJ.out.h2)
        have hgd : ∀ (l : Array Bool) (j : Nat), l.getD j true = false → l.getD j false = false := fun l j h => getD_both h
        refine wp_region_inv (by kernel_rfl) (WI (w.heap.size) (w.heap.size + 1 + 1 + 1) pb ub w6.heap.size f0 wr.drew) ?h0 ?hs ?he
        case h0 => exact ⟨rfl, rfl, rfl, rfl, rfl, rfl, rfl, rfl, rfl, rfl, fun j _ hj => (by have := getD_replicate_false 23 j; rw [show (Array.replicate 23 false).getD j false = true from hj] at this; cases this), fun hj => (by cases hj), rfl⟩
        case hs =>
          intro listed a1 w1 hI i hi
          obtain ⟨hun, o, ho, hall⟩ := mem_ready.1 hi
          have hi23 : i < 23 := (Array.getElem?_eq_some_iff.1 ho).1
          have HI := Lib.hid hI
          have hb := (hI.other w.heap.size (by omega) (by omega)).trans HB0.out
          have sc2 : w1.cell? ⟨w.heap.size, 2, none⟩ = some nv := Lib.cell_of_heap hb 2
          have sc3 : w1.cell? ⟨w.heap.size, 3, none⟩ = some nv := Lib.cell_of_heap hb 3
          have sc4 : w1.cell? ⟨w.heap.size, 4, none⟩ = some nv := Lib.cell_of_heap hb 4
          have sc5 : w1.cell? ⟨w.heap.size, 5, none⟩ = some (.int .i64 f0) := Lib.cell_of_heap hb 5
          obtain ⟨-, -, -, t1, t2, t3, t4, t5, t6, t8, -, -, -⟩ := hI
          clear hb hi
          match i, hi23 with
          | 0, _ =>
            cases ho
            refine wpOp_of_run rfl rfl ?_ (HI.out.val 0 (by omega))
            simp only [List.getElem_toArray, List.getElem_cons_zero]
            simp [execOp, Act.eval, go_sem, wiV, t4]
          | 1, _ =>
            cases ho
            refine wpOp_of_run rfl rfl ?_ (HI.out.val 1 (by omega))
            simp only [List.getElem_toArray, List.getElem_cons_zero, List.getElem_cons_succ]
            simp [execOp, Act.eval, go_sem, wiV, t6]
          | 2, _ =>
            cases ho
            refine wpOp_of_run rfl rfl ?_ (HI.out.val 2 (by omega))
            simp only [List.getElem_toArray, List.getElem_cons_zero, List.getElem_cons_succ]
            simp [execOp, Act.eval, go_sem, wiV, t1]
          | 3, _ =>
            cases ho
            have v2 : a1.tmps[64]?.getD undef = _ := HI.out.vals 2 (by omega) (hall ⟨2, .data⟩ (by simp) rfl)
            refine wpOp_of_run rfl rfl ?_ (HI.out.val 3 (by omega))
            simp [wiV] at v2
            simp only [List.getElem_toArray, List.getElem_cons_zero, List.getElem_cons_succ]
            simp [execOp, Act.eval, go_sem, wiV, v2, sc2]
          | 4, _ =>
            cases ho
            refine wpOp_of_run rfl rfl ?_ (HI.out.val 4 (by omega))
            simp only [List.getElem_toArray, List.getElem_cons_zero, List.getElem_cons_succ]
            simp [execOp, Act.eval, go_sem, wiV, t1]
          | 5, _ =>
            cases ho
            have v4 : a1.tmps[66]?.getD undef = _ := HI.out.vals 4 (by omega) (hall ⟨4, .data⟩ (by simp) rfl)
            refine wpOp_of_run rfl rfl ?_ (HI.out.val 5 (by omega))
            simp [wiV] at v4
            simp only [List.getElem_toArray, List.getElem_cons_zero, List.getElem_cons_succ]
            simp [execOp, Act.eval, go_sem, wiV, v4, sc3]
          | 6, _ =>
            cases ho
            refine wpOp_of_run rfl rfl ?_ (HI.out.val 6 (by omega))
            simp only [List.getElem_toArray, List.getElem_cons_zero, List.getElem_cons_succ]
            simp [execOp, Act.eval, go_sem, wiV, t1]
          | 7, _ =>
            cases ho
            have v6 : a1.tmps[68]?.getD undef = _ := HI.out.vals 6 (by omega) (hall ⟨6, .data⟩ (by simp) rfl)
            refine wpOp_of_run rfl rfl ?_ (HI.out.val 7 (by omega))
            simp [wiV] at v6
            simp only [List.getElem_toArray, List.getElem_cons_zero, List.getElem_cons_succ]
            simp [execOp, Act.eval, go_sem, wiV, v6, sc4]
          | 8, _ =>
            cases ho
            refine wpOp_of_run rfl rfl ?_ (HI.out.val 8 (by omega))
            simp only [List.getElem_toArray, List.getElem_cons_zero, List.getElem_cons_succ]
            simp [execOp, Act.eval, go_sem, wiV, t1]
          | 9, _ =>
            cases ho
            have v8 : a1.tmps[70]?.getD undef = _ := HI.out.vals 8 (by omega) (hall ⟨8, .data⟩ (by simp) rfl)
            refine wpOp_of_run rfl rfl ?_ (HI.out.val 9 (by omega))
            simp [wiV] at v8
            simp only [List.getElem_toArray, List.getElem_cons_zero, List.getElem_cons_succ]
            simp [execOp, Act.eval, go_sem, wiV, v8, sc5]
          | 10, _ =>
            cases ho
            have v0 : a1.tmps[62]?.getD undef = _ := HI.out.vals 0 (by omega) (hall ⟨0, .data⟩ (by simp) rfl)
            have v1 : a1.tmps[63]?.getD undef = _ := HI.out.vals 1 (by omega) (hall ⟨1, .data⟩ (by simp) rfl)
            have v3 : a1.tmps[65]?.getD undef = _ := HI.out.vals 3 (by omega) (hall ⟨3, .data⟩ (by simp) rfl)
            have v5 : a1.tmps[67]?.getD undef = _ := HI.out.vals 5 (by omega) (hall ⟨5, .data⟩ (by simp) rfl)
            have v7 : a1.tmps[69]?.getD undef = _ := HI.out.vals 7 (by omega) (hall ⟨7, .data⟩ (by simp) rfl)
            have v9 : a1.tmps[71]?.getD undef = _ := HI.out.vals 9 (by omega) (hall ⟨9, .data⟩ (by simp) rfl)
            refine wpOp_of_run rfl rfl ?_ (HI.out.val 10 (by omega))
            simp [wiV] at v0
            simp [wiV] at v1
            simp [wiV] at v3
            simp [wiV] at v5
            simp [wiV] at v7
            simp [wiV] at v9
            simp only [List.getElem_toArray, List.getElem_cons_zero, List.getElem_cons_succ]
            simp [execOp, Act.eval, go_sem, wiV, v0, v1, v3, v5, v7, v9]
          | 11, _ =>
            cases ho
            refine wpOp_of_run rfl rfl ?_ (HI.out.val 11 (by omega))
            simp only [List.getElem_toArray, List.getElem_cons_zero, List.getElem_cons_succ]
            simp [execOp, Act.eval, go_sem, wiV, t5]
          | 12, _ =>
            cases ho
            refine wpOp_of_run rfl rfl ?_ (HI.out.val 12 (by omega))
            simp only [List.getElem_toArray, List.getElem_cons_zero, List.getElem_cons_succ]
            simp [execOp, Act.eval, go_sem, wiV, t1]
          | 13, _ =>
            cases ho
            have v12 : a1.tmps[74]?.getD undef = _ := HI.out.vals 12 (by omega) (hall ⟨12, .data⟩ (by simp) rfl)
            refine wpOp_of_run rfl rfl ?_ (HI.out.val 13 (by omega))
            simp [wiV] at v12
            simp only [List.getElem_toArray, List.getElem_cons_zero, List.getElem_cons_succ]
            simp [execOp, Act.eval, go_sem, wiV, v12, sc2]
          | 14, _ =>
            cases ho
            refine wpOp_of_run rfl rfl ?_ (HI.out.val 14 (by omega))
            simp only [List.getElem_toArray, List.getElem_cons_zero, List.getElem_cons_succ]
            simp [execOp, Act.eval, go_sem, wiV, t1]
          | 15, _ =>
            cases ho
            have v14 : a1.tmps[76]?.getD undef = _ := HI.out.vals 14 (by omega) (hall ⟨14, .data⟩ (by simp) rfl)
            refine wpOp_of_run rfl rfl ?_ (HI.out.val 15 (by omega))
            simp [wiV] at v14
            simp only [List.getElem_toArray, List.getElem_cons_zero, List.getElem_cons_succ]
            simp [execOp, Act.eval, go_sem, wiV, v14, sc3]
          | 16, _ =>
            cases ho
            refine wpOp_of_run rfl rfl ?_ (HI.out.val 16 (by omega))
            simp only [List.getElem_toArray, List.getElem_cons_zero, List.getElem_cons_succ]
            simp [execOp, Act.eval, go_sem, wiV, t1]
          | 17, _ =>
            cases ho
            have v16 : a1.tmps[78]?.getD undef = _ := HI.out.vals 16 (by omega) (hall ⟨16, .data⟩ (by simp) rfl)
            refine wpOp_of_run rfl rfl ?_ (HI.out.val 17 (by omega))
            simp [wiV] at v16
            simp only [List.getElem_toArray, List.getElem_cons_zero, List.getElem_cons_succ]
            simp [execOp, Act.eval, go_sem, wiV, v16, sc4]
          | 18, _ =>
            cases ho
            refine wpOp_of_run rfl rfl ?_ (HI.out.val 18 (by omega))
            simp only [List.getElem_toArray, List.getElem_cons_zero, List.getElem_cons_succ]
            simp [execOp, Act.eval, go_sem, wiV, t1]
          | 19, _ =>
            cases ho
            have v18 : a1.tmps[80]?.getD undef = _ := HI.out.vals 18 (by omega) (hall ⟨18, .data⟩ (by simp) rfl)
            refine wpOp_of_run rfl rfl ?_ (HI.out.val 19 (by omega))
            simp [wiV] at v18
            simp only [List.getElem_toArray, List.getElem_cons_zero, List.getElem_cons_succ]
            simp [execOp, Act.eval, go_sem, wiV, v18, sc5]
          | 20, _ =>
            cases ho
            have v11 : a1.tmps[73]?.getD undef = _ := HI.out.vals 11 (by omega) (hall ⟨11, .data⟩ (by simp) rfl)
            have v13 : a1.tmps[75]?.getD undef = _ := HI.out.vals 13 (by omega) (hall ⟨13, .data⟩ (by simp) rfl)
            have v15 : a1.tmps[77]?.getD undef = _ := HI.out.vals 15 (by omega) (hall ⟨15, .data⟩ (by simp) rfl)
            have v17 : a1.tmps[79]?.getD undef = _ := HI.out.vals 17 (by omega) (hall ⟨17, .data⟩ (by simp) rfl)
            have v19 : a1.tmps[81]?.getD undef = _ := HI.out.vals 19 (by omega) (hall ⟨19, .data⟩ (by simp) rfl)
            refine wpOp_of_run rfl rfl ?_ (HI.out.val 20 (by omega))
            simp [wiV] at v11
            simp [wiV] at v13
            simp [wiV] at v15
            simp [wiV] at v17
            simp [wiV] at v19
            simp only [List.getElem_toArray, List.getElem_cons_zero, List.getElem_cons_succ]
            simp [execOp, Act.eval, go_sem, wiV, t8, v11, v13, v15, v17, v19]
          | 21, _ =>
            cases ho
            have v10 : a1.tmps[72]?.getD undef = _ := HI.out.vals 10 (by omega) (hall ⟨10, .data⟩ (by simp) rfl)
            simp [wiV] at v10
            have h21 := hgd _ _ hun
            have hu : listed.getD 22 false = false := by
              cases h : listed.getD 22 false with
              | false => rfl
              | true => have := HI.out.chain h; rw [h21] at this; cases this
            have hw : w1 = wr.drew := by
              have := HI.out.world
              rw [hu, h21] at this
              simpa using this
            have hx : w1.heap[w.heap.size + 1]? = some worldO := by rw [hw]; exact HX0.out
            have x0 : w1.cell? ⟨w.heap.size + 1, 0, none⟩ = some (.pointer none) := Lib.cell_of_heap hx 0
            have xf0 : w1.frozen? ⟨w.heap.size + 1, 0, none⟩ = false := Lib.frozen_of_heap hx 0
            have x1 : w1.cell? ⟨w.heap.size + 1, 1, none⟩ = some (.pointer none) := Lib.cell_of_heap hx 1
            have xf1 : w1.frozen? ⟨w.heap.size + 1, 1, none⟩ = false := Lib.frozen_of_heap hx 1
            have x2 : w1.cell? ⟨w.heap.size + 1, 2, none⟩ = some (nv) := Lib.cell_of_heap hx 2
            have xf2 : w1.frozen? ⟨w.heap.size + 1, 2, none⟩ = false := Lib.frozen_of_heap hx 2
            have x3 : w1.cell? ⟨w.heap.size + 1, 3, none⟩ = some (nv) := Lib.cell_of_heap hx 3
            have xf3 : w1.frozen? ⟨w.heap.size + 1, 3, none⟩ = false := Lib.frozen_of_heap hx 3
            have x4 : w1.cell? ⟨w.heap.size + 1, 4, none⟩ = some (nv) := Lib.cell_of_heap hx 4
            have xf4 : w1.frozen? ⟨w.heap.size + 1, 4, none⟩ = false := Lib.frozen_of_heap hx 4
            have x5 : w1.cell? ⟨w.heap.size + 1, 5, none⟩ = some (.int .i64 0) := Lib.cell_of_heap hx 5
            have xf5 : w1.frozen? ⟨w.heap.size + 1, 5, none⟩ = false := Lib.frozen_of_heap hx 5
            refine wpOp_of_skip rfl rfl ?_ rfl (HI.out.st1 hu)
            simp only [List.getElem_toArray, List.getElem_cons_zero, List.getElem_cons_succ]
            simp [execOp, Act.eval, go_sem, t2, v10, wiW1, ← hw, set6, x0, xf0, x1, xf1, x2, xf2, x3, xf3, x4, xf4, x5, xf5]
          | 22, _ =>
            cases ho
            have v20 : a1.tmps[82]?.getD undef = _ := HI.out.vals 20 (by omega) (hall ⟨20, .data⟩ (by simp) rfl)
            simp [wiV] at v20
            have h21 : listed.getD 21 false = true := hall ⟨21, .chain⟩ (by simp) rfl
            have h22 := hgd _ _ hun
            have hw : w1 = wiW1 w.heap.size (w.heap.size + 1 + 1 + 1) pb f0 wr.drew := by
              have := HI.out.world
              rw [h22, h21] at this
              simpa using this
            have hy : w1.heap[w.heap.size + 1 + 1]? = some rworldO := by
              rw [hw]
              exact (set6_ne _ _ _ _ _ _ _ _ _ (by omega)).trans HY0.out
            have x0 : w1.cell? ⟨w.heap.size + 1 + 1, 0, none⟩ = some (.pointer none) := Lib.cell_of_heap hy 0
            have xf0 : w1.frozen? ⟨w.heap.size + 1 + 1, 0, none⟩ = false := Lib.frozen_of_heap hy 0
            have x1 : w1.cell? ⟨w.heap.size + 1 + 1, 1, none⟩ = some (.pointer none) := Lib.cell_of_heap hy 1
            have xf1 : w1.frozen? ⟨w.heap.size + 1 + 1, 1, none⟩ = false := Lib.frozen_of_heap hy 1
            have x2 : w1.cell? ⟨w.heap.size + 1 + 1, 2, none⟩ = some (nv) := Lib.cell_of_heap hy 2
            have xf2 : w1.frozen? ⟨w.heap.size + 1 + 1, 2, none⟩ = false := Lib.frozen_of_heap hy 2
            have x3 : w1.cell? ⟨w.heap.size + 1 + 1, 3, none⟩ = some (nv) := Lib.cell_of_heap hy 3
            have xf3 : w1.frozen? ⟨w.heap.size + 1 + 1, 3, none⟩ = false := Lib.frozen_of_heap hy 3
            have x4 : w1.cell? ⟨w.heap.size + 1 + 1, 4, none⟩ = some (nv) := Lib.cell_of_heap hy 4
            have xf4 : w1.frozen? ⟨w.heap.size + 1 + 1, 4, none⟩ = false := Lib.frozen_of_heap hy 4
            have x5 : w1.cell? ⟨w.heap.size + 1 + 1, 5, none⟩ = some (.int .i64 0) := Lib.cell_of_heap hy 5
            have xf5 : w1.frozen? ⟨w.heap.size + 1 + 1, 5, none⟩ = false := Lib.frozen_of_heap hy 5
            refine wpOp_of_skip rfl rfl ?_ rfl (HI.out.st2 h21)
            simp only [List.getElem_toArray, List.getElem_cons_zero, List.getElem_cons_succ]
            simp [execOp, Act.eval, go_sem, t3, v20, wiW2, ← hw, set6, x0, xf0, x1, xf1, x2, xf2, x3, xf3, x4, xf4, x5, xf5]
        case he =>
          intro listed a1 w1 hI hr
          have hl := all_listed (by kernel_rfl) hI.sz hr
          have hw : w1 = wiW2 w.heap.size (w.heap.size + 1 + 1 + 1) pb ub w6.heap.size f0 wr.drew := by
            have := hI.world
            rw [hl 22 (by decide)] at this
            simpa using this
          have hx := set6_at (pv (w.heap.size + 1 + 1 + 1) 0) (pv pb 0) nv nv nv (.int .i64 f0) HX0.out
          have hx2 : w1.heap[w.heap.size + 1]? = some (.cells #[pv (w.heap.size + 1 + 1 + 1) 0, pv pb 0, nv, nv, nv, .int .i64 f0] 31 (0, 0)) := by rw [hw]; exact (set6_ne _ _ _ _ _ _ _ _ _ (by omega)).trans hx
          have hy2 : w1.heap[w.heap.size + 1 + 1]? = some (.cells #[pv ub 0, pv w6.heap.size 0, nv, nv, nv, .int .i64 f0] 35 (0, 0)) := by rw [hw]; exact set6_at (pv ub 0) (pv w6.heap.size 0) nv nv nv (.int .i64 f0) ((set6_ne _ _ _ _ _ _ _ _ _ (by omega)).trans HY0.out)
          have hB0 : Below w.heap.size w wr.drew := HJ.out.below.trans ⟨rfl, rfl, rfl, Nat.le_refl _, fun _ _ => rfl⟩
          have hB1 : Below w.heap.size w w1 := by rw [hw]; exact set6_below _ _ _ _ _ _ _ (set6_below _ _ _ _ _ _ _ hB0 (by omega)) (by omega)
          have hvr := HJ.out.vars
          rw [List.take_length] at hvr
          have hv1 : IsVars (w.heap.size + 1 + 1 + 1) (fun i => w.heap.size + 1 + 1 + 1 + 1 + i) (putAll newVs L) w1 := hvr.keep (by rw [hw]; exact (set6_ne _ _ _ _ _ _ _ _ _ (by omega)).trans (set6_ne _ _ _ _ _ _ _ _ _ (by omega))) (fun j hj => by rw [hw]; exact (set6_ne _ _ _ _ _ _ _ _ _ (by omega)).trans (set6_ne _ _ _ _ _ _ _ _ _ (by omega)))
          have HF := Lib.hid (And.intro hx2 (And.intro hy2 (And.intro hB1 hv1)))
          have HI := Lib.hid hI
          clear hx hx2 hy2 hB0 hB1 hvr hv1 hl hr hI hw
          go_wp2
          refine bodyPost_ret (results_two (p := 2) (q := 3) rfl a1.tmps w1 (w.heap.size + 1) (w.heap.size + 1 + 1) HI.out.t2 HI.out.t3 HF.out.1 HF.out.2.1 rfl rfl) HI.out.df ?_
          exact ⟨_, _, _, _, _, rfl, HF.out.2.2.2, HF.out.2.2.1⟩
end Go.Proofs.YtpjmccajkcmmaaaGreatDoor
