/- expand.Text. -/
import Derived.Test.YtpjmccajkcmmaaaGreatDoorTq
import Derived.Defers
import Derived.Recover
namespace Go.Proofs.YtpjmccajkcmmaaaGreatDoor
open Go.RowKit

set_option maxHeartbeats 1000000 in
set_option maxRecDepth 100000 in
theorem textC_idle (p q s : Addr) (w : World) :
    CallsD Tryz.prog 102 #[.pointer (some p), .pointer (some q), .pointer (some s)] .returning w fun e u' w' => e = .returned (.tuple #[]) ∧ u' = .returning ∧ w' = w := by
  have qn : ∀ w : World, (binOp .neq 20 .nilIface .nilIface).run Tryz.prog w = .ok (.bool false) w := fun _ => by kernel_rfl
  refine callsD_of_wpS Tryz.func102 rfl fun c₀ cs hu => ?_
  apply wpS_seq
  apply wpS_region
  simp [wpOpsS, go_sem, recoverD, hu, Tryz.ntmps102, Exit.thenS]
  refine wpS_of_wp ?_
  change Code.wp _ _ _ { tmps := #[.pointer (some p), .pointer (some q), .pointer (some s), .nilIface, undef, undef, .nilIface, undef, undef, undef, undef, undef, undef, undef, undef, undef, undef, undef, undef], defers := [] } _
  go_wp2
  all_goals
    cases c₀
    simp_all [bodyPostS, results, Tryz.results102]

set_option maxHeartbeats 1000000 in
set_option maxRecDepth 100000 in
theorem textC_panic (b : Nat) (x y z : Value) (k : Int) (w : World) (h0 : w.heap[b]? = some (.cells #[x] 9 (0, 0))) (h1 : w.heap[b + 1]? = some (.cells #[y] 3 (0, 0))) (h2 : w.heap[b + 2]? = some (.cells #[z] 38 (0, 0))) :
    CallsD Tryz.prog 102 #[.pointer (some ⟨b, 0, none⟩), .pointer (some ⟨b + 1, 0, none⟩), .pointer (some ⟨b + 2, 0, none⟩)] (.panicking (stopV k :: [])) w fun e u' w' => e = .returned (.tuple #[]) ∧ u' = .panicking ({ v := .iface 178 (.agg #[.int .i64 k]), recovered := true } :: []) ∧
      (w'.heap[b]? = some (.cells #[.string ⟨#[]⟩] 9 (0, 0)) ∧ w'.heap[b + 1]? = some (.cells #[.int .i64 0] 3 (0, 0)) ∧ w'.heap[b + 2]? = some (.cells #[.int .i64 k] 38 (0, 0)) ∧ Keeps b (fun _ => False) w w') := by
  have qn : ∀ w : World, (binOp .neq 20 (.iface 178 (.agg #[.int .i64 k])) .nilIface).run Tryz.prog w = .ok (.bool true) w := fun _ => by kernel_rfl
  have ta : ∀ w : World, (Instr.typeAssert (.iface 178 (.agg #[.int .i64 k])) 20 178 true).run Tryz.prog w = .ok (.tuple #[.agg #[.int .i64 k], .bool true]) w := fun _ => by kernel_rfl
  refine callsD_of_wpS Tryz.func102 rfl fun c₀ cs hu => ?_
  apply wpS_seq
  apply wpS_region
  unfold stopV at hu
  simp [wpOpsS, go_sem, recoverD, hu, Tryz.ntmps102, Exit.thenS]
  refine wpS_of_wp ?_
  change Code.wp _ _ _ { tmps := #[.pointer (some ⟨b, 0, none⟩), .pointer (some ⟨b + 1, 0, none⟩), .pointer (some ⟨b + 2, 0, none⟩), .iface 178 (.agg #[.int .i64 k]), undef, undef, .iface 178 (.agg #[.int .i64 k]), undef, undef, undef, undef, undef, undef, undef, undef, undef, undef, undef, undef], defers := [] } _
  have hb0 := (Array.getElem?_eq_some_iff.1 h0).1
  have hb1 := (Array.getElem?_eq_some_iff.1 h1).1
  have hb2 := (Array.getElem?_eq_some_iff.1 h2).1
  obtain ⟨w1, hw1⟩ : ∃ w1, w1 = w.alloc (.cells #[.int .i64 k] 178) := ⟨_, rfl⟩
  have g0 : w1.heap[b]? = some (.cells #[x] 9 (0, 0)) := by rw [hw1]; exact (heap_alloc_old w _ _ hb0).trans h0
  have g1 : w1.heap[b + 1]? = some (.cells #[y] 3 (0, 0)) := by rw [hw1]; exact (heap_alloc_old w _ _ hb1).trans h1
  have g2 : w1.heap[b + 2]? = some (.cells #[z] 38 (0, 0)) := by rw [hw1]; exact (heap_alloc_old w _ _ hb2).trans h2
  have g3 : w1.heap[w.heap.size]? = some (.cells #[.int .i64 k] 178 (0, 0)) := by rw [hw1]; exact heap_alloc_new w _
  have HK1 : Hid (Keeps b (fun _ => False) w w1) := Lib.hid (by rw [hw1]; exact (Keeps.refl b _ w).alloc (by omega) _)
  have e0 : w1.drew.cell? ⟨b, 0, none⟩ = some x := Lib.cell_of_heap (w := w1) g0 0
  have e1 : w1.drew.cell? ⟨b + 1, 0, none⟩ = some y := Lib.cell_of_heap (w := w1) g1 0
  have e2 : w1.drew.cell? ⟨b + 2, 0, none⟩ = some z := Lib.cell_of_heap (w := w1) g2 0
  have e3 : w1.drew.cell? ⟨w.heap.size, 0, none⟩ = some (.int .i64 k) := Lib.cell_of_heap (w := w1) g3 0
  have r0 : w1.drew.frozen? ⟨b, 0, none⟩ = false := Lib.frozen_of_heap (w := w1) g0 0
  have r1 : w1.drew.frozen? ⟨b + 1, 0, none⟩ = false := Lib.frozen_of_heap (w := w1) g1 0
  have r2 : w1.drew.frozen? ⟨b + 2, 0, none⟩ = false := Lib.frozen_of_heap (w := w1) g2 0
  rw [hw1] at e0 e1 e2 e3 r0 r1 r2
  have d0 : w.cell? ⟨b, 0, none⟩ = some x := Lib.cell_of_heap h0 0
  have d1 : w.cell? ⟨b + 1, 0, none⟩ = some y := Lib.cell_of_heap h1 0
  have d2 : w.cell? ⟨b + 2, 0, none⟩ = some z := Lib.cell_of_heap h2 0
  have s0 : w.frozen? ⟨b, 0, none⟩ = false := Lib.frozen_of_heap h0 0
  have s1 : w.frozen? ⟨b + 1, 0, none⟩ = false := Lib.frozen_of_heap h1 0
  have s2 : w.frozen? ⟨b + 2, 0, none⟩ = false := Lib.frozen_of_heap h2 0
  go_wp2_with fail
  go_region
  obtain ⟨W', hW'⟩ : ∃ W', W' = ((((w.setCell ⟨b, 0, none⟩ (.string ⟨#[]⟩)).setCell ⟨b + 1, 0, none⟩ (.int .i64 0)).setCell ⟨b + 2, 0, none⟩ (.int .i64 k)).alloc (.cells #[.int .i64 k] 178)).drew := ⟨_, rfl⟩
  have q0 : (w.setCell ⟨b, 0, none⟩ (.string ⟨#[]⟩)).heap[b]? = some (.cells #[.string ⟨#[]⟩] 9 (0, 0)) := by simpa using heap_set h0 0 (.string ⟨#[]⟩)
  have q1 : (w.setCell ⟨b, 0, none⟩ (.string ⟨#[]⟩)).heap[b + 1]? = some (.cells #[y] 3 (0, 0)) := (Below.heap_setCell w ⟨b, 0, none⟩ _ (b + 1) (show b + 1 ≠ b by omega)).trans h1
  have q2 : (w.setCell ⟨b, 0, none⟩ (.string ⟨#[]⟩)).heap[b + 2]? = some (.cells #[z] 38 (0, 0)) := (Below.heap_setCell w ⟨b, 0, none⟩ _ (b + 2) (show b + 2 ≠ b by omega)).trans h2
  have HF : Hid (W'.heap[b]? = some (.cells #[.string ⟨#[]⟩] 9 (0, 0)) ∧ W'.heap[b + 1]? = some (.cells #[.int .i64 0] 3 (0, 0)) ∧ W'.heap[b + 2]? = some (.cells #[.int .i64 k] 38 (0, 0)) ∧ Keeps b (fun _ => False) w W') := Lib.hid (by
    rw [hW']
    refine ⟨?_, ?_, ?_, ?_⟩
    · refine (Below.heap_alloc _ _ b (by simp; omega)).trans ?_
      refine (Below.heap_setCell _ ⟨b + 2, 0, none⟩ _ b (show b ≠ b + 2 by omega)).trans ?_
      exact (Below.heap_setCell _ ⟨b + 1, 0, none⟩ _ b (show b ≠ b + 1 by omega)).trans q0
    · refine (Below.heap_alloc _ _ (b + 1) (by simp; omega)).trans ?_
      refine (Below.heap_setCell _ ⟨b + 2, 0, none⟩ _ (b + 1) (show b + 1 ≠ b + 2 by omega)).trans ?_
      simpa using heap_set q1 0 (.int .i64 0)
    · refine (Below.heap_alloc _ _ (b + 2) (by simp; omega)).trans ?_
      have := heap_set ((Below.heap_setCell _ ⟨b + 1, 0, none⟩ (.int .i64 0) (b + 2) (show b + 2 ≠ b + 1 by omega)).trans q2) 0 (.int .i64 k)
      simpa using this
    · have hk := ((((Keeps.refl b (fun _ => False) w).setCell (p := ⟨b, 0, none⟩) (.inl (Nat.le_refl b)) (.string ⟨#[]⟩)).setCell (p := ⟨b + 1, 0, none⟩) (.inl (show b ≤ b + 1 by omega)) (.int .i64 0)).setCell (p := ⟨b + 2, 0, none⟩) (.inl (show b ≤ b + 2 by omega)) (.int .i64 k)).alloc (by simp; omega) (.cells #[.int .i64 k] 178)
      exact hk.drew)
  rw [← hW']
  clear hW' q0 q1 q2 d0 d1 d2 s0 s1 s2 e0 e1 e2 e3 r0 r1 r2 g0 g1 g2 g3 HK1 hw1 h0 h1 h2 qn ta
  rename_i Q'
  simp only [Q']
  clear Q'
  cases c₀
  simp_all [bodyPostS, results, Tryz.results102]
  exact HF.out

theorem three_set {w : World} {b : Nat} {x y z : Value} {T U V : TypeId} (x' y' z' : Value) (h0 : w.heap[b]? = some (.cells #[x] T (0, 0))) (h1 : w.heap[b + 1]? = some (.cells #[y] U (0, 0))) (h2 : w.heap[b + 1 + 1]? = some (.cells #[z] V (0, 0))) :
    (((w.setCell ⟨b, 0, none⟩ x').setCell ⟨b + 1, 0, none⟩ y').setCell ⟨b + 1 + 1, 0, none⟩ z').heap[b]? = some (.cells #[x'] T (0, 0)) ∧ (((w.setCell ⟨b, 0, none⟩ x').setCell ⟨b + 1, 0, none⟩ y').setCell ⟨b + 1 + 1, 0, none⟩ z').heap[b + 1]? = some (.cells #[y'] U (0, 0)) ∧ (((w.setCell ⟨b, 0, none⟩ x').setCell ⟨b + 1, 0, none⟩ y').setCell ⟨b + 1 + 1, 0, none⟩ z').heap[b + 1 + 1]? = some (.cells #[z'] V (0, 0)) := by
  have q0 : (w.setCell ⟨b, 0, none⟩ x').heap[b]? = some (.cells #[x'] T (0, 0)) := by simpa using heap_set h0 0 x'
  have q1 := (Below.heap_setCell w ⟨b, 0, none⟩ x' (b + 1) (show b + 1 ≠ b by omega)).trans h1
  have q2 := (Below.heap_setCell w ⟨b, 0, none⟩ x' (b + 1 + 1) (show b + 1 + 1 ≠ b by omega)).trans h2
  refine ⟨?_, ?_, ?_⟩
  · refine (Below.heap_setCell _ ⟨b + 1 + 1, 0, none⟩ _ b (show b ≠ b + 1 + 1 by omega)).trans ?_
    exact (Below.heap_setCell _ ⟨b + 1, 0, none⟩ _ b (show b ≠ b + 1 by omega)).trans q0
  · refine (Below.heap_setCell _ ⟨b + 1 + 1, 0, none⟩ _ (b + 1) (show b + 1 ≠ b + 1 + 1 by omega)).trans ?_
    simpa using heap_set q1 0 y'
  · have := heap_set ((Below.heap_setCell _ ⟨b + 1, 0, none⟩ y' (b + 1 + 1) (show b + 1 + 1 ≠ b + 1 by omega)).trans q2) 0 z'
    simpa using this
theorem results_three {fn : Func} {p q r : Tmp} (h : fn.results = #[.cell p 9, .cell q 3, .cell r 38]) (tmps : Array Value) (w : World) (a b c : Nat) (x y z : Value)
    (hp : tmps.getD p undef = .pointer (some ⟨a, 0, none⟩)) (hq : tmps.getD q undef = .pointer (some ⟨b, 0, none⟩)) (hr : tmps.getD r undef = .pointer (some ⟨c, 0, none⟩))
    (ga : w.cell? ⟨a, 0, none⟩ = some x) (gb : w.cell? ⟨b, 0, none⟩ = some y) (gc : w.cell? ⟨c, 0, none⟩ = some z) :
    (results fn tmps).run Tryz.prog w = .ok (.tuple #[x, y, z]) w := by
  have hp' : tmps[p]?.getD undef = .pointer (some ⟨a, 0, none⟩) := by simpa using hp
  have hq' : tmps[q]?.getD undef = .pointer (some ⟨b, 0, none⟩) := by simpa using hq
  have hr' : tmps[r]?.getD undef = .pointer (some ⟨c, 0, none⟩) := by simpa using hr
  simp [results, h, hp', hq', hr', asAddr, go_sem, ga, gb, gc]
/-- what a text means, as it comes back -/
def textV (r : Except Int (List UInt8 × Int)) : Value := match r with
  | .ok (t, f) => .tuple #[.string ⟨t.toArray⟩, .int .i64 f, .int .i64 0]
  | .error k => .tuple #[.string ⟨#[]⟩, .int .i64 0, .int .i64 k]
def ExTextQ (r : Except Int (List UInt8 × Int)) (w : World) (e : Ending) (w' : World) : Prop := e = .returned (textV r) ∧ (∀ t f, r = .ok (t, f) → t.length ≤ 65536) ∧ Below w.heap.size w w'
theorem IsVars.lt {vb : Nat} {mb : Nat → Nat} {vs : Nat → TMap} {w : World} (h : IsVars vb mb vs w) : vb < w.heap.size := (Array.getElem?_eq_some_iff.1 h.cells).1

set_option maxHeartbeats 4000000 in
set_option maxRecDepth 100000 in
theorem expText_any (E : XEnv) (hm : ∀ a b, E.mods a b = none) (N : Nat) {vb : Nat} {mb : Nat → Nat} {vs : Nat → TMap} (f0 : Int) (hlo : -9223372036854775808 ≤ f0) (hf : f0 ≤ 70368744177664) (s : List UInt8) (hs : s.length ≤ 70368744177664) (hE : E.get = getS vs)
    (r : Except Int (List UInt8 × Int)) (hr : textE E N [] [] (max f0 0) s = some r) (w : World) (h : IsVars vb mb vs w) :
    Calls Tryz.prog 80 #[.string ⟨s.toArray⟩, .pointer (some ⟨vb, 0, none⟩), .int .i64 f0] w (ExTextQ r w) := by
  have hmf : ∀ (fn : Fn) (first cap : Array Value) (w : World), (Instr.makeFunc fn first cap).run Tryz.prog w = .ok (.func fn first cap) w := fun _ _ _ _ => rfl
  have HC := Lib.hid (fun W (h : IsEx w.heap.size (w.heap.size + 1 + 1 + 1) vb mb vs (.slice none 0 0) [] (max f0 0) W) => (text_all E hm N).1 w.heap.size (w.heap.size + 1 + 1 + 1) vb mb vs (.slice none 0 0) [] (max f0 0) W s r h hE hs hr)
  obtain ⟨W4, hW4⟩ : ∃ W4, W4 = ((((w.alloc (.cells #[.string ⟨#[]⟩] 9)).alloc (.cells #[.int .i64 0] 3)).alloc (.cells #[.int .i64 0] 38)).alloc (.cells #[.pointer (some ⟨vb, 0, none⟩), .int .i64 (max f0 0), .slice none 0 0] 182)) := ⟨_, rfl⟩
  have hB4 : Below w.heap.size w W4 := by rw [hW4]; exact ((((Below.refl _ w).alloc (Nat.le_refl _) _).alloc (by simp) _).alloc (by simp; omega) _).alloc (by simp; omega) _
  have g0 : W4.heap[w.heap.size]? = some (.cells #[.string ⟨#[]⟩] 9 (0, 0)) := by
    rw [hW4]
    refine (heap_alloc_old _ _ _ (by simp <;> omega)).trans ?_
    refine (heap_alloc_old _ _ _ (by simp <;> omega)).trans ?_
    exact (heap_alloc_old _ _ _ (by simp)).trans (heap_alloc_new w _)
  have g1 : W4.heap[w.heap.size + 1]? = some (.cells #[.int .i64 0] 3 (0, 0)) := by
    rw [hW4]
    refine (heap_alloc_old _ _ _ (by simp <;> omega)).trans ?_
    refine (heap_alloc_old _ _ _ (by simp)).trans ?_
    have := heap_alloc_new (w.alloc (.cells #[.string ⟨#[]⟩] 9)) (.cells #[.int .i64 0] 3)
    rw [show (w.alloc (.cells #[.string ⟨#[]⟩] 9)).heap.size = w.heap.size + 1 by simp] at this
    exact this
  have g2 : W4.heap[w.heap.size + 1 + 1]? = some (.cells #[.int .i64 0] 38 (0, 0)) := by
    rw [hW4]
    refine (heap_alloc_old _ _ _ (by simp)).trans ?_
    have := heap_alloc_new ((w.alloc (.cells #[.string ⟨#[]⟩] 9)).alloc (.cells #[.int .i64 0] 3)) (.cells #[.int .i64 0] 38)
    rw [show ((w.alloc (.cells #[.string ⟨#[]⟩] 9)).alloc (.cells #[.int .i64 0] 3)).heap.size = w.heap.size + 1 + 1 by simp] at this
    exact this
  have g3 : W4.heap[w.heap.size + 1 + 1 + 1]? = some (.cells #[.pointer (some ⟨vb, 0, none⟩), .int .i64 (max f0 0), .slice none 0 0] 182 (0, 0)) := by
    rw [hW4]
    have := heap_alloc_new (((w.alloc (.cells #[.string ⟨#[]⟩] 9)).alloc (.cells #[.int .i64 0] 3)).alloc (.cells #[.int .i64 0] 38)) (.cells #[.pointer (some ⟨vb, 0, none⟩), .int .i64 (max f0 0), .slice none 0 0] 182)
    rw [show (((w.alloc (.cells #[.string ⟨#[]⟩] 9)).alloc (.cells #[.int .i64 0] 3)).alloc (.cells #[.int .i64 0] 38)).heap.size = w.heap.size + 1 + 1 + 1 by simp] at this
    exact this
  have hS4 : W4.heap.size = w.heap.size + 4 := by rw [hW4]; simp
  have HI4 := Lib.hid (show IsEx w.heap.size (w.heap.size + 1 + 1 + 1) vb mb vs (.slice none 0 0) [] (max f0 0) W4 from ⟨g3, ⟨rfl, .inl ⟨rfl, rfl⟩⟩, by simp, by omega, by omega, by omega, h.below hB4, h.lt, fun i hi => (h.maps i hi).lt⟩)
  have HG := Lib.hid (And.intro g0 (And.intro g1 (And.intro g2 (And.intro hS4 hB4))))
  clear hm g0 g1 g2 g3 hS4 hB4 h
  go_enter_defers Tryz.func80, Tryz.ntmps80
  go_wp2_with fail
  rw [← hW4]
  clear hW4
  go_at_call 103
  refine (HC.out _ HI4.out).mono ?_
  obtain ⟨g0, g1, g2, hS4, hB4⟩ := HG.out
  cases r with
  | ok p =>
    obtain ⟨t, f⟩ := p
    rintro e w5 ⟨rfl, htl, sl', h5, -, hk5⟩
    have n5 : ∀ i, i < w.heap.size + 1 + 1 + 1 → w5.heap[i]? = W4.heap[i]? := fun i hi => hk5.block i (by omega) (by rintro (e | e); omega; simp [Value.ownBlock] at e)
    have k0 := (n5 _ (by omega)).trans g0
    have k1 := (n5 _ (by omega)).trans g1
    have k2 := (n5 _ (by omega)).trans g2
    have k3 := h5.cells
    have b5 : Below w.heap.size w w5 := hB4.trans ((hk5.mono (by omega) (fun _ _ h => h)).below (fun k hk e => by rcases e with e | e; omega; simp [Value.ownBlock] at e))
    have d0 : w5.cell? ⟨w.heap.size, 0, none⟩ = some (.string ⟨#[]⟩) := Lib.cell_of_heap k0 0
    have s0 : w5.frozen? ⟨w.heap.size, 0, none⟩ = false := Lib.frozen_of_heap k0 0
    have d1 : w5.cell? ⟨w.heap.size + 1, 0, none⟩ = some (.int .i64 0) := Lib.cell_of_heap k1 0
    have s1 : w5.frozen? ⟨w.heap.size + 1, 0, none⟩ = false := Lib.frozen_of_heap k1 0
    have d2 : w5.cell? ⟨w.heap.size + 1 + 1, 0, none⟩ = some (.int .i64 0) := Lib.cell_of_heap k2 0
    have s2 : w5.frozen? ⟨w.heap.size + 1 + 1, 0, none⟩ = false := Lib.frozen_of_heap k2 0
    have d3 : w5.cell? ⟨w.heap.size + 1 + 1 + 1, 1, none⟩ = some (.int .i64 f) := Lib.cell_of_heap k3 1
    have HB5 := Lib.hid (And.intro htl (And.intro k0 (And.intro k1 (And.intro k2 b5))))
    clear g0 g1 g2 hS4 hB4 HG HC HI4 htl h5 hk5 n5 k0 k1 k2 k3 b5
    go_wp2_with fail
    go_region
    obtain ⟨W6, hW6⟩ : ∃ W6, W6 = ((((w5.setCell ⟨w.heap.size, 0, none⟩ (.string ⟨t.toArray⟩)).setCell ⟨w.heap.size, 0, none⟩ (.string ⟨t.toArray⟩)).setCell ⟨w.heap.size + 1, 0, none⟩ (.int .i64 f)).setCell ⟨w.heap.size + 1 + 1, 0, none⟩ (.int .i64 0)).drew := ⟨_, rfl⟩
    rw [← hW6]
    have HQ : Hid (W6.cell? ⟨w.heap.size, 0, none⟩ = some (.string ⟨t.toArray⟩) ∧ W6.cell? ⟨w.heap.size + 1, 0, none⟩ = some (.int .i64 f) ∧ W6.cell? ⟨w.heap.size + 1 + 1, 0, none⟩ = some (.int .i64 0) ∧ t.length ≤ 65536 ∧ Below w.heap.size w W6) := Lib.hid (by
      obtain ⟨htl, k0, k1, k2, b5⟩ := HB5.out
      have q1 := (Below.heap_setCell w5 ⟨w.heap.size, 0, none⟩ (.string ⟨t.toArray⟩) (w.heap.size + 1) (show w.heap.size + 1 ≠ w.heap.size by omega)).trans k1
      have q2 := (Below.heap_setCell w5 ⟨w.heap.size, 0, none⟩ (.string ⟨t.toArray⟩) (w.heap.size + 1 + 1) (show w.heap.size + 1 + 1 ≠ w.heap.size by omega)).trans k2
      obtain ⟨p0, p1, p2⟩ := three_set (.string ⟨t.toArray⟩) (.int .i64 f) (.int .i64 0) (heap_set k0 0 (.string ⟨t.toArray⟩)) q1 q2
      rw [hW6]
      refine ⟨Lib.cell_of_heap p0 0, Lib.cell_of_heap p1 0, Lib.cell_of_heap p2 0, htl, ?_⟩
      refine Below.trans (b := ((((w5.setCell ⟨w.heap.size, 0, none⟩ (.string ⟨t.toArray⟩)).setCell ⟨w.heap.size, 0, none⟩ (.string ⟨t.toArray⟩)).setCell ⟨w.heap.size + 1, 0, none⟩ (.int .i64 f)).setCell ⟨w.heap.size + 1 + 1, 0, none⟩ (.int .i64 0))) ?_ ⟨rfl, rfl, rfl, Nat.le_refl _, fun _ _ => rfl⟩
      exact ((((b5.setCell (show w.heap.size ≤ (⟨w.heap.size, 0, none⟩ : Addr).block from Nat.le_refl _) _).setCell (show w.heap.size ≤ (⟨w.heap.size, 0, none⟩ : Addr).block from Nat.le_refl _) _).setCell (show w.heap.size ≤ (⟨w.heap.size + 1, 0, none⟩ : Addr).block from (by show w.heap.size ≤ w.heap.size + 1; omega)) _).setCell (show w.heap.size ≤ (⟨w.heap.size + 1 + 1, 0, none⟩ : Addr).block from (by show w.heap.size ≤ w.heap.size + 1 + 1; omega)) _))
    clear hW6 HB5 d0 d1 d2 d3 s0 s1 s2
    go_wp2
    refine leaves_cons (f := 102) (args := #[.pointer (some ⟨w.heap.size, 0, none⟩), .pointer (some ⟨w.heap.size + 1, 0, none⟩), .pointer (some ⟨w.heap.size + 1 + 1, 0, none⟩)]) (by simp) (by simp [go_sem]) ?_
    refine (textC_idle _ _ _ _).mono ?_
    rintro e u' w'' ⟨rfl, rfl, rfl⟩
    obtain ⟨c0, c1, c2, htl, hb⟩ := HQ.out
    exact ⟨_, results_three rfl _ _ _ _ _ _ _ _ rfl rfl rfl c0 c1 c2, rfl, (fun t' f' e => by cases e; exact htl), hb⟩
  | error k =>
    rintro e w5 ⟨rfl, hk5⟩
    have n5 : ∀ i, i < w.heap.size + 1 + 1 + 1 → w5.heap[i]? = W4.heap[i]? := fun i hi => hk5.block i (by omega) (by rintro (e | e); omega; simp [Value.ownBlock] at e)
    have k0 := (n5 _ (by omega)).trans g0
    have k1 := (n5 _ (by omega)).trans g1
    have k2 := (n5 _ (by omega)).trans g2
    have b5 : Below w.heap.size w w5 := hB4.trans ((hk5.mono (by omega) (fun _ _ h => h)).below (fun k hk e => by rcases e with e | e; omega; simp [Value.ownBlock] at e))
    have HP := Lib.hid (textC_panic w.heap.size _ _ _ k w5 k0 k1 k2)
    clear g0 g1 g2 hS4 hB4 HG HC HI4 hk5 n5 k0 k1 k2
    refine leaves_cons (f := 102) (args := #[.pointer (some ⟨w.heap.size, 0, none⟩), .pointer (some ⟨w.heap.size + 1, 0, none⟩), .pointer (some ⟨w.heap.size + 1 + 1, 0, none⟩)]) (by simp) (by simp [go_sem]) ?_
    refine HP.out.mono ?_
    rintro e u' w'' ⟨rfl, rfl, c0, c1, c2, hk⟩
    exact ⟨_, results_three rfl _ _ _ _ _ _ _ _ rfl rfl rfl (Lib.cell_of_heap c0 0) (Lib.cell_of_heap c1 0) (Lib.cell_of_heap c2 0), rfl, (fun t' f' e => by cases e), b5.trans (hk.below (fun _ _ h => h))⟩
end Go.Proofs.YtpjmccajkcmmaaaGreatDoor
