/- cond.Holds. A region that draws its order, by an invariant over what has come up: stores among reads. The last region of worlds: what has come up, and the worlds between its stores. -/
import Derived.Test.YtpjmccajkcmmaaaGreatDoorAskDM
import Derived.Orders
namespace Go.Proofs.YtpjmccajkcmmaaaGreatDoor
open Go.RowKit

set_option maxHeartbeats 8000000 in
set_option maxRecDepth 100000 in
theorem holds_any (A : AEnv) (hA : A.OK) (sp : Option Addr) (ga ta ca : Option Addr) (gn gc tn tc cn cc : Nat) (hsv : A.sv = .pointer sp) (hgv : A.gv = .slice ga gn gc) (htv : A.tv = .slice ta tn tc) (hcv : A.cv = .slice ca cn cc)
    (s : List UInt8) (n : Nat) (x : CX) (hx : readC s n = some (x, 0, 0)) (r : Bool) (hr : asksA A x (0, 0) = some (r, (0, 0))) :
    Calls Tryz.prog 9 #[.string ⟨s.toArray⟩, .agg #[.pointer (some ⟨A.vb, 0, none⟩), .pointer sp, .slice ga gn gc, .slice ta tn tc, .slice ca cn cc, .int .i64 A.f0]] A.W0 fun e w' => e = .returned (.tuple #[.bool r, .agg #[.int .i64 0, .int .i64 0]]) ∧ Below A.W0.heap.size A.W0 w' := by
  have HRd := Lib.hid (fun W => read_any ⟨s.toArray⟩ n x 0 0 (by simpa using hx) W)
  have HAs := Lib.hid (fun kb W (h : IsAsk A kb (0, 0) W) => asks_any A hA x kb (0, 0) r (0, 0) W hr h)
  have HI : Hid (∀ kb W, W.heap[kb]? = some (.cells #[.pointer (some ⟨A.vb, 0, none⟩), .pointer sp, .slice ga gn gc, .slice ta tn tc, .slice ca cn cc, .int .i64 A.f0, .int .i64 0, .int .i64 0] 74 (0, 0)) → Below A.W0.heap.size A.W0 W → A.W0.heap.size ≤ kb → IsAsk A kb (0, 0) W) := Lib.hid (fun kb W h1 h2 h3 => ⟨by rw [h1, hsv, hgv, htv, hcv], h2, h3⟩)
  have HIc : Hid (∀ kb W, IsAsk A kb (0, 0) W → W.heap[kb]? = some (.cells #[.pointer (some ⟨A.vb, 0, none⟩), .pointer sp, .slice ga gn gc, .slice ta tn tc, .slice ca cn cc, .int .i64 A.f0, .int .i64 0, .int .i64 0] 74 (0, 0))) := Lib.hid (fun kb W h => by rw [h.cells, hsv, hgv, htv, hcv])
  have hq := fun W => fault_ne 0 0 W
  have hsh := exprV_shape x
  generalize exprV x = xv at HRd HAs hsh
  obtain ⟨w, hw⟩ : ∃ w, w = A.W0 := ⟨_, rfl⟩
  rw [← hw] at HI ⊢
  clear hx hr hw hsv hgv htv hcv hA
  obtain ⟨w2, hw2⟩ : ∃ w2, w2 = (w.alloc (.cells #[.pointer (some ⟨A.vb, 0, none⟩), .pointer sp, .slice ga gn gc, .slice ta tn tc, .slice ca cn cc, .int .i64 A.f0] 31)).alloc (.cells #[.int .i64 0, .int .i64 0] 40) := ⟨_, rfl⟩
  have g0 : w2.heap[w.heap.size]? = some (.cells #[.pointer (some ⟨A.vb, 0, none⟩), .pointer sp, .slice ga gn gc, .slice ta tn tc, .slice ca cn cc, .int .i64 A.f0] 31 (0, 0)) := by rw [hw2]; exact heap_alloc2_old w _ _
  have g1 : w2.heap[w.heap.size + 1]? = some (.cells #[.int .i64 0, .int .i64 0] 40 (0, 0)) := by rw [hw2]; exact heap_alloc2_new w _ _
  have hS2 : w2.heap.size = w.heap.size + 2 := by rw [hw2]; simp
  have hB2 : Below w.heap.size w w2 := by rw [hw2]; exact ((Below.refl _ w).alloc (Nat.le_refl _) _).alloc (by simp) _
  have HW2 := Lib.hid (And.intro g0 (And.intro g1 (And.intro hS2 hB2)))
  clear g0 g1 hS2 hB2
  go_enter Tryz.func9, Tryz.ntmps9
  go_wp2_with fail
  rw [← hw2]
  clear hw2
  go_at_call 19
  refine (HRd.out _).mono ?_
  rintro e w3 ⟨rfl, hb3⟩
  obtain ⟨g0, g1, hS2, hB2⟩ := HW2.out
  have k0 := (hb3.block _ (by omega)).trans g0
  have k1 := (hb3.block _ (by omega)).trans g1
  have b3 : Below w.heap.size w w3 := hB2.trans (hb3.mono (by omega))
  have hs3 : w.heap.size + 2 ≤ w3.heap.size := by have := hb3.size; omega
  have HW3 := Lib.hid (And.intro k0 (And.intro k1 (And.intro b3 hs3)))
  clear g0 g1 hS2 hB2 HW2 hb3 k0 k1 b3 hs3
  rcases hsh with rfl | ⟨tx, vx, rfl⟩
  all_goals
    obtain ⟨k0, k1, b3, hs3⟩ := HW3.out
    obtain ⟨w4, hw4⟩ : ∃ w4, w4 = w3.alloc (.cells #[.int .i64 0, .int .i64 0] 40) := ⟨_, rfl⟩
    have j0 : w4.heap[w.heap.size]? = _ := (show w4.heap[w.heap.size]? = w3.heap[w.heap.size]? by rw [hw4]; exact Below.heap_alloc _ _ _ (by omega)).trans k0
    have e0 : w4.cell? ⟨w.heap.size, 0, none⟩ = some (.pointer (some ⟨A.vb, 0, none⟩)) := Lib.cell_of_heap j0 0
    have e1 : w4.cell? ⟨w.heap.size, 1, none⟩ = some (.pointer sp) := Lib.cell_of_heap j0 1
    have e2 : w4.cell? ⟨w.heap.size, 2, none⟩ = some (.slice ga gn gc) := Lib.cell_of_heap j0 2
    have e3 : w4.cell? ⟨w.heap.size, 3, none⟩ = some (.slice ta tn tc) := Lib.cell_of_heap j0 3
    have e4 : w4.cell? ⟨w.heap.size, 4, none⟩ = some (.slice ca cn cc) := Lib.cell_of_heap j0 4
    have e5 : w4.cell? ⟨w.heap.size, 5, none⟩ = some (.int .i64 A.f0) := Lib.cell_of_heap j0 5
    rw [hw4] at e0 e1 e2 e3 e4 e5
    clear j0 hw4
    obtain ⟨w5, hw5⟩ : ∃ w5, w5 = (w3.alloc (.cells #[.int .i64 0, .int .i64 0] 40)).alloc (.cells #[.pointer (some ⟨A.vb, 0, none⟩), .pointer sp, .slice ga gn gc, .slice ta tn tc, .slice ca cn cc, .int .i64 A.f0, .int .i64 0, .int .i64 0] 74) := ⟨_, rfl⟩
    have a5 : IsAsk A (w3.heap.size + 1) (0, 0) w5 := HI.out _ _ (by rw [hw5]; exact heap_alloc2_new w3 _ _) (by rw [hw5]; exact (b3.alloc (by omega) _).alloc (by simp; omega) _) (by omega)
    have f5 : w5.heap[w.heap.size + 1]? = some (.cells #[.int .i64 0, .int .i64 0] 40 (0, 0)) := by
      rw [hw5]
      exact ((Below.heap_alloc _ _ _ (by simp; omega)).trans (Below.heap_alloc _ _ _ (by omega))).trans k1
    have s5 : w5.heap.size = w3.heap.size + 2 := by rw [hw5]; simp
    have b5 : Below w.heap.size w w5 := by rw [hw5]; exact (b3.alloc (by omega) _).alloc (by simp; omega) _
    have HW5 := Lib.hid (And.intro f5 (And.intro s5 (And.intro b5 hs3)))
    have HA5 := Lib.hid a5
    clear k0 k1 b3 hs3 f5 s5 b5 a5 HW3
    go_wp2_with fail
    rw [← hw5]
    clear hw5
    go_at_call 20
    refine (HAs.out _ _ HA5.out).mono ?_
    rintro e w6 ⟨rfl, hi6, hk6⟩
    have hc6 := HIc.out _ _ hi6
    have c6 : w6.cell? ⟨w3.heap.size + 1, 6, none⟩ = some (.int .i64 0) := Lib.cell_of_heap hc6 6
    have c7 : w6.cell? ⟨w3.heap.size + 1, 7, none⟩ = some (.int .i64 0) := Lib.cell_of_heap hc6 7
    obtain ⟨f5, s5, b5, hs3⟩ := HW5.out
    have f6 := (hk6.block _ (by omega) (by omega)).trans f5
    have d0 : w6.cell? ⟨w.heap.size + 1, 0, none⟩ = some (.int .i64 0) := Lib.cell_of_heap f6 0
    have d1 : w6.cell? ⟨w.heap.size + 1, 1, none⟩ = some (.int .i64 0) := Lib.cell_of_heap f6 1
    have z0 : w6.frozen? ⟨w.heap.size + 1, 0, none⟩ = false := Lib.frozen_of_heap f6 0
    have z1 : w6.frozen? ⟨w.heap.size + 1, 1, none⟩ = false := Lib.frozen_of_heap f6 1
    have b6 : Below w.heap.size w w6 := b5.trans ((hk6.mono (by omega) (fun _ _ e => e)).below (fun k hk e => by omega))
    have HRT : Hid (((w6.setCell ⟨w.heap.size + 1, 0, none⟩ (.int .i64 0)).setCell ⟨w.heap.size + 1, 1, none⟩ (.int .i64 0)).heap[w.heap.size + 1]? = some (.cells #[.int .i64 0, .int .i64 0] 40 (0, 0)) ∧ Below w.heap.size w ((w6.setCell ⟨w.heap.size + 1, 0, none⟩ (.int .i64 0)).setCell ⟨w.heap.size + 1, 1, none⟩ (.int .i64 0))) := Lib.hid ⟨by simpa using heap_set (heap_set f6 0 (.int .i64 0)) 1 (.int .i64 0), (b6.setCell (show w.heap.size ≤ (⟨w.heap.size + 1, 0, none⟩ : Addr).block from Nat.le_succ _) _).setCell (show w.heap.size ≤ (⟨w.heap.size + 1, 1, none⟩ : Addr).block from Nat.le_succ _) _⟩
    clear hi6 hk6 hc6 f5 s5 b5 hs3 f6 b6 HW5 HA5 HI HIc HAs HRd
    go_wp2
    refine bodyPost_ret (results_read rfl _ _ _ _ _ rfl HRT.out.1) rfl ?_
    exact ⟨rfl, HRT.out.2⟩
end Go.Proofs.YtpjmccajkcmmaaaGreatDoor

namespace Go.Proofs.YtpjmccajkcmmaaaGreatDoor
open Go.RowKit

section
variable {P : Program} {ops : Array Oper} {Q : Exit → Act → World → Prop}
/-- how many operations have not come up -/
def leftOps (n : Nat) (listed : Array Bool) : Nat := ((List.range n).filter (fun j => !listed.getD j true)).length
theorem leftOps_set {n i : Nat} {listed : Array Bool} (hi : i < n) (hs : listed.size = n) (hu : listed.getD i true = false) : leftOps n (listed.setIfInBounds i true) < leftOps n listed := by
  unfold leftOps
  have h1 : (List.range n).filter (fun j => !(listed.setIfInBounds i true).getD j true) = ((List.range n).filter (fun j => !listed.getD j true)).filter (fun j => !(listed.setIfInBounds i true).getD j true) := by
    rw [List.filter_filter]
    refine List.filter_congr fun j _ => ?_
    by_cases hij : i = j
    · subst hij
      have : (listed.setIfInBounds i true).getD i true = true := by
        simp [Array.getD_eq_getD_getElem?, hs, hi]
      rw [this]
      rfl
    · rw [getD_set_ne true hij]
      cases listed.getD j true <;> rfl
  rw [h1]
  refine List.length_filter_lt_length_iff_exists.2 ⟨i, List.mem_filter.2 ⟨List.mem_range.2 hi, by rw [hu]; rfl⟩, ?_⟩
  have : (listed.setIfInBounds i true).getD i true = true := by
    simp [Array.getD_eq_getD_getElem?, hs, hi]
  rw [this]
  simp
theorem wpAny_inv (I : Array Bool → Act → World → Prop)
    (hstep : ∀ listed a w, I listed a w → ∀ i ∈ Region.ready .any ops listed, wpOp P ops Q i (I (listed.setIfInBounds i true)) a w)
    (hend : ∀ listed a w, I listed a w → Region.ready .any ops listed = [] → Q .normal a w) :
    ∀ (fuel : Nat) (listed : Array Bool) (a : Act) (w : World), listed.size = ops.size → leftOps ops.size listed ≤ fuel → I listed a w → wpAny P .any ops Q fuel listed a w
  | 0, listed, a, w, hs, hc, h => by
    have hr : Region.ready .any ops listed = [] := by
      rw [List.eq_nil_iff_forall_not_mem]
      intro j hj
      obtain ⟨hu, o, ho, -⟩ := mem_ready.1 hj
      have hlt := (Array.getElem?_eq_some_iff.1 ho).1
      have hz : ((List.range ops.size).filter (fun j => !listed.getD j true)) = [] := List.eq_nil_of_length_eq_zero (Nat.le_zero.1 hc)
      have : j ∈ (List.range ops.size).filter (fun j => !listed.getD j true) := List.mem_filter.2 ⟨List.mem_range.2 hlt, by rw [hu]; rfl⟩
      rw [hz] at this
      cases this
    exact ⟨hr, hend _ _ _ h hr⟩
  | fuel + 1, listed, a, w, hs, hc, h => by
    refine ⟨fun hr => hend _ _ _ h hr, fun i hi => ?_⟩
    obtain ⟨hu, o, ho, -⟩ := mem_ready.1 hi
    have hlt := (Array.getElem?_eq_some_iff.1 ho).1
    have := leftOps_set hlt hs hu
    exact wpOp_mono (fun a' w' h' => wpAny_inv I hstep hend fuel _ a' w' (by simpa using hs) (by omega) h') (hstep _ _ _ h i hi)
theorem wp_region_inv {id : Nat} {a : Act} {w : World} (hm : P.follows .mixedOrders = true) (I : Array Bool → Act → World → Prop)
    (h0 : I (Array.replicate ops.size false) a { w with drawn := w.drawn + 1 })
    (hstep : ∀ listed a w, I listed a w → ∀ i ∈ Region.ready .any ops listed, wpOp P ops Q i (I (listed.setIfInBounds i true)) a w)
    (hend : ∀ listed a w, I listed a w → Region.ready .any ops listed = [] → Q .normal a w) : (Code.region id ops true).wp P Q a w := by
  refine wp_region_any hm (wpAny_inv I hstep hend _ _ _ _ (by simp) ?_ h0)
  unfold leftOps
  exact Nat.le_trans (List.length_filter_le _ _) (by simp)
theorem wpOp_of_run {i : Nat} {o : Oper} {v : Value} {a : Act} {w : World} {K : Act → World → Prop} (ho : ops[i]? = some o) (hg : o.guard = none) (hr : (execOp a.eval o).run P w = .ok (.value v) w) (hK : K (a.put o.dst v) w) : wpOp P ops Q i K a w := by
  unfold wpOp
  simp only [ho]
  have : Region.wanted o (yielded ops a.tmps) = true := by unfold Region.wanted; rw [hg]
  rw [if_pos this]
  left
  unfold Oper.wp
  rw [hr]
  exact hK
theorem wpOp_of_skip {i : Nat} {o : Oper} {a : Act} {w w' : World} {K : Act → World → Prop} (ho : ops[i]? = some o) (hg : o.guard = none) (hr : (execOp a.eval o).run P w = .ok .skip w') (hd : o.dst = none) (hK : K a w') : wpOp P ops Q i K a w := by
  unfold wpOp
  simp only [ho]
  have : Region.wanted o (yielded ops a.tmps) = true := by unfold Region.wanted; rw [hg]
  rw [if_pos this]
  left
  unfold Oper.wp
  rw [hr]
  show K (a.put o.dst undef) w'
  rw [hd]
  exact hK
/-- nothing waits for what stands behind it -/
def onlyBack (ops : Array Oper) : Bool := (List.range ops.size).all fun i => ((ops[i]?).map (fun o => o.after.all fun e => !Region.binds .any e || decide (e.on < i))).getD true
theorem all_listed {listed : Array Bool} (hb : onlyBack ops = true) (hs : listed.size = ops.size) (hr : Region.ready .any ops listed = []) : ∀ j, j < ops.size → listed.getD j false = true := by
  intro j
  induction j using Nat.strongRecOn with
  | _ j ih =>
    intro hj
    cases hl : listed.getD j false with
    | true => rfl
    | false =>
      exfalso
      have h1 : listed.getD j true = false := by
        simp [Array.getD_eq_getD_getElem?, hs, hj] at hl ⊢
        exact hl
      have h2 := List.all_eq_true.1 hb j (List.mem_range.2 hj)
      rw [Array.getElem?_eq_getElem hj] at h2
      simp only [Option.map_some, Option.getD_some] at h2
      have hm : j ∈ Region.ready .any ops listed := mem_ready.2 ⟨h1, _, Array.getElem?_eq_getElem hj, fun e he hbd => by
        have h3 := Array.all_eq_true'.1 h2 e he
        simp only [hbd, Bool.not_true, Bool.false_or, decide_eq_true_eq] at h3
        exact ih e.on h3 (by omega)⟩
      rw [hr] at hm
      cases hm
end
end Go.Proofs.YtpjmccajkcmmaaaGreatDoor

namespace Go.Proofs.YtpjmccajkcmmaaaGreatDoor
open Go.RowKit

def set6 (w : World) (b : Nat) (x0 x1 x2 x3 x4 x5 : Value) : World := (((((w.setCell ⟨b, 0, none⟩ x0).setCell ⟨b, 1, none⟩ x1).setCell ⟨b, 2, none⟩ x2).setCell ⟨b, 3, none⟩ x3).setCell ⟨b, 4, none⟩ x4).setCell ⟨b, 5, none⟩ x5
theorem set6_ne (w : World) (b : Nat) (x0 x1 x2 x3 x4 x5 : Value) (k : Nat) (h : k ≠ b) : (set6 w b x0 x1 x2 x3 x4 x5).heap[k]? = w.heap[k]? := by
  unfold set6
  rw [Below.heap_setCell _ ⟨b, 5, none⟩ _ k h, Below.heap_setCell _ ⟨b, 4, none⟩ _ k h, Below.heap_setCell _ ⟨b, 3, none⟩ _ k h, Below.heap_setCell _ ⟨b, 2, none⟩ _ k h, Below.heap_setCell _ ⟨b, 1, none⟩ _ k h, Below.heap_setCell _ ⟨b, 0, none⟩ _ k h]
theorem set6_at {w : World} {b : Nat} {y0 y1 y2 y3 y4 y5 : Value} {T : TypeId} (x0 x1 x2 x3 x4 x5 : Value) (h : w.heap[b]? = some (.cells #[y0, y1, y2, y3, y4, y5] T (0, 0))) : (set6 w b x0 x1 x2 x3 x4 x5).heap[b]? = some (.cells #[x0, x1, x2, x3, x4, x5] T (0, 0)) := by
  unfold set6
  have := heap_set (heap_set (heap_set (heap_set (heap_set (heap_set h 0 x0) 1 x1) 2 x2) 3 x3) 4 x4) 5 x5
  simpa using this
theorem set6_size (w : World) (b : Nat) (x0 x1 x2 x3 x4 x5 : Value) : (set6 w b x0 x1 x2 x3 x4 x5).heap.size = w.heap.size := by
  unfold set6
  simp [World.setCell]
theorem set6_below {B : Nat} {a w : World} (b : Nat) (x0 x1 x2 x3 x4 x5 : Value) (h : Below B a w) (hb : B ≤ b) : Below B a (set6 w b x0 x1 x2 x3 x4 x5) := by
  unfold set6
  exact (((((h.setCell (show B ≤ (⟨b, 0, none⟩ : Addr).block from hb) _).setCell (show B ≤ (⟨b, 1, none⟩ : Addr).block from hb) _).setCell (show B ≤ (⟨b, 2, none⟩ : Addr).block from hb) _).setCell (show B ≤ (⟨b, 3, none⟩ : Addr).block from hb) _).setCell (show B ≤ (⟨b, 4, none⟩ : Addr).block from hb) _).setCell (show B ≤ (⟨b, 5, none⟩ : Addr).block from hb) _

abbrev pv (b o : Nat) : Value := .pointer (some ⟨b, o, none⟩)
abbrev nv : Value := .slice none 0 0
/-- what each operation of the region yields -/
def wiV (b vb pb ub rb : Nat) (f0 : Int) : Array Value := #[pv vb 0, pv pb 0, pv b 2, nv, pv b 3, nv, pv b 4, nv, pv b 5, .int .i64 f0, .agg #[pv vb 0, pv pb 0, nv, nv, nv, .int .i64 f0], pv ub 0, pv b 2, nv, pv b 3, nv, pv b 4, nv, pv b 5, .int .i64 f0, .agg #[pv ub 0, pv rb 0, nv, nv, nv, .int .i64 f0]]
section
variable (b vb pb ub rb : Nat) (f0 : Int) (w0 : World)
def wiW1 : World := set6 w0 (b + 1) (pv vb 0) (pv pb 0) nv nv nv (.int .i64 f0)
def wiW2 : World := set6 (wiW1 b vb pb f0 w0) (b + 1 + 1) (pv ub 0) (pv rb 0) nv nv nv (.int .i64 f0)
structure WI (listed : Array Bool) (a : Act) (w : World) : Prop where
  df : a.defers = []
  sz : listed.size = 23
  asz : a.tmps.size = 83
  t1 : a.tmps[1]?.getD undef = pv b 0
  t2 : a.tmps[2]?.getD undef = pv (b + 1) 0
  t3 : a.tmps[3]?.getD undef = pv (b + 1 + 1) 0
  t4 : a.tmps[4]?.getD undef = pv vb 0
  t5 : a.tmps[5]?.getD undef = pv ub 0
  t6 : a.tmps[6]?.getD undef = pv pb 0
  t8 : a.tmps[8]?.getD undef = pv rb 0
  vals : ∀ i, i < 21 → listed.getD i false = true → a.tmps[62 + i]?.getD undef = (wiV b vb pb ub rb f0).getD i undef
  chain : listed.getD 22 false = true → listed.getD 21 false = true
  world : w = if listed.getD 22 false = true then wiW2 b vb pb ub rb f0 w0 else if listed.getD 21 false = true then wiW1 b vb pb f0 w0 else w0
end
section
variable {b vb pb ub rb : Nat} {f0 : Int} {w0 : World} {listed : Array Bool} {a : Act} {w : World}
theorem listed_set {i : Nat} (hs : listed.size = 23) (hi : i < 23) (j : Nat) : (listed.setIfInBounds i true).getD j false = if j = i then true else listed.getD j false := by
  by_cases h : j = i
  · subst h
    simp [Array.getD_eq_getD_getElem?, hs, hi]
  · rw [if_neg h, getD_set_ne false (Ne.symm h)]
theorem WI.val (h : WI b vb pb ub rb f0 w0 listed a w) (i : Nat) (hi : i < 21) : WI b vb pb ub rb f0 w0 (listed.setIfInBounds i true) (a.put (some (62 + i)) ((wiV b vb pb ub rb f0).getD i undef)) w := by
  have hp : ∀ s, s ≠ 62 + i → (a.put (some (62 + i)) ((wiV b vb pb ub rb f0).getD i undef)).tmps[s]? = a.tmps[s]? := fun s hs => by
    show (a.tmps.setIfInBounds (62 + i) _)[s]? = _
    rw [Array.getElem?_setIfInBounds_ne (Ne.symm hs)]
  have hl := listed_set h.sz (show i < 23 by omega)
  refine ⟨h.df, by simpa using h.sz, by show (a.tmps.setIfInBounds _ _).size = _; simpa using h.asz, by rw [hp _ (by omega)]; exact h.t1, by rw [hp _ (by omega)]; exact h.t2, by rw [hp _ (by omega)]; exact h.t3, by rw [hp _ (by omega)]; exact h.t4, by rw [hp _ (by omega)]; exact h.t5, by rw [hp _ (by omega)]; exact h.t6, by rw [hp _ (by omega)]; exact h.t8, fun j hj hlj => ?_, ?_, ?_⟩
  · by_cases hji : j = i
    · subst hji
      show (a.tmps.setIfInBounds (62 + j) _)[62 + j]?.getD undef = _
      rw [Array.getElem?_setIfInBounds_self_of_lt (by rw [h.asz]; omega)]
      rfl
    · rw [hl, if_neg hji] at hlj
      rw [hp _ (by omega)]
      exact h.vals j hj hlj
  · rw [hl 22, hl 21, if_neg (show ¬ 22 = i by omega), if_neg (show ¬ 21 = i by omega)]
    exact h.chain
  · rw [hl 22, hl 21, if_neg (show ¬ 22 = i by omega), if_neg (show ¬ 21 = i by omega)]
    exact h.world
theorem WI.st1 (h : WI b vb pb ub rb f0 w0 listed a w) (hu : listed.getD 22 false = false) : WI b vb pb ub rb f0 w0 (listed.setIfInBounds 21 true) a (wiW1 b vb pb f0 w0) := by
  have hl := listed_set h.sz (show 21 < 23 by omega)
  exact ⟨h.df, by simpa using h.sz, h.asz, h.t1, h.t2, h.t3, h.t4, h.t5, h.t6, h.t8, fun j hj hlj => h.vals j hj (by rw [hl, if_neg (by omega)] at hlj; exact hlj), fun _ => by rw [hl 21, if_pos rfl], by rw [hl 22, hl 21, if_neg (show ¬ 22 = 21 by omega), if_pos rfl, hu]; rfl⟩
theorem WI.st2 (h : WI b vb pb ub rb f0 w0 listed a w) (hu : listed.getD 21 false = true) : WI b vb pb ub rb f0 w0 (listed.setIfInBounds 22 true) a (wiW2 b vb pb ub rb f0 w0) := by
  have hl := listed_set h.sz (show 22 < 23 by omega)
  exact ⟨h.df, by simpa using h.sz, h.asz, h.t1, h.t2, h.t3, h.t4, h.t5, h.t6, h.t8, fun j hj hlj => h.vals j hj (by rw [hl, if_neg (by omega)] at hlj; exact hlj), fun _ => by rw [hl 21, if_neg (show ¬ 21 = 22 by omega)]; exact hu, by rw [hl 22, if_pos rfl]; rfl⟩
theorem WI.other (h : WI b vb pb ub rb f0 w0 listed a w) (k : Nat) (h1 : k ≠ b + 1) (h2 : k ≠ b + 1 + 1) : w.heap[k]? = w0.heap[k]? := by
  rw [h.world]
  split
  · exact (set6_ne _ _ _ _ _ _ _ _ k h2).trans (set6_ne _ _ _ _ _ _ _ _ k h1)
  · split
    · exact set6_ne _ _ _ _ _ _ _ _ k h1
    · rfl
end
end Go.Proofs.YtpjmccajkcmmaaaGreatDoor
