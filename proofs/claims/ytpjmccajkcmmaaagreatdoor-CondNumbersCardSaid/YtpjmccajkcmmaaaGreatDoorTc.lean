/- A range over a function whose body always goes on, where the function keeps a variable of its own in a cell (strings.SplitSeq). Over any program. strings.SplitSeq at one byte. path.Parts as a plain function. strings.Join at a slice of texts; path.Clean, Dir, Name. -/
import Derived.RangeFuncNested
import Derived.RangeFuncBound
import Derived.RangeFuncCalls
import Derived.RangeFuncLeaves
import Derived.Shelf.Abstract
import Derived.Shelf.RegionOpen
import Derived.WalkKit
import Derived.OwnWalkIn
import Derived.TacticsInMore
import Derived.LoopNIn
import Derived.LoopIn
import Derived.Test.YtpjmccajkcmmaaaGreatDoorProg
import Derived.Test.YtpjmccajkcmmaaaGreatDoorShelf2
import Derived.Test.YtpjmccajkcmmaaaGreatDoorTb
import Derived.RangeFuncBox
import Derived.Maps.AppendAt
namespace Go.Proofs.YtpjmccajkcmmaaaGreatDoor
open Go.RowKit

/-- from b0 on, below B, the blocks stand as they stood -/
def Mid (b0 B : Nat) (W W' : World) : Prop := ∀ k, b0 ≤ k → k < B → W'.heap[k]? = W.heap[k]?
theorem Mid.trans {b0 B : Nat} {X Y Z : World} (h : Mid b0 B X Y) (k : Mid b0 B Y Z) : Mid b0 B X Z := fun i a b => (k i a b).trans (h i a b)
theorem Mid.refl (b0 B : Nat) (W : World) : Mid b0 B W W := fun _ _ _ => rfl
theorem Mid.put {b0 B l : Nat} (W : World) (o : Obj) (h : B ≤ l) : Mid b0 B W (W.putObj l o) := fun _ _ b => World.putObj_heap_other (by omega)

/-- what the one ranged over owes: all of xs, whatever holds between two rounds, so its own cell may turn -/
def GivesAll {α : Type} (F : Fence) (n : Nat) (P : Program) (gf : Nat) (lb : Array Value) (enc : α → Value) (xs : List α) (b0 b : Nat) (w : World) : Prop :=
  ∀ (l : Nat) (R : List α → World → Prop) (W : World), w.heap.size ≤ W.heap.size → Mid 0 w.heap.size w W → (∀ pre W1 u, R pre W1 → R pre (W1.setCell ⟨b, 0, none⟩ u)) →
    (∀ pre x rest W1, xs = pre ++ x :: rest → R pre W1 → YieldAt F (n - 1) P l #[enc x] W1 fun e W' => e = .returned (.bool true) ∧ R (pre ++ [x]) W' ∧ Mid b0 w.heap.size W1 W') →
    R [] W → CallsIn F n P gf (#[.func (.yield l) #[] #[]] ++ lb) W fun e W' => (∃ v, e = .returned v) ∧ R xs W'

variable {F : Fence} {n : Nat} {P : Program}
theorem wpIn_range_all {α : Type} {g : Operand} {ps : Array Tmp} {assign body : Code} {Q : Exit → Act → World → Prop} {a : Act} {w : World}
    (hro : F.round = none) (h1 : 1 ≤ n) {gf : Nat} {lb : Array Value} (hg : a.eval g = .func (.func gf) #[] lb) (hFg : F.fn gf) (eg : ∀ args w, (callFunc gf args).run P w = .ok (.enter gf args) w)
    {enc : α → Value} {xs : List α} {b0 b : Nat} (hb : b < w.heap.size) (hps : ps.size = 1) (hseq : GivesAll F (n - 1) P gf lb enc xs b0 b w)
    (I : List α → World → Prop) (hIs : ∀ pre W u, I pre W → I pre (W.setCell ⟨b, 0, none⟩ u))
    (hIo : ∀ pre W k o o', I pre W → w.heap.size ≤ k → W.heap[k]? = some o' → o'.isCells = false → I pre (W.putObj k o)) (hIa : ∀ pre W o, I pre W → I pre (W.alloc o)) (h0 : I [] w) (a₁ : α → Act)
    (hassign : ∀ (l : Nat) (x : α) (W : World) (K : Act → World → Prop), K (a₁ x) W →
      assign.wpIn (F.inRound l) (n - 1 - 1) P (Exit.then K (fun _ _ _ => False)) { tmps := (ps.zip #[enc x]).foldl (fun t (p, v) => t.setIfInBounds p v) a.tmps, defers := [] } W)
    (hbody : ∀ (l : Nat) (pre : List α) (x : α) (rest : List α) (W : World), xs = pre ++ x :: rest → I pre W → body.wpIn (F.inRound l) (n - 1 - 1) P (fun e _ W' => e = .normal ∧ KeepsOthers W W' ∧ Mid b0 w.heap.size W W' ∧ I (pre ++ [x]) W') (a₁ x) W)
    (hdone : ∀ (D : Nat) (W : World), w.heap.size ≤ D → I xs W → W.heap[D]? = some (.deferred (some [])) → Q .normal { a with defers := { target := .collected D, args := #[] } :: a.defers } W) :
    (Code.rangeFunc g ps assign body).wpIn F n P Q a w := by
  refine wpIn_rangeFunc ?_
  intro fn hfn
  rw [hro]
  -- the loop's record, ready, busy, or with a jump that is never pending here
  let rec0 : LoopState → Loop := fun st => { state := st, pending := none, fn, tmps := a.tmps, params := ps, assign, body, defers := w.heap.size }
  have hsz : (w.alloc (.deferred (some []))).heap.size = w.heap.size + 1 := World.size_alloc _ _
  have hrec : ((w.alloc (.deferred (some []))).alloc (.loop (rec0 .ready))).heap[w.heap.size + 1]? = some (.loop (rec0 .ready)) := by
    have := World.alloc_heap_new (w.alloc (.deferred (some []))) (.loop (rec0 .ready))
    rwa [hsz] at this
  have hdef : ((w.alloc (.deferred (some []))).alloc (.loop (rec0 .ready))).heap[w.heap.size]? = some (.deferred (some [])) :=
    (Below.heap_alloc _ _ _ (by rw [hsz]; omega)).trans (World.alloc_heap_new w _)
  refine ⟨w.heap.size + 1, [{ target := .collected w.heap.size, args := #[] }], (w.alloc (.deferred (some []))).alloc (.loop (rec0 .ready)), { target := .fn (.func gf) lb, args := #[.func (.yield (w.heap.size + 1)) #[] #[]] }, (w.alloc (.deferred (some []))).alloc (.loop (rec0 .ready)), gf,
    #[.func (.yield (w.heap.size + 1)) #[] #[]] ++ lb, (w.alloc (.deferred (some []))).alloc (.loop (rec0 .ready)), run_enterLoop_outer _ _ _ _ _, ?_, ?_, ?_, fun _ => h1, ?_⟩
  · simp only [resolve, hg]
    simp [go_sem]
  · intro f' hf'
    simp [Target.leads] at hf'
    subst hf'
    exact hFg
  · simp [invoke, go_sem, eg]
  refine (hseq (w.heap.size + 1) (fun pre W => I pre W ∧ W.heap[w.heap.size + 1]? = some (.loop (rec0 .ready)) ∧ W.heap[w.heap.size]? = some (.deferred (some []))) _
    (by rw [World.size_alloc, hsz]; omega) (fun k _ hk => (Below.heap_alloc _ _ _ (by rw [hsz]; omega)).trans (Below.heap_alloc _ _ _ hk))
    (fun pre W1 u h => ⟨hIs _ _ _ h.1, (Below.heap_setCell _ _ _ _ (show w.heap.size + 1 ≠ b by omega)).trans h.2.1, (Below.heap_setCell _ _ _ _ (show w.heap.size ≠ b by omega)).trans h.2.2⟩)
    ?_ ⟨hIa _ _ _ (hIa _ _ _ h0), hrec, hdef⟩).mono ?_
  · rintro pre x rest W1 hx ⟨hi, hl, hk⟩
    have hlt : w.heap.size + 1 < W1.heap.size := (Array.getElem?_eq_some_iff.1 hl).1
    have hy := run_yield (P := P) (args := #[enc x]) hl (by simpa using hps.symm)
    refine ⟨fn, _, assign, body, hy, roundIn_of_wpIn hfn (hassign _ x W1 _ ⟨_, run_beginRound hl rfl, ?_⟩)⟩
    have hl2 : (W1.putObj (w.heap.size + 1) (.loop (rec0 .busy))).heap[w.heap.size + 1]? = some (.loop (rec0 .busy)) := World.putObj_heap_same hlt
    have hk2 : (W1.putObj (w.heap.size + 1) (.loop (rec0 .busy))).heap[w.heap.size]? = some (.deferred (some [])) := (World.putObj_heap_other (by omega)).trans hk
    refine wpIn_mono (hbody _ pre x rest _ hx (hIo _ _ _ _ _ hi (by omega) hl rfl)) ?_
    rintro e a3 W3 ⟨rfl, hk3, hm3, hi3⟩
    have hl3 := hk3.same _ _ hl2 rfl
    refine ⟨_, _, run_endRound none hl3, rfl, ⟨hIo _ _ _ _ _ hi3 (by omega) hl3 rfl, World.putObj_heap_same (Array.getElem?_eq_some_iff.1 hl3).1, (World.putObj_heap_other (by omega)).trans (hk3.same _ _ hk2 rfl)⟩, ?_⟩
    exact ((Mid.put _ _ (by omega)).trans hm3).trans (Mid.put _ _ (by omega))
  · rintro e W2 ⟨⟨v, rfl⟩, hi, hl, hk⟩
    exact ⟨none, _, run_endLoop hl (by simp [rec0]), hdone _ _ (Nat.le_refl _) (hIo _ _ _ _ _ hi (by omega) hl rfl) ((World.putObj_heap_other (by omega)).trans hk)⟩
end Go.Proofs.YtpjmccajkcmmaaaGreatDoor

namespace Go.Proofs.YtpjmccajkcmmaaaGreatDoor
open Go.RowKit
attribute [local go_sem] Oper.semAt_some

/-- a text's parts between a byte -/
def splitS (c : UInt8) (l : List UInt8) : List (List UInt8) :=
  if h : Lib.indexByte l c < 0 then [l] else l.take (Lib.indexByte l c).toNat :: splitS c (l.drop ((Lib.indexByte l c).toNat + 1))
termination_by l.length
decreasing_by
  have := indexByte_le l c
  rw [List.length_drop]
  omega
theorem splitS_last (c : UInt8) (l : List UInt8) (h : Lib.indexByte l c < 0) : splitS c l = [l] := by rw [splitS, dif_pos h]
theorem splitS_more (c : UInt8) (l : List UInt8) (h : ¬ Lib.indexByte l c < 0) : splitS c l = l.take (Lib.indexByte l c).toNat :: splitS c (l.drop ((Lib.indexByte l c).toNat + 1)) := by rw [splitS, dif_neg h]

theorem indexOne_any (s : ByteArray) (c : UInt8) (w : World) : Calls Tryz.prog 145 #[.string s, .string ⟨#[c]⟩] w fun e w' => e = .returned (.int .i64 (Lib.indexByte s.data.toList c)) ∧ w = w' := by
  refine (Tryz.strings_Index_one s c w).mono ?_
  rintro e w' ⟨rfl, rfl⟩
  exact ⟨rfl, rfl⟩

/-- what the iterator's three variables hold -/
structure SplitBox (b0 : Nat) (t : ByteArray) (W : World) : Prop where
  s : W.heap[b0]? = some (.cells #[.string t] 9 (0, 0))
  sep : W.heap[b0 + 1]? = some (.cells #[.string ⟨#[47]⟩] 9 (0, 0))
  save : W.heap[b0 + 2]? = some (.cells #[.int .i64 0] 3 (0, 0))

def cellLen (b : Nat) (w : World) : Nat := match w.cell? ⟨b, 0, none⟩ with | some (.string t) => t.size | _ => 0

set_option maxHeartbeats 2000000 in
set_option maxRecDepth 100000 in
theorem splitSeq_gives (n : Nat) (b0 : Nat) (s : ByteArray) (hs : s.size ≤ 140737488351232) (w : World) (hb : SplitBox b0 s w) :
    GivesAll Fence.wide n Tryz.prog 144 #[.pointer (some ⟨b0 + 1, 0, none⟩), .pointer (some ⟨b0, 0, none⟩), .pointer (some ⟨b0 + 2, 0, none⟩)] (fun x : List UInt8 => .string ⟨x.toArray⟩) (splitS 47 s.data.toList) b0 b0 w := by
  intro l R W hsz hmid hst hY h0
  have hlt : b0 + 2 < w.heap.size := (Array.getElem?_eq_some_iff.1 hb.save).1
  have hW : SplitBox b0 s W := ⟨(hmid _ (by omega) (by omega)).trans hb.s, (hmid _ (by omega) (by omega)).trans hb.sep, (hmid _ (by omega) (by omega)).trans hb.save⟩
  have HY := Lib.hid hY
  have HST := Lib.hid hst
  have HW := Lib.hid hW
  have H0 := Lib.hid h0
  have e1 : W.cell? ⟨b0 + 1, 0, none⟩ = some (.string ⟨#[47]⟩) := Lib.cell_of_heap hW.sep 0
  have e3 : W.cell? ⟨b0 + 2, 0, none⟩ = some (.int .i64 0) := Lib.cell_of_heap hW.save 0
  clear hmid hb hY hst hW h0 hsz
  refine callsIn_of_wp Tryz.func144 rfl trivial ?_ rfl
  simp only [Tryz.ntmps144, List.size_toArray, List.length_cons, List.length_nil, Nat.reduceAdd, Nat.reduceSub, Array.replicate_succ, Array.replicate_zero, List.push_toArray, List.append_toArray, List.nil_append, List.cons_append]
  gi_wp2
  gi_loopw [7] (fun _ wr => ∃ (pre : List (List UInt8)) (t : ByteArray), Hid (t.size ≤ s.size) ∧ Hid (splitS 47 s.data.toList = pre ++ splitS 47 t.data.toList) ∧ Hid (SplitBox b0 t wr) ∧ Hid (R pre wr)) (fun _ wr => cellLen b0 wr)
  case atStart => exact ⟨[], s, Lib.hid (Nat.le_refl _), Lib.hid rfl, HW, H0⟩
  case round =>
    obtain ⟨pre, t, HL, HS, HB, HR⟩ := hrel
    have e1 : wr.cell? ⟨b0 + 1, 0, none⟩ = some (.string ⟨#[47]⟩) := Lib.cell_of_heap HB.out.sep 0
    have e2 : wr.cell? ⟨b0, 0, none⟩ = some (.string t) := Lib.cell_of_heap HB.out.s 0
    have e3 : wr.cell? ⟨b0 + 2, 0, none⟩ = some (.int .i64 0) := Lib.cell_of_heap HB.out.save 0
    have HI := Lib.hid (fun w => indexOne_any t 47 w)
    have hlast := splitS_last 47 t.data.toList
    have hmore := splitS_more 47 t.data.toList
    have hle := indexByte_le t.data.toList 47
    have htl : t.data.toList.length = t.size := by simp
    rw [htl] at hle
    generalize Lib.indexByte t.data.toList 47 = i at HI hlast hmore hle
    by_cases hi : i < 0
    · have hx : splitS 47 s.data.toList = pre ++ t.data.toList :: [] := by rw [HS.out, hlast hi]
      obtain ⟨fn, tmps, assign, body, hy, hRd⟩ := HY.out pre _ [] wr hx HR.out
      rw [show (⟨t.data.toList.toArray⟩ : ByteArray) = t from Lib.mk_data t] at hy
      have HX := Lib.hid hx
      clear hx hlast hmore hle htl
      gi_wp2
      refine ⟨trivial, fun h => (by cases h), ?_⟩
      refine (callsIn_wide.2 (HI.out _)).mono ?_
      rintro e w' ⟨rfl, rfl⟩
      gi_wp2
      refine ⟨fun h => (by cases h), ?_⟩
      refine hRd.mono ?_
      rintro e W' ⟨rfl, hR', _⟩
      have HR2 : Hid (R (splitS 47 s.data.toList) W') := Lib.hid (by rw [HX.out]; exact hR')
      clear hR'
      gi_wp2
      go_end0
      exact ⟨⟨_, rfl⟩, HR2.out⟩
    · obtain ⟨m, rfl⟩ : ∃ m : Nat, i = m := ⟨i.toNat, by omega⟩
      have hm : m < t.size := by omega
      have hx : splitS 47 s.data.toList = pre ++ t.data.toList.take m :: splitS 47 (t.data.toList.drop (m + 1)) := by rw [HS.out, hmore hi]; rfl
      obtain ⟨fn, tmps, assign, body, hy, hRd⟩ := HY.out pre _ _ wr hx HR.out
      rw [show (⟨(t.data.toList.take m).toArray⟩ : ByteArray) = t.extract 0 m from (ext_str t 0 m _ (by simp)).symm] at hy
      have hsl1 : ∀ W : World, (Instr.slice 9 (.string t) none (some (.int .i64 (m : Int))) none).run Tryz.prog W = .ok (.string (t.extract 0 m)) W := fun W => run_slice_string_h W 9 t Tryz.underlying9 .i64 (m : Int) (by omega) (by omega)
      have hsl2 : ∀ W : World, (Instr.slice 9 (.string t) (some (.int .i64 ((m : Int) + 1))) none none).run Tryz.prog W = .ok (.string (t.extract (m + 1) t.size)) W := fun W => by
        have := run_slice_string_l W 9 t Tryz.underlying9 .i64 ((m : Int) + 1) (by omega) (by omega)
        rw [this]
        congr 2
      have HX : Hid (splitS 47 s.data.toList = (pre ++ [t.data.toList.take m]) ++ splitS 47 (t.extract (m + 1) t.size).data.toList) := Lib.hid (by rw [hx, tail_list]; simp)
      have HL2 : Hid ((t.extract (m + 1) t.size).size ≤ s.size) := Lib.hid (by have := HL.out; rw [ByteArray.size_extract]; omega)
      have HL3 : Hid ((t.extract (m + 1) t.size).size < t.size) := Lib.hid (by rw [ByteArray.size_extract]; omega)
      have hts : t.size ≤ 140737488351232 := by have := HL.out; omega
      clear hx hlast hmore hle htl
      gi_wp2
      refine ⟨trivial, fun h => (by cases h), ?_⟩
      refine (callsIn_wide.2 (HI.out _)).mono ?_
      rintro e w' ⟨rfl, rfl⟩
      gi_wp2
      refine ⟨fun h => (by cases h), ?_⟩
      refine hRd.mono ?_
      rintro e W' ⟨rfl, hR', hmid⟩
      have hB2 : SplitBox b0 t W' := ⟨(hmid _ (by omega) (by omega)).trans HB.out.s, (hmid _ (by omega) (by omega)).trans HB.out.sep, (hmid _ (by omega) (by omega)).trans HB.out.save⟩
      have g1 : W'.cell? ⟨b0 + 1, 0, none⟩ = some (.string ⟨#[47]⟩) := Lib.cell_of_heap hB2.sep 0
      have g2 : W'.cell? ⟨b0, 0, none⟩ = some (.string t) := Lib.cell_of_heap hB2.s 0
      have g3 : W'.cell? ⟨b0 + 2, 0, none⟩ = some (.int .i64 0) := Lib.cell_of_heap hB2.save 0
      have f2 : W'.frozen? ⟨b0, 0, none⟩ = false := Lib.frozen_of_heap hB2.s 0
      have HB3 : Hid (SplitBox b0 (t.extract (m + 1) t.size) (W'.setCell ⟨b0, 0, none⟩ (.string (t.extract (m + 1) t.size)))) := Lib.hid ⟨heap_set hB2.s 0 _, (Below.heap_setCell _ _ _ _ (by show b0 + 1 ≠ b0; omega)).trans hB2.sep, (Below.heap_setCell _ _ _ _ (by show b0 + 2 ≠ b0; omega)).trans hB2.save⟩
      have HR3 := Lib.hid (HST.out _ _ (.string (t.extract (m + 1) t.size)) hR')
      have HM1 : Hid (cellLen b0 (W'.setCell ⟨b0, 0, none⟩ (.string (t.extract (m + 1) t.size))) = (t.extract (m + 1) t.size).size) := Lib.hid (by unfold cellLen; rw [Lib.cell_of_heap HB3.out.s 0]; rfl)
      have HM2 : Hid (cellLen b0 wr = t.size) := Lib.hid (by unfold cellLen; rw [e2])
      clear hB2 hmid hR'
      gi_wp2
      go_roundw
      case rel => exact ⟨_, _, HL2, HX, HB3, HR3⟩
      case measure => rw [HM1.out, HM2.out]; exact HL3.out
end Go.Proofs.YtpjmccajkcmmaaaGreatDoor

namespace Go.Proofs.YtpjmccajkcmmaaaGreatDoor
open Go.RowKit
attribute [local go_sem] Oper.semAt_some

theorem rooted_any (s : ByteArray) (w : World) : Calls Tryz.prog 93 #[.string s] w fun e w' => e = .returned (.bool (s.data.toList.head? == some 47)) ∧ w = w' := by
  have HP := Lib.hid (Tryz.strings_HasPrefix s ⟨#[47]⟩ w)
  have hb : Hid (Lib.hasPrefix s.data.toList [47] = (s.data.toList.head? == some 47)) := Lib.hid (by
    cases s.data.toList with
    | nil => rfl
    | cons c r =>
      by_cases h : c = 47
      · subst h
        cases r <;> rfl
      · have h1 : (c == 47) = false := beq_eq_false_iff_ne.2 h
        have h2 : (47 == c) = false := beq_eq_false_iff_ne.2 (fun e => h e.symm)
        simp [Lib.hasPrefix, List.isPrefixOf, h1, h2])
  go_enter Tryz.func93, Tryz.ntmps93
  go_wp2_with (go_at_call 72; refine HP.out.mono ?_; rintro e w' ⟨rfl, rfl⟩)
  go_ret
  exact ⟨by rw [← hb.out]; rfl, rfl⟩

/-- a part more -/
def stepP (rooted : Bool) (out : List (List UInt8)) (part : List UInt8) : List (List UInt8) :=
  if part = [] ∨ part = [46] then out
  else if part = [46, 46] then (if out ≠ [] ∧ out.getLast? ≠ some [46, 46] then out.dropLast else if rooted then out else out ++ [part])
  else out ++ [part]
/-- a path's parts -/
def partsS (l : List UInt8) : List (List UInt8) := (splitS 47 l).foldl (stepP (l.head? == some 47)) []

theorem splitS_len (c : UInt8) : ∀ (n : Nat) (l : List UInt8), l.length ≤ n → (splitS c l).length ≤ l.length + 1
  | n, l, hn => by
    by_cases h : Lib.indexByte l c < 0
    · rw [splitS_last c l h]; simp
    · rw [splitS_more c l h]
      have hle := indexByte_le l c
      cases n with
      | zero => omega
      | succ n =>
        have := splitS_len c n (l.drop ((Lib.indexByte l c).toNat + 1)) (by rw [List.length_drop]; omega)
        rw [List.length_drop] at this
        simp
        omega
theorem stepP_len (r : Bool) (out : List (List UInt8)) (x : List UInt8) : (stepP r out x).length ≤ out.length + 1 := by
  unfold stepP
  split
  · omega
  · split
    · split
      · simp; omega
      · split
        · omega
        · simp
    · simp
theorem foldP_len (r : Bool) : ∀ (l : List (List UInt8)) (out : List (List UInt8)), (l.foldl (stepP r) out).length ≤ out.length + l.length
  | [], out => by simp
  | x :: l, out => by
    have h1 := foldP_len r l (stepP r out x)
    have h2 := stepP_len r out x
    simp only [List.foldl_cons, List.length_cons]
    omega

set_option maxHeartbeats 1000000 in
set_option maxRecDepth 100000 in
theorem splitSeq_any (s : ByteArray) (w : World) : Calls Tryz.prog 94 #[.string s, .string ⟨#[47]⟩] w fun e w' =>
    e = .returned (.func (.func 144) #[] #[.pointer (some ⟨w.heap.size + 1, 0, none⟩), .pointer (some ⟨w.heap.size, 0, none⟩), .pointer (some ⟨w.heap.size + 2, 0, none⟩)]) ∧
    w' = ((w.alloc (.cells #[.string s] 9)).alloc (.cells #[.string ⟨#[47]⟩] 9)).alloc (.cells #[.int .i64 0] 3) := by
  go_enter Tryz.func94, Tryz.ntmps94
  go_wp2
  go_ret
  exact ⟨rfl, rfl⟩

/-- between two rounds of Parts: s in block B, out in block B + 1 -/
structure PI (B : Nat) (s : ByteArray) (v : Value) (L : List (List UInt8)) (W : World) : Prop where
  out : W.heap[B + 1]? = some (.cells #[v] 23 (0, 0))
  own : W.ownsRow (B + 5) 9 1 v L.length (L.map strV)
  s : W.heap[B]? = some (.cells #[.string s] 9 (0, 0))
  size : B + 5 ≤ W.heap.size
theorem own_heap {w w' : World} {B : Nat} {e : TypeId} {size : Nat} {v : Value} {n : Nat} {xs : List Value} (h : w.ownsRow B e size v n xs) (hk : ∀ k, v.ownBlock = some k → w'.heap[k]? = w.heap[k]?) : w'.ownsRow B e size v n xs := by
  refine ⟨h.1, ?_⟩
  rcases h.2 with h | ⟨g, cap, cur, a, b, hg, r⟩
  · exact .inl h
  · refine .inr ⟨g, cap, cur, a, b, ?_, r⟩
    rw [hk g (by rw [a]; rfl)]
    exact hg
theorem PI.keep {B : Nat} {s : ByteArray} {v : Value} {L : List (List UInt8)} {W W' : World} (h : PI B s v L W) (hs : W.heap.size ≤ W'.heap.size) (hk : ∀ k, k ≤ B + 1 ∨ v.ownBlock = some k → W'.heap[k]? = W.heap[k]?) : PI B s v L W' :=
  ⟨(hk _ (.inl (by omega))).trans h.out, own_heap h.own (fun k e => hk k (.inr e)), (hk _ (.inl (by omega))).trans h.s, Nat.le_trans h.size hs⟩
theorem own_cells {w : World} {B : Nat} {e : TypeId} {size : Nat} {v : Value} {n : Nat} {xs : List Value} (h : w.ownsRow B e size v n xs) {k : Nat} (hk : v.ownBlock = some k) : ∃ o, w.heap[k]? = some o ∧ o.isCells = true := by
  rcases h.2 with ⟨rfl, _⟩ | ⟨g, cap, cur, rfl, _, hg, _⟩
  · simp [Value.ownBlock] at hk
  · simp [Value.ownBlock] at hk
    subst hk
    exact ⟨_, hg, rfl⟩

theorem slice_head (g n cap : Nat) (W : World) (hc : n ≤ cap) : (Instr.slice 23 (.slice (some ⟨g, 0, none⟩) (n + 1) cap) none (some (.int .i64 (n : Int))) none).run Tryz.prog W = .ok (.slice (some ⟨g, 0, none⟩) n cap) W := by
  have he : Tryz.prog.elem 23 = 9 := by kernel_rfl
  rw [run_slice_h W 23 (some ⟨g, 0, none⟩) (n + 1) cap (by rw [he]; exact Tryz.underlying23) .i64 (n : Int) (by omega) (by omega), he, Tryz.sizeOf9 W]
  simp only [Result.andThen, sliced]
  have h1 : ((n : Int)).toNat = n := by omega
  rw [h1]
  simp [Addr.add]
theorem own_mono {w : World} {B B' : Nat} {e : TypeId} {size : Nat} {v : Value} {n : Nat} {xs : List Value} (h : w.ownsRow B e size v n xs) (hB : B' ≤ B) : w.ownsRow B' e size v n xs := by
  refine ⟨h.1, ?_⟩
  rcases h.2 with h | ⟨g, cap, cur, a, b, r⟩
  · exact .inl h
  · exact .inr ⟨g, cap, cur, a, Nat.le_trans hB b, r⟩
theorem PI.push {B : Nat} {s : ByteArray} {v v' : Value} {L : List (List UInt8)} {W w3 : World} {x : List UInt8} {w : World} (h : PI B s v L W) (hb : Below B w W) (hBw : B ≤ w.heap.size)
    (hown : w3.ownsRow (B + 5) 9 1 v' (L.length + 1) (L.map strV ++ [strV x])) (hg : (W.alloc (.cells #[strV x] 9)).grownBy w3 v.ownBlock) :
    (∃ v, w3.heap[B + 1]? = some (.cells #[v] 23 (0, 0))) ∧ KeepsOthers W (w3.setCell ⟨B + 1, 0, none⟩ v') ∧ Mid (B + 2) (B + 5) W (w3.setCell ⟨B + 1, 0, none⟩ v') ∧ PI B s v' (L ++ [x]) (w3.setCell ⟨B + 1, 0, none⟩ v') ∧ Below B w (w3.setCell ⟨B + 1, 0, none⟩ v') := by
  have hsz := h.size
  have h3 : ∀ k, k < W.heap.size → v.ownBlock ≠ some k → w3.heap[k]? = W.heap[k]? := fun k hk hn => (hg.block k (by simp; omega) (fun e => hn e.symm)).trans (Lib.alloc_old W _ k hk)
  have hn : ∀ k, k < B + 5 → v.ownBlock ≠ some k := fun k hk e => by have := (h.own.lt k e).1; omega
  have hO := (h3 (B + 1) (by omega) (hn _ (by omega))).trans h.out
  refine ⟨⟨_, hO⟩, ?_, ?_, ?_, ?_⟩
  · refine ((KeepsOthers.alloc W _).trans (KeepsOthers.of_grownBy hg ?_)).trans (KeepsOthers.setCell _ _ _)
    intro j o e ho
    obtain ⟨o', ho', hc⟩ := own_cells h.own e
    rw [Lib.alloc_old W _ j (h.own.lt j e).2, ho'] at ho
    cases ho
    exact hc
  · intro k h1 h2
    rw [Below.heap_setCell _ _ _ _ (by show k ≠ B + 1; omega)]
    exact h3 k (by omega) (hn k h2)
  · refine ⟨heap_set hO 0 _, ?_, ?_, ?_⟩
    · rw [List.length_append, List.map_append]
      exact own_heap hown (fun k e => Below.heap_setCell _ _ _ _ (by show k ≠ B + 1; have := (hown.lt k e).1; omega))
    · rw [Below.heap_setCell _ _ _ _ (by show B ≠ B + 1; omega), h3 B (by omega) (hn _ (by omega))]
      exact h.s
    · have := hg.size
      simp [World.setCell] at this ⊢
      omega
  · exact ((hb.alloc (Nat.le_trans hBw hb.size) _).grown hg (by have := hb.size; simp; omega) (fun k e => by have := (h.own.lt k e).1; omega)).setCell (p := ⟨B + 1, 0, none⟩) (by show B ≤ B + 1; omega) _
theorem PI.pop {B : Nat} {s : ByteArray} {g cap : Nat} {L : List (List UInt8)} {y : List UInt8} {W : World} (h : PI B s (.slice (some ⟨g, 0, none⟩) (L.length + 1) cap) (L ++ [y]) W) :
    PI B s (.slice (some ⟨g, 0, none⟩) L.length cap) L (W.setCell ⟨B + 1, 0, none⟩ (.slice (some ⟨g, 0, none⟩) L.length cap)) := by
  have hg := (h.own.lt g rfl).1
  refine ⟨heap_set h.out 0 _, ?_, (Below.heap_setCell _ _ _ _ (by show B ≠ B + 1; omega)).trans h.s, by have := h.size; simpa [World.setCell] using this⟩
  refine own_heap (w := W) ⟨by simp, ?_⟩ (fun k e => Below.heap_setCell _ _ _ _ (by show k ≠ B + 1; simp [Value.ownBlock] at e; omega))
  rcases h.own.2 with ⟨hv, _⟩ | ⟨g', cap', cur, hv, hb, hh, hn, hc, hs, ht⟩
  · cases hv
  · injection hv with hv _ hcap
    injection hv with hv
    injection hv with hgg _ _
    subst hgg
    subst hcap
    refine .inr ⟨g, cap, cur, rfl, hb, hh, by simp at hn; omega, hc, hs, ?_⟩
    have := congrArg (List.take (L.length * 1)) ht
    rw [List.take_take] at this
    simp at this ⊢
    exact this

set_option maxHeartbeats 4000000 in
set_option maxRecDepth 100000 in
theorem parts_any (s : ByteArray) (hs : s.size ≤ 1048576) (w : World) :
    Calls Tryz.prog 64 #[.string s] w fun e w' => ∃ v, e = .returned v ∧ w'.ownsRow w.heap.size 9 1 v (partsS s.data.toList).length ((partsS s.data.toList).map strV) ∧ Below w.heap.size w w' := by
  refine (callsIn_wide (n := 9)).1 ?_
  refine callsIn_of_wp_marks Tryz.func64 rfl trivial ?_ rfl
  obtain ⟨i0, hi, hz0, hz1, hz2⟩ := info_parts strInfo
  obtain ⟨r, hr⟩ : ∃ r : Bool, r = (s.data.toList.head? == some 47) := ⟨_, rfl⟩
  have HRt : Hid (∀ w, Calls Tryz.prog 93 #[.string s] w fun e w' => e = .returned (.bool r) ∧ w = w') := Lib.hid (by rw [hr]; exact rooted_any s)
  have HP : Hid (partsS s.data.toList = (splitS 47 s.data.toList).foldl (stepP r) []) := Lib.hid (by rw [hr]; rfl)
  have hln : (splitS 47 s.data.toList).length ≤ s.size + 1 := by
    have := splitS_len 47 _ s.data.toList (Nat.le_refl _)
    simpa using this
  clear hr
  simp only [Tryz.ntmps64, List.size_toArray, List.length_cons, List.length_nil, Nat.reduceAdd, Nat.reduceSub, Array.replicate_succ, Array.replicate_zero, List.push_toArray, List.append_toArray, List.nil_append, List.cons_append]
  gi_wp2
  refine ⟨trivial, ?_⟩
  refine (callsIn_wide.2 (splitSeq_any s _)).mono ?_
  rintro e w1 ⟨rfl, hw1⟩
  have hsz2 : ((w.alloc (.cells #[.string s] 9)).alloc (.cells #[.slice none 0 0] 23)).heap.size = w.heap.size + 2 := by simp
  rw [hsz2]
  have hs1 : w1.heap.size = w.heap.size + 5 := by rw [hw1]; simp
  have hold : ∀ k, k < w.heap.size + 2 → w1.heap[k]? = ((w.alloc (.cells #[.string s] 9)).alloc (.cells #[.slice none 0 0] 23)).heap[k]? := fun k hk => by
    rw [hw1, Below.heap_alloc _ _ _ (by simp; omega), Below.heap_alloc _ _ _ (by simp; omega), Below.heap_alloc _ _ _ (by simp; omega)]
  have hB1 : Below w.heap.size w w1 := by
    rw [hw1]
    exact (((((Below.refl _ w).alloc (Nat.le_refl _) _).alloc (by simp) _).alloc (by simp; omega) _).alloc (by simp; omega) _).alloc (by simp; omega) _
  have hbox : SplitBox (w.heap.size + 2) s w1 := by
    rw [hw1]
    obtain ⟨w0, hw0⟩ : ∃ w0, w0 = (w.alloc (.cells #[.string s] 9)).alloc (.cells #[.slice none 0 0] 23) := ⟨_, rfl⟩
    rw [← hw0] at hsz2 ⊢
    rw [← hsz2]
    refine ⟨?_, ?_, ?_⟩
    · rw [Below.heap_alloc _ _ _ (by simp; omega), Below.heap_alloc _ _ _ (by simp)]
      exact heap_alloc_new w0 _
    · rw [Below.heap_alloc _ _ _ (by simp)]
      have := heap_alloc_new (w0.alloc (.cells #[.string s] 9)) (.cells #[.string ⟨#[47]⟩] 9)
      rw [show (w0.alloc (.cells #[.string s] 9)).heap.size = w0.heap.size + 1 by simp] at this
      exact this
    · have := heap_alloc_new ((w0.alloc (.cells #[.string s] 9)).alloc (.cells #[.string ⟨#[47]⟩] 9)) (.cells #[.int .i64 0] 3)
      rw [show ((w0.alloc (.cells #[.string s] 9)).alloc (.cells #[.string ⟨#[47]⟩] 9)).heap.size = w0.heap.size + 2 by simp] at this
      exact this
  have hPI : PI w.heap.size s (.slice none 0 0) [] w1 := by
    refine ⟨(hold _ (by omega)).trans ?_, World.ownsRow_nil _ _ _ _, (hold _ (by omega)).trans ?_, by omega⟩
    · have := heap_alloc_new (w.alloc (.cells #[.string s] 9)) (.cells #[.slice none 0 0] 23)
      rw [show (w.alloc (.cells #[.string s] 9)).heap.size = w.heap.size + 1 by simp] at this
      exact this
    · rw [Below.heap_alloc _ _ _ (by simp)]
      exact heap_alloc_new w _
  clear hw1 hold hsz2
  gi_wp2
  refine wpIn_range_all (F := Fence.wide) (n := 9) rfl (by omega) (gf := 144) (lb := #[.pointer (some ⟨w.heap.size + 2 + 1, 0, none⟩), .pointer (some ⟨w.heap.size + 2, 0, none⟩), .pointer (some ⟨w.heap.size + 2 + 2, 0, none⟩)]) rfl trivial (enters_of Tryz.func144 (by kernel_rfl) rfl)
    (b0 := w.heap.size + 2) (b := w.heap.size + 2) (by omega) rfl (splitSeq_gives 8 (w.heap.size + 2) s (by omega) w1 hbox)
    (fun pre W => (∃ v, PI w.heap.size s v (pre.foldl (stepP r) []) W) ∧ Below w.heap.size w W) ?s1 ?s2 ?s3 ⟨⟨_, hPI⟩, hB1⟩
    (fun x => { tmps := #[.string s, .pointer (some ⟨w.heap.size, 0, none⟩), .slice none 0 0, .pointer (some ⟨w.heap.size + 1, 0, none⟩), .string ⟨x.toArray⟩, undef, .string s,
      .func (.func 144) #[] #[.pointer (some ⟨w.heap.size + 2 + 1, 0, none⟩), .pointer (some ⟨w.heap.size + 2, 0, none⟩), .pointer (some ⟨w.heap.size + 2 + 2, 0, none⟩)], .string ⟨x.toArray⟩,
      undef, undef, undef, undef, undef, undef, undef, undef, undef, undef, undef, undef, undef, undef, undef, undef, undef, undef, undef, undef, undef, undef, undef, undef, undef, undef, undef, undef, undef, undef, undef, undef, undef, undef], defers := [] }) ?assign ?body ?done
  case s1 =>
    rintro pre W u ⟨⟨v, h⟩, hb⟩
    exact ⟨⟨v, h.keep (by simp [World.setCell]) (fun k hk => Below.heap_setCell _ _ _ _ (by
      show k ≠ w.heap.size + 2
      rcases hk with hk | hk
      · omega
      · have := (h.own.lt k hk).1; omega))⟩, hb.setCell (p := ⟨w.heap.size + 2, 0, none⟩) (by show w.heap.size ≤ w.heap.size + 2; omega) u⟩
  case s2 =>
    rintro pre W k o o' ⟨⟨v, h⟩, hb⟩ hk ho' hc
    refine ⟨⟨v, h.keep (by simp) (fun j hj => World.putObj_heap_other ?_)⟩, hb.trans ((Below.refl _ W).grown (grownBy_putObj' W k o) hb.size (fun j e => by cases e; omega))⟩
    rintro rfl
    rcases hj with hj | hj
    · omega
    · obtain ⟨o2, ho2, hc2⟩ := own_cells h.own hj
      rw [ho'] at ho2
      cases ho2
      rw [hc] at hc2
      cases hc2
  case s3 =>
    rintro pre W o ⟨⟨v, h⟩, hb⟩
    exact ⟨⟨v, h.keep (by simp) (fun k hk => Below.heap_alloc _ _ _ (by
      rcases hk with hk | hk
      · have := h.size; omega
      · exact (h.own.lt k hk).2))⟩, hb.alloc hb.size _⟩
  case assign =>
    intro l x W K hK
    gi_wp2
    exact hK
  case body =>
    rintro l pre x rest W hx ⟨⟨v, h⟩, hb⟩
    have hfold : (pre ++ [x]).foldl (stepP r) [] = stepP r (pre.foldl (stepP r) []) x := by rw [List.foldl_append]; rfl
    rw [hfold]
    have hLl : Hid ((pre.foldl (stepP r) []).length ≤ 1048577) := Lib.hid (by
      have h1 := foldP_len r pre []
      have h2 : (splitS 47 s.data.toList).length = pre.length + (rest.length + 1) := by rw [hx]; simp
      simp at h1
      omega)
    clear hfold hx
    generalize pre.foldl (stepP r) [] = L at h hLl ⊢
    have hown := h.own
    have e0 : W.cell? ⟨w.heap.size, 0, none⟩ = some (.string s) := Lib.cell_of_heap h.s 0
    have e1 : W.cell? ⟨w.heap.size + 1, 0, none⟩ = some v := Lib.cell_of_heap h.out 0
    have f1 : W.frozen? ⟨w.heap.size + 1, 0, none⟩ = false := Lib.frozen_of_heap h.out 0
    obtain ⟨a, c, rfl⟩ : ∃ a c, v = .slice a L.length c := by
      rcases hown.2 with ⟨rfl, h0⟩ | ⟨g, cap, cur, rfl, _⟩
      · exact ⟨_, _, by rw [h0]⟩
      · exact ⟨_, _, rfl⟩
    have H := Lib.hid h
    have HB := Lib.hid hb
    clear h hb hown
    by_cases hx1 : x = []
    · subst hx1
      have hS : Hid (stepP r L [] = L) := Lib.hid (by unfold stepP; simp)
      gi_wp2
      exact ⟨KeepsOthers.refl _, Mid.refl _ _ _, ⟨_, by rw [hS.out]; exact H.out⟩, HB.out⟩
    by_cases hx2 : x = [46]
    · subst hx2
      have hS : Hid (stepP r L [46] = L) := Lib.hid (by unfold stepP; simp)
      gi_wp2
      exact ⟨KeepsOthers.refl _, Mid.refl _ _ _, ⟨_, by rw [hS.out]; exact H.out⟩, HB.out⟩
    by_cases hx3 : x = [46, 46]
    · subst hx3
      rcases List.eq_nil_or_concat L with rfl | ⟨L', y, rfl⟩
      · cases r with
        | true =>
          have hS : Hid (stepP true [] [46, 46] = []) := Lib.hid (by unfold stepP; simp)
          have HRw := Lib.hid (fun w => CallsIn.inRound l (callsIn_wide (n := 6).2 (HRt.out w)))
          gi_wp2
          refine ⟨trivial, ?_⟩
          refine (HRw.out _).mono ?_
          rintro e w' ⟨rfl, rfl⟩
          gi_wp2
          exact ⟨KeepsOthers.refl _, Mid.refl _ _ _, ⟨_, by rw [hS.out]; exact H.out⟩, HB.out⟩
        | false =>
          have hS : Hid (stepP false [] [46, 46] = [] ++ [[46, 46]]) := Lib.hid (by unfold stepP; simp)
          have HRw := Lib.hid (fun w => CallsIn.inRound l (callsIn_wide (n := 6).2 (HRt.out w)))
          gi_wp2
          refine ⟨trivial, ?_⟩
          refine (HRw.out _).mono ?_
          rintro e w' ⟨rfl, rfl⟩
          have HA := Lib.hid H.out.own
          gi_wp2_with (gi_at_builtin; refine wpListIn_append_own _ rfl _ _ 23 rfl (w.heap.size + 5) 9 i0 (.string .empty) 1 16 Tryz.underlying23 hi hz0 hz1 hz2 rfl (by decide) _ _ _ rfl (HA.out.alloc _) ⟨W.heap.size, 0, none⟩ 1 1 [.string ⟨#[46, 46]⟩] rfl rfl ?c1 ?c2 ?c3 ?c4 ?c5 ?_)
          case c1 =>
            intro j y hj
            match j, hj with
            | 0, hj => simp at hj; subst hj; simp [Addr.add]
          case c2 => intro y hy; simp at hy; subst hy; rfl
          case c3 => have := hLl.out; unfold maxLen; omega
          case c4 => have := hLl.out; omega
          case c5 => have := H.out.size; simp; omega
          intro v' w3 hown' hgrow _
          obtain ⟨⟨v0, hO3⟩, q1, q2, q3, q4⟩ := H.out.push HB.out (Nat.le_refl _) hown' hgrow
          have g1 : w3.cell? ⟨w.heap.size + 1, 0, none⟩ = some v0 := Lib.cell_of_heap hO3 0
          have k1 : w3.frozen? ⟨w.heap.size + 1, 0, none⟩ = false := Lib.frozen_of_heap hO3 0
          obtain ⟨ao, mo, rfl⟩ : ∃ a c, v' = .slice a (0 + 1) c := by
            rcases hown'.2 with ⟨rfl, h0⟩ | ⟨g, cap, cur, rfl, _⟩
            · omega
            · exact ⟨_, _, rfl⟩
          have Q1 := Lib.hid q1
          have Q2 := Lib.hid q2
          have Q3 := Lib.hid q3
          have Q4 := Lib.hid q4
          clear hown' hgrow hO3 q1 q2 q3 q4
          gi_wp2
          exact ⟨Q1.out, Q2.out, ⟨_, by rw [hS.out]; exact Q3.out⟩, Q4.out⟩


      · rw [List.concat_eq_append] at *
        obtain ⟨g, cap, cur, hv, hgB, hgh, hgt⟩ : ∃ g cap cur, Value.slice a (L' ++ [y]).length c = .slice (some ⟨g, 0, none⟩) (L' ++ [y]).length cap ∧ w.heap.size + 5 ≤ g ∧ W.heap[g]? = some (.cells cur 9 (0, 0)) ∧ cur.toList.take ((L' ++ [y]).length * 1) = (L' ++ [y]).map strV := by
          rcases H.out.own.2 with ⟨_, h0⟩ | ⟨g, cap, cur, hv, hb, hh, _, _, _, ht⟩
          · simp at h0
          · exact ⟨g, cap, cur, hv, hb, hh, ht⟩
        injection hv with hv _ hc
        subst hv
        subst hc
        have hcy : W.cell? ⟨g, L'.length, none⟩ = some (.string ⟨y.toArray⟩) := by
          rw [Lib.cell_of_heap hgh]
          have := congrArg (fun l => l[L'.length]?) hgt
          simp only [List.getElem?_take, List.map_append] at this
          rw [if_pos (by simp), List.getElem?_append_right (by simp)] at this
          simpa [strV] using this
        clear hgh hgt
        have hlen : (L' ++ [y]).length = L'.length + 1 := by simp
        rw [hlen] at e1 H hLl
        have hLn : L'.length ≤ 1048577 := by have := hLl.out; omega
        have hcap : L'.length + 1 ≤ c := by
          rcases H.out.own.2 with ⟨hv, _⟩ | ⟨g', cap', cur', hv, _, _, hn, _⟩
          · cases hv
          · injection hv with _ _ hcc
            rw [hcc]
            rw [hlen] at hn
            exact hn
        by_cases hy : y = [46, 46]
        · subst hy
          cases r with
          | true =>
            have hS : Hid (stepP true (L' ++ [[46, 46]]) [46, 46] = (L' ++ [[46, 46]])) := Lib.hid (by unfold stepP; simp)
            have HRw := Lib.hid (fun w => CallsIn.inRound l (callsIn_wide (n := 6).2 (HRt.out w)))
            gi_wp2
            refine ⟨trivial, ?_⟩
            refine (HRw.out _).mono ?_
            rintro e w' ⟨rfl, rfl⟩
            gi_wp2
            exact ⟨KeepsOthers.refl _, Mid.refl _ _ _, ⟨_, by rw [hS.out]; exact H.out⟩, HB.out⟩
          | false =>
            have hS : Hid (stepP false (L' ++ [[46, 46]]) [46, 46] = (L' ++ [[46, 46]]) ++ [[46, 46]]) := Lib.hid (by unfold stepP; simp)
            have HRw := Lib.hid (fun w => CallsIn.inRound l (callsIn_wide (n := 6).2 (HRt.out w)))
            gi_wp2
            refine ⟨trivial, ?_⟩
            refine (HRw.out _).mono ?_
            rintro e w' ⟨rfl, rfl⟩
            have HA := Lib.hid H.out.own
            gi_wp2_with (gi_at_builtin; refine wpListIn_append_own _ rfl _ _ 23 rfl (w.heap.size + 5) 9 i0 (.string .empty) 1 16 Tryz.underlying23 hi hz0 hz1 hz2 rfl (by decide) _ _ _ rfl (HA.out.alloc _) ⟨W.heap.size, 0, none⟩ 1 1 [.string ⟨#[46, 46]⟩] rfl rfl ?c1 ?c2 ?c3 ?c4 ?c5 ?_)
            case c1 =>
              intro j y hj
              match j, hj with
              | 0, hj => simp at hj; subst hj; simp [Addr.add]
            case c2 => intro y hy; simp at hy; subst hy; rfl
            case c3 => have := hLl.out; unfold maxLen; omega
            case c4 => have := hLl.out; omega
            case c5 => have := H.out.size; simp; omega
            intro v' w3 hown' hgrow _
            obtain ⟨⟨v0, hO3⟩, q1, q2, q3, q4⟩ := H.out.push HB.out (Nat.le_refl _) (by simpa [strV] using hown') hgrow
            have g1 : w3.cell? ⟨w.heap.size + 1, 0, none⟩ = some v0 := Lib.cell_of_heap hO3 0
            have k1 : w3.frozen? ⟨w.heap.size + 1, 0, none⟩ = false := Lib.frozen_of_heap hO3 0
            obtain ⟨ao, mo, rfl⟩ : ∃ a c, v' = .slice a (L'.length + 1 + 1) c := by
              rcases hown'.2 with ⟨rfl, h0⟩ | ⟨g, cap, cur, rfl, _⟩
              · omega
              · exact ⟨_, _, rfl⟩
            have Q1 := Lib.hid q1
            have Q2 := Lib.hid q2
            have Q3 := Lib.hid q3
            have Q4 := Lib.hid q4
            clear hown' hgrow hO3 q1 q2 q3 q4
            gi_wp2
            exact ⟨Q1.out, Q2.out, ⟨_, by rw [hS.out]; exact Q3.out⟩, Q4.out⟩


        · have by1 : (y == [46, 46]) = false := beq_eq_false_iff_ne.2 hy
          have hS : Hid (stepP r (L' ++ [y]) [46, 46] = L') := Lib.hid (by unfold stepP; simp [hy])
          have hsl : ∀ W : World, (Instr.slice 23 (.slice (some ⟨g, 0, none⟩) (L'.length + 1) c) none (some (.int .i64 (L'.length : Int))) none).run Tryz.prog W = .ok (.slice (some ⟨g, 0, none⟩) L'.length c) W := fun W => slice_head g L'.length c W (by omega)
          have HP2 := Lib.hid H.out.pop
          gi_wp2
          exact ⟨KeepsOthers.setCell _ _ _, fun k h1 h2 => Below.heap_setCell _ _ _ _ (by show k ≠ w.heap.size + 1; omega), ⟨_, by rw [hS.out]; exact HP2.out⟩, HB.out.setCell (p := ⟨w.heap.size + 1, 0, none⟩) (by show w.heap.size ≤ w.heap.size + 1; omega) _⟩
    · have b1 : x.isEmpty = false := by cases x with | nil => exact absurd rfl hx1 | cons _ _ => rfl
      have b2 : (x == [46]) = false := beq_eq_false_iff_ne.2 hx2
      have b3 : (x == [46, 46]) = false := beq_eq_false_iff_ne.2 hx3
      have hS : Hid (stepP r L x = L ++ [x]) := Lib.hid (by unfold stepP; rw [if_neg (by simp [hx1, hx2]), if_neg hx3])
      clear hx1 hx2 hx3
      have HA := Lib.hid H.out.own
      gi_wp2_with (gi_at_builtin; refine wpListIn_append_own _ rfl _ _ 23 rfl (w.heap.size + 5) 9 i0 (.string .empty) 1 16 Tryz.underlying23 hi hz0 hz1 hz2 rfl (by decide) _ _ _ rfl (HA.out.alloc _) ⟨W.heap.size, 0, none⟩ 1 1 [.string ⟨x.toArray⟩] rfl rfl ?c1 ?c2 ?c3 ?c4 ?c5 ?_)
      case c1 =>
        intro j y hj
        match j, hj with
        | 0, hj => simp at hj; subst hj; simp [Addr.add]
      case c2 => intro y hy; simp at hy; subst hy; rfl
      case c3 => have := hLl.out; unfold maxLen; omega
      case c4 => have := hLl.out; omega
      case c5 => have := H.out.size; simp; omega
      intro v' w3 hown' hgrow _
      obtain ⟨⟨v0, hO3⟩, q1, q2, q3, q4⟩ := H.out.push HB.out (Nat.le_refl _) hown' hgrow
      have g1 : w3.cell? ⟨w.heap.size + 1, 0, none⟩ = some v0 := Lib.cell_of_heap hO3 0
      have k1 : w3.frozen? ⟨w.heap.size + 1, 0, none⟩ = false := Lib.frozen_of_heap hO3 0
      obtain ⟨ao, mo, rfl⟩ : ∃ a c, v' = .slice a (L.length + 1) c := by
        rcases hown'.2 with ⟨rfl, h0⟩ | ⟨g, cap, cur, rfl, _⟩
        · omega
        · exact ⟨_, _, rfl⟩
      have Q1 := Lib.hid q1
      have Q2 := Lib.hid q2
      have Q3 := Lib.hid q3
      have Q4 := Lib.hid q4
      clear hown' hgrow hO3 q1 q2 q3 q4
      gi_wp2
      exact ⟨Q1.out, Q2.out, ⟨_, by rw [hS.out]; exact Q3.out⟩, Q4.out⟩

  case done =>
    rintro D W hD ⟨⟨v, h⟩, hb⟩ hK
    have e1 : W.cell? ⟨w.heap.size + 1, 0, none⟩ = some v := Lib.cell_of_heap h.out 0
    have H := Lib.hid h
    have HB := Lib.hid hb
    have HK := Lib.hid hK
    clear h hb hK
    gi_wp2
    refine ⟨by simp, .inl ⟨_, _, rfl, run_takeDeferred HK.out, ?_⟩⟩
    refine ⟨_, results_tmp rfl _ _ _, _, rfl, ?_, ?_⟩
    · rw [HP.out]
      refine own_heap (own_mono H.out.own (by omega)) (fun k e => World.putObj_heap_other ?_)
      rintro rfl
      obtain ⟨o, ho, hc⟩ := own_cells H.out.own e
      rw [HK.out] at ho
      cases ho
      cases hc
    · exact HB.out.trans ((Below.refl _ W).grown (grownBy_putObj' W D _) HB.out.size (fun j e => by cases e; omega))
end Go.Proofs.YtpjmccajkcmmaaaGreatDoor

namespace Go.Proofs.YtpjmccajkcmmaaaGreatDoor
open Go.RowKit

theorem join_two (x y : List UInt8) (r : List (List UInt8)) (sep : List UInt8) : Lib.join (x :: y :: r) sep = x ++ (sep ++ Lib.join (y :: r) sep) := by
  rw [Lib.join_cons, Lib.join_cons]
  simp [Lib.joinTail]
def tot (L : List (List UInt8)) : Nat := (L.map List.length).sum
theorem join_len_le (sep : List UInt8) : ∀ (L : List (List UInt8)), (Lib.join L sep).length ≤ tot L + sep.length * L.length
  | [] => by rw [Lib.join_nil]; simp
  | [x] => by rw [Lib.join_one]; simp [tot]
  | x :: y :: r => by
    have := join_len_le sep (y :: r)
    rw [join_two]
    simp only [tot, List.length_append, List.map_cons, List.sum_cons, List.length_cons] at this ⊢
    rw [Nat.mul_add, Nat.mul_add] at *
    omega
theorem splitS_tot (c : UInt8) : ∀ (n : Nat) (l : List UInt8), l.length ≤ n → tot (splitS c l) ≤ l.length
  | n, l, hn => by
    by_cases h : Lib.indexByte l c < 0
    · rw [splitS_last c l h]; simp [tot]
    · rw [splitS_more c l h]
      have hle := indexByte_le l c
      cases n with
      | zero => omega
      | succ n =>
        have := splitS_tot c n (l.drop ((Lib.indexByte l c).toNat + 1)) (by rw [List.length_drop]; omega)
        rw [List.length_drop] at this
        simp only [tot, List.map_cons, List.sum_cons, List.length_take] at this ⊢
        omega
theorem tot_append (a b : List (List UInt8)) : tot (a ++ b) = tot a + tot b := by simp [tot]
theorem stepP_tot (r : Bool) (out : List (List UInt8)) (x : List UInt8) : tot (stepP r out x) ≤ tot out + x.length := by
  have h1 : tot (out ++ [x]) = tot out + x.length := by rw [tot_append]; simp [tot]
  unfold stepP
  split
  · omega
  · split
    · split
      · rcases List.eq_nil_or_concat out with rfl | ⟨o, y, rfl⟩
        · simp
        · rw [List.concat_eq_append, List.dropLast_concat, tot_append]
          omega
      · split
        · omega
        · omega
    · omega
theorem foldP_tot (r : Bool) : ∀ (l : List (List UInt8)) (out : List (List UInt8)), tot (l.foldl (stepP r) out) ≤ tot out + tot l
  | [], out => by simp
  | x :: l, out => by
    have h1 := foldP_tot r l (stepP r out x)
    have h2 := stepP_tot r out x
    simp only [List.foldl_cons, tot, List.map_cons, List.sum_cons] at h1 h2 ⊢
    omega
theorem partsS_tot (l : List UInt8) : tot (partsS l) ≤ l.length ∧ (partsS l).length ≤ l.length + 1 := by
  unfold partsS
  have h1 := foldP_tot (l.head? == some 47) (splitS 47 l) []
  have h2 := splitS_tot 47 _ l (Nat.le_refl _)
  have h3 := foldP_len (l.head? == some 47) (splitS 47 l) []
  have h4 := splitS_len 47 _ l (Nat.le_refl _)
  simp only [tot, List.map_nil, List.sum_nil, List.length_nil] at h1 h2 h3 ⊢
  omega

theorem join_any {K : Nat → Prop} {v : Value} {L : List (List UInt8)} (sep : ByteArray) (w : World) (h : StrsAt K w v L) (hn : L.length ≤ 140737488355328) (hlen : (Lib.join L sep.data.toList).length ≤ 140737488355328) :
    Calls Tryz.prog 92 #[v, .string sep] w fun e w' => e = .returned (.string ⟨(Lib.join L sep.data.toList).toArray⟩) ∧ Below w.heap.size w w' := by
  cases L with
  | nil =>
    obtain ⟨a, c, rfl⟩ := h.isSlice
    refine (Tryz.strings_Join_none a c sep w).mono ?_
    rintro e w' ⟨rfl, rfl⟩
    exact ⟨rfl, Below.refl _ _⟩
  | cons x r =>
    obtain ⟨g, o, cap, rfl, hc, hK, hg, hx, _⟩ := SlAt.ne0 h (by simp)
    have hm : ((x :: r).map (fun l => (⟨l.toArray⟩ : ByteArray))).map (·.data.toList) = x :: r := by
      rw [List.map_map]
      exact List.map_id _
    have := Tryz.strings_Join g o cap ((x :: r).map (fun l => (⟨l.toArray⟩ : ByteArray))) sep w (fun j y hj => hx j _ (by
      rw [List.getElem?_map] at hj ⊢
      cases hh : (x :: r)[j]? with
      | none => rw [hh] at hj; cases hj
      | some z => rw [hh] at hj; cases hj; rfl)) hg (by simpa using hn) (by simpa using hc) (by rw [hm]; exact hlen)
    rw [hm] at this
    simpa using this

/-- a path made clean -/
def cleanS (l : List UInt8) : List UInt8 :=
  if l.head? == some 47 then 47 :: Lib.join (partsS l) [47] else if Lib.join (partsS l) [47] = [] then [46] else Lib.join (partsS l) [47]
theorem cleanS_len (l : List UInt8) : (cleanS l).length ≤ 2 * l.length + 2 := by
  have h1 := join_len_le [47] (partsS l)
  have h2 := partsS_tot l
  unfold cleanS
  split
  · simp at h1 ⊢; omega
  · split
    · simp
    · simp at h1 ⊢; omega
theorem StrsAt.of_row {B : Nat} {w : World} {v : Value} {L : List (List UInt8)} (h : w.ownsRow B 9 1 v L.length (L.map strV)) : StrsAt (fun k => B ≤ k) w v L := SlAt.of_own (World.ownsRowF_of h) (fun k e => (h.lt k e).1)

set_option maxHeartbeats 1000000 in
set_option maxRecDepth 100000 in
theorem clean_any (s : ByteArray) (hs : s.size ≤ 1048576) (w : World) :
    Calls Tryz.prog 63 #[.string s] w fun e w' => e = .returned (.string ⟨(cleanS s.data.toList).toArray⟩) ∧ Below w.heap.size w w' := by
  have HP := Lib.hid (parts_any s hs w)
  obtain ⟨r, hr⟩ : ∃ r : Bool, r = (s.data.toList.head? == some 47) := ⟨_, rfl⟩
  have HR : Hid (∀ w, Calls Tryz.prog 93 #[.string s] w fun e w' => e = .returned (.bool r) ∧ w = w') := Lib.hid (by rw [hr]; exact rooted_any s)
  have hj := join_len_le [47] (partsS s.data.toList)
  have ht := partsS_tot s.data.toList
  have hl : s.data.toList.length = s.size := by simp
  have HJ : Hid (∀ v w, StrsAt (fun k => True) w v (partsS s.data.toList) → Calls Tryz.prog 92 #[v, .string ⟨#[47]⟩] w fun e w' => e = .returned (.string ⟨(Lib.join (partsS s.data.toList) [47]).toArray⟩) ∧ Below w.heap.size w w') :=
    Lib.hid (fun v w h => join_any ⟨#[47]⟩ w h (by omega) (by simp at hj ⊢; omega))
  have HC : Hid (cleanS s.data.toList = if r then 47 :: Lib.join (partsS s.data.toList) [47] else if Lib.join (partsS s.data.toList) [47] = [] then [46] else Lib.join (partsS s.data.toList) [47]) := Lib.hid (by rw [hr]; rfl)
  have hjl : (Lib.join (partsS s.data.toList) [47]).length ≤ 4194304 := by simp at hj ⊢; omega
  clear hj ht hl hr
  generalize Lib.join (partsS s.data.toList) [47] = j at HJ HC hjl
  have hjs : (⟨j.toArray⟩ : ByteArray).size ≤ 4194304 := by show j.toArray.size ≤ _; simpa using hjl
  go_enter Tryz.func63, Tryz.ntmps63
  go_wp2_with fail
  go_at_call 64
  refine HP.out.mono ?_
  rintro e w1 ⟨v, rfl, hown, hb1⟩
  have HS := Lib.hid (StrsAt.of_row hown)
  have HB1 := Lib.hid hb1
  clear hown hb1
  go_wp2_with fail
  go_at_call 92
  refine (HJ.out _ _ (SlAt.mono HS.out (fun _ _ _ => trivial))).mono ?_
  rintro e w2 ⟨rfl, hb2⟩
  have HB2 := Lib.hid (HB1.out.trans (hb2.mono HB1.out.size))
  clear hb2
  go_wp2_with fail
  go_at_call 93
  refine (HR.out _).mono ?_
  rintro e w3 ⟨rfl, rfl⟩
  cases r with
  | true =>
    rw [if_pos rfl] at HC
    clear HP HR HJ HS
    go_wp2
    go_ret
    refine ⟨?_, HB2.out⟩
    rw [HC.out]
    show Ending.returned (Value.string _) = _
    congr 2
  | false =>
    rw [if_neg (by simp)] at HC
    clear HP HR HJ HS
    cases hj : j.isEmpty with
    | true =>
      obtain rfl : j = [] := List.isEmpty_iff.1 hj
      rw [if_pos rfl] at HC
      go_wp2
      go_ret
      exact ⟨by rw [HC.out]; rfl, HB2.out⟩
    | false =>
      rw [if_neg (by rintro rfl; cases hj)] at HC
      go_wp2
      go_ret
      exact ⟨by rw [HC.out]; rfl, HB2.out⟩

/-- the last stroke's place; -1: none -/
def lastB (l : List UInt8) : Int := Lib.lastIndexByte ⟨l.toArray⟩ 47
theorem lastB_le (l : List UInt8) : -1 ≤ lastB l ∧ lastB l < l.length := by
  unfold lastB
  rcases Lib.lastIndexByte_spec ⟨l.toArray⟩ 47 with h | ⟨i, hi, he, _⟩
  · rw [h.1]; simp
    try omega
  · have hs : (⟨l.toArray⟩ : ByteArray).size = l.length := by show l.toArray.size = _; simp
    rw [he]
    omega
/-- a path's directory, and its name -/
def dirS (l : List UInt8) : List UInt8 := if lastB l = -1 then [46] else if lastB l = 0 then [47] else l.take (lastB l).toNat
def nameS (l : List UInt8) : List UInt8 := l.drop (lastB l + 1).toNat

theorem last_any (s : ByteArray) (hs : s.size ≤ 4194304) (w : World) : Calls Tryz.prog 65 #[.string s, .int .u8 47] w fun e w' => e = .returned (.int .i64 (lastB s.data.toList)) ∧ w = w' := by
  refine (Tryz.strings_LastIndexByte s 47 (by omega) w).mono ?_
  rintro e w' ⟨rfl, rfl⟩
  refine ⟨?_, rfl⟩
  unfold lastB
  rw [Lib.mk_data]

set_option maxHeartbeats 1000000 in
set_option maxRecDepth 100000 in
theorem dir_any (s : ByteArray) (hs : s.size ≤ 4194304) (w : World) : Calls Tryz.prog 46 #[.string s] w fun e w' => e = .returned (.string ⟨(dirS s.data.toList).toArray⟩) ∧ w = w' := by
  have HL := Lib.hid (last_any s hs w)
  have hle := lastB_le s.data.toList
  have hl : s.data.toList.length = s.size := by simp
  have HD : Hid (dirS s.data.toList = if lastB s.data.toList = -1 then [46] else if lastB s.data.toList = 0 then [47] else s.data.toList.take (lastB s.data.toList).toNat) := Lib.hid rfl
  rw [hl] at hle
  generalize lastB s.data.toList = i at HL hle HD
  obtain ⟨h1, h2⟩ := hle
  clear hl
  by_cases hi : i = -1
  · subst hi
    rw [if_pos rfl] at HD
    go_enter Tryz.func46, Tryz.ntmps46
    go_wp2_with (go_at_call 65; refine HL.out.mono ?_; rintro e w' ⟨rfl, rfl⟩)
    go_ret
    exact ⟨by rw [HD.out]; rfl, rfl⟩
  · rw [if_neg hi] at HD
    have b1 : (i == -1) = false := beq_eq_false_iff_ne.2 hi
    by_cases hi0 : i = 0
    · subst hi0
      rw [if_pos rfl] at HD
      go_enter Tryz.func46, Tryz.ntmps46
      go_wp2_with (go_at_call 65; refine HL.out.mono ?_; rintro e w' ⟨rfl, rfl⟩)
      go_ret
      exact ⟨by rw [HD.out]; rfl, rfl⟩
    · rw [if_neg hi0] at HD
      have b2 : (i == 0) = false := beq_eq_false_iff_ne.2 hi0
      obtain ⟨m, rfl⟩ : ∃ m : Nat, i = m := ⟨i.toNat, by omega⟩
      have hX : Hid ((⟨(s.data.toList.take m).toArray⟩ : ByteArray) = s.extract 0 m) := Lib.hid (ext_str s 0 m _ (by simp)).symm
      go_enter Tryz.func46, Tryz.ntmps46
      go_wp2_with (go_at_call 65; refine HL.out.mono ?_; rintro e w' ⟨rfl, rfl⟩)
      go_ret
      exact ⟨by rw [HD.out]; simp only [Int.toNat_natCast]; rw [hX.out]; rfl, rfl⟩
theorem dirS_len (l : List UInt8) : (dirS l).length ≤ l.length + 1 := by
  unfold dirS
  split
  · simp
  · split
    · simp
    · simp [List.length_take]; omega
theorem nameS_len (l : List UInt8) : (nameS l).length ≤ l.length := by
  unfold nameS
  simp [List.length_drop]

set_option maxHeartbeats 1000000 in
set_option maxRecDepth 100000 in
theorem name_any (s : ByteArray) (hs : s.size ≤ 4194304) (w : World) : Calls Tryz.prog 194 #[.string s] w fun e w' => e = .returned (.string ⟨(nameS s.data.toList).toArray⟩) ∧ w = w' := by
  have HL := Lib.hid (last_any s hs w)
  have hle := lastB_le s.data.toList
  have hl : s.data.toList.length = s.size := by simp
  have HD : Hid (nameS s.data.toList = s.data.toList.drop (lastB s.data.toList + 1).toNat) := Lib.hid rfl
  rw [hl] at hle
  generalize lastB s.data.toList = i at HL hle HD
  obtain ⟨h1, h2⟩ := hle
  have hX : Hid ((⟨(s.data.toList.drop (i + 1).toNat).toArray⟩ : ByteArray) = s.extract (i + 1).toNat s.size) := Lib.hid (ext_str s (i + 1).toNat s.size _ (by
    rw [List.take_of_length_le]
    rw [List.length_drop, hl]
    omega)).symm
  clear hl
  go_enter Tryz.func194, Tryz.ntmps194
  go_wp2_with (go_at_call 65; refine HL.out.mono ?_; rintro e w' ⟨rfl, rfl⟩)
  go_ret
  exact ⟨by rw [HD.out, hX.out]; rfl, rfl⟩
end Go.Proofs.YtpjmccajkcmmaaaGreatDoor
