/- sh.Proc.Step. A process step by step, over what its commands come to. sh.Run. echo and cat. The law's own lines, as they are read. -/
import Derived.Test.YtmagggflamdahaaGreatDoorSk
namespace Go.Proofs.YtmagggflamdahaaGreatDoor
open Go.RowKit

theorem slice_tail5 (g o n cap : Nat) (hc : n + 1 ≤ cap) : ∃ a, (n ≠ 0 → a = some ⟨g, o + 5, none⟩) ∧
    ∀ W, (Instr.slice 41 (.slice (some ⟨g, o, none⟩) (n + 1) cap) (some (.int .i64 1)) none none).run Tryz.prog W = .ok (.slice a n (cap - 1)) W := by
  have he : Tryz.prog.elem 41 = 90 := by kernel_rfl
  refine ⟨if cap = 1 then some ⟨g, o, none⟩ else some ⟨g, o + 5, none⟩, fun hn => if_neg (by omega), fun W => ?_⟩
  rw [run_slice_l W 41 (some ⟨g, o, none⟩) (n + 1) cap (by rw [he]; exact Tryz.underlying41) .i64 1 (by omega) (by omega), he, Tryz.sizeOf90 W]
  simp only [Result.andThen, sliced]
  have h1 : (1 : Int).toNat = 1 := rfl
  rw [h1]
  by_cases hc1 : cap = 1
  · simp [hc1]
  · simp [hc1, Addr.add]

theorem CmdsAt.cons {K : Nat → Prop} {w : World} {v : Value} {c : PCmd} {l : List PCmd} (h : CmdsAt K w v (c :: l)) :
    ∃ g o cap wv iv ov, v = .slice (some ⟨g, o, none⟩) (l.length + 1) cap ∧ l.length + 1 ≤ cap ∧ K g ∧ g < w.heap.size ∧
      w.cell? ⟨g, o, none⟩ = some (.string ⟨c.op.toArray⟩) ∧ w.cell? ⟨g, o + 1, none⟩ = some wv ∧ w.cell? ⟨g, o + 2, none⟩ = some iv ∧ w.cell? ⟨g, o + 3, none⟩ = some ov ∧ w.cell? ⟨g, o + 4, none⟩ = some (.bool c.add) ∧
      StrsAt K w wv c.words ∧ PtrAt K w iv c.inn ∧ PtrAt K w ov c.out ∧
      ∀ a cp, (l.length ≠ 0 → a = some ⟨g, o + 5, none⟩) → l.length ≤ cp → CmdsAt K w (.slice a l.length cp) l := by
  obtain ⟨xs, h1, h2, h3⟩ := h
  obtain ⟨wv, iv, ov, hx, hw, hi, ho⟩ := h2
  obtain ⟨g, o, cap, hv, hc, hK, hg, hcell, htail⟩ := SlAt.ne0 h1 (by simp)
  have hj : ∀ j u, [strV c.op, wv, iv, ov, Value.bool c.add][j]? = some u → w.cell? ⟨g, o + j, none⟩ = some u := by
    intro j u hu
    rw [← hx, List.getElem?_take] at hu
    split at hu
    · exact hcell j u hu
    · cases hu
  refine ⟨g, o, cap, wv, iv, ov, by simpa using hv, by simpa using hc, hK, hg, hj 0 _ rfl, hj 1 _ rfl, hj 2 _ rfl, hj 3 _ rfl, hj 4 _ rfl, hw, hi, ho, ?_⟩
  intro a cp ha hcp
  refine ⟨xs.drop 5, ?_, h3⟩
  have := htail a cp (fun hne => ha (by simp at hne; simpa using hne)) (by simpa using hcp)
  simpa using this

theorem PtrAt.isPtr {K : Nat → Prop} {w : World} {v : Value} {x : Option (List UInt8)} (h : PtrAt K w v x) : ∃ q, v = .pointer q := by
  cases x with
  | none => exact ⟨_, h⟩
  | some t =>
    obtain ⟨b, fr, rfl, _⟩ := h
    exact ⟨_, rfl⟩

/-- what is left set -/
theorem IsProc.setLeft {K : Nat → Prop} {pb : Nat} {v lv' : Value} {pr : PProc} {l' : List PCmd} {w : World} (h : IsProc K pb v pr w) (hl : CmdsAt K w lv' l') : IsProc K pb v ⟨l', pr.status, pr.said⟩ (w.setCell ⟨pb, 1, none⟩ lv') := by
  obtain ⟨lv, p, h1, h2⟩ := h.cells
  refine ⟨⟨lv', p, ⟨by simpa using heap_set h1.heap 1 lv', h1.addr, h1.buf, ownsRowF_heap h1.own (fun k hk => Below.heap_setCell w ⟨pb, 1, none⟩ _ k (fun e => h1.apart (by decide) (by rw [hk, e])))⟩, ?_⟩, h.apart⟩
  exact hl.keep (fun k hK _ => Below.heap_setCell w ⟨pb, 1, none⟩ _ k (h.apart k hK).1)

/-- is a command passed over -/
def skipS (op : List UInt8) (n : Int) : Bool := (op == [38, 38] && n != 0) || (op == [124, 124] && n == 0)
def leftS (n : Int) (l : List PCmd) : List PCmd := l.dropWhile (fun c => skipS c.op n)

set_option maxHeartbeats 4000000 in
set_option maxRecDepth 100000 in
theorem step_any {K : Nat → Prop} {ppb pb : Nat} {v : Value} (pr : PProc) (w : World) (hp : IsProc K ppb v pr w) (hK : ∀ k, K k → k < w.heap.size)
    (Q : Bool → World → Prop) (hend : leftS pr.status pr.left = [] → ∀ W, IsProc K ppb v ⟨[], pr.status, pr.said⟩ W → Keeps w.heap.size (fun k => k = ppb) w W → Q true W)
    (hdo : ∀ c rest, leftS pr.status pr.left = c :: rest → ∀ W wv iv ov, IsProc K ppb v ⟨rest, pr.status, pr.said⟩ W → Keeps w.heap.size (fun k => k = ppb) w W → StrsAt K W wv c.words → PtrAt K W iv c.inn → PtrAt K W ov c.out →
      Calls Tryz.prog 37 #[.pointer (some ⟨ppb, 0, none⟩), .agg #[strV c.op, wv, iv, ov, .bool c.add], .pointer (some ⟨pb, 0, none⟩)] W fun e W' => e = .returned (.tuple #[]) ∧ ∃ v' pr', IsProc K ppb v' pr' W' ∧ Q pr'.left.isEmpty W') :
    Calls Tryz.prog 14 #[.pointer (some ⟨ppb, 0, none⟩), .pointer (some ⟨pb, 0, none⟩)] w fun e w' => ∃ b, e = .returned (.bool b) ∧ Q b w' := by
  have HO := Lib.hid (procOk_any w hp)
  have HD := Lib.hid hdo
  have HEnd := Lib.hid hend
  have HK := Lib.hid hK
  have HP := Lib.hid hp
  clear hdo hend hK hp
  go_enter Tryz.func14, Tryz.ntmps14
  go_wp2_with fail
  go_at_call 36
  refine HO.out.mono ?_
  rintro e w0 ⟨rfl, rfl⟩
  go_wp2
  go_loopw [5] (fun v5 wr => ∃ (l : List PCmd) (u : Value), u = v5 ∧ Hid (leftS pr.status pr.left = leftS pr.status l) ∧ Hid (IsProc K ppb v ⟨l, pr.status, pr.said⟩ wr) ∧ Hid (Keeps w.heap.size (fun k => k = ppb) w wr)) (fun _ wr => match wr.cell? ⟨ppb, 1, none⟩ with | some (.slice _ n _) => n | _ => 0)
  case atStart => exact ⟨pr.left, _, rfl, Lib.hid rfl, HP, Lib.hid (Keeps.refl _ _ _)⟩
  case round =>
    obtain ⟨l, u, rfl, HL, HI, HKp⟩ := hrel
    have hsz0 := HKp.out.size
    cases l with
    | nil =>
      obtain ⟨lv, p, h1, xs, h2, _⟩ := HI.out.cells
      obtain ⟨a, cp, rfl⟩ := h2.isSlice
      have c1 : wr.cell? ⟨ppb, 1, none⟩ = some (.slice a 0 cp) := Lib.cell_of_heap h1.heap 1
      have HQ := Lib.hid (HEnd.out HL.out wr HI.out HKp.out)
      clear h1 h2
      go_wp2
      go_ret
      exact .inr ⟨rfl, HQ.out⟩
    | cons c rest =>
      have hpp := HI.out.lt
      obtain ⟨lv, p, h1, h2⟩ := HI.out.cells
      have c1 : wr.cell? ⟨ppb, 1, none⟩ = some lv := Lib.cell_of_heap h1.heap 1
      have c2 : wr.cell? ⟨ppb, 2, none⟩ = some (.int .i64 pr.status) := Lib.cell_of_heap h1.heap 2
      obtain ⟨g, o, cap, wv, iv, ov, rfl, hcap, hKg, hg, e0, e1, e2, e3, e4, hwv, hiv, hov, htl⟩ := h2.cons
      obtain ⟨qw, cw, rfl⟩ := hwv.isSlice
      obtain ⟨qi, rfl⟩ := hiv.isPtr
      obtain ⟨qo, rfl⟩ := hov.isPtr
      obtain ⟨a', ha', hsl⟩ := slice_tail5 g o rest.length cap hcap
      obtain ⟨wA, hwA⟩ : ∃ wA, wA = wr.alloc (.cells #[.string ⟨c.op.toArray⟩, .slice qw c.words.length cw, .pointer qi, .pointer qo, .bool c.add] 90) := ⟨_, rfl⟩
      obtain ⟨wB, hwB⟩ : ∃ wB, wB = (wr.setCell ⟨ppb, 1, none⟩ (.slice a' rest.length (cap - 1))).alloc (.cells #[.string ⟨c.op.toArray⟩, .slice qw c.words.length cw, .pointer qi, .pointer qo, .bool c.add] 90) := ⟨_, rfl⟩
      have hBA : Below wr.heap.size wr wA := by rw [hwA]; exact (Below.refl _ _).alloc (Nat.le_refl _) _
      have hIA := HI.out.below hBA
      have hIS := HI.out.setLeft (htl a' (cap - 1) ha' (by omega))
      have hzS : (wr.setCell ⟨ppb, 1, none⟩ (.slice a' rest.length (cap - 1))).heap.size = wr.heap.size := by simp [World.setCell]
      have hBS : Below (wr.setCell ⟨ppb, 1, none⟩ (.slice a' rest.length (cap - 1))).heap.size (wr.setCell ⟨ppb, 1, none⟩ (.slice a' rest.length (cap - 1))) wB := by rw [hwB]; exact (Below.refl _ _).alloc (Nat.le_refl _) _
      have hIB : IsProc K ppb v ⟨rest, pr.status, pr.said⟩ wB := hIS.below hBS
      have hBx : wB.heap[wr.heap.size]? = some (.cells #[.string ⟨c.op.toArray⟩, .slice qw c.words.length cw, .pointer qi, .pointer qo, .bool c.add] 90 (0, 0)) := by
        rw [hwB, ← hzS]
        exact heap_alloc_new _ _
      have hKB : ∀ k, K k → k < wr.heap.size → wB.heap[k]? = wr.heap[k]? := fun k hk hl => (hBS.block k (by omega)).trans (Below.heap_setCell wr ⟨ppb, 1, none⟩ _ k (HI.out.apart k hk).1)
      have hKpB : Keeps w.heap.size (fun k => k = ppb) w wB := by
        rw [hwB]
        exact (HKp.out.setCell (p := ⟨ppb, 1, none⟩) (.inr rfl) _).alloc (by omega) _
      have a1 : wA.cell? ⟨ppb, 1, none⟩ = some (.slice (some ⟨g, o, none⟩) (rest.length + 1) cap) := (World.cell?_of_block (w := wr) (hBA.block ppb hpp)).trans c1
      have af : wA.frozen? ⟨ppb, 1, none⟩ = false := hIA.frozen 1
      have b0 : wB.cell? ⟨wr.heap.size, 0, none⟩ = some (.string ⟨c.op.toArray⟩) := Lib.cell_of_heap hBx 0
      have b1 : wB.cell? ⟨wr.heap.size, 1, none⟩ = some (.slice qw c.words.length cw) := Lib.cell_of_heap hBx 1
      have b2 : wB.cell? ⟨wr.heap.size, 2, none⟩ = some (.pointer qi) := Lib.cell_of_heap hBx 2
      have b3 : wB.cell? ⟨wr.heap.size, 3, none⟩ = some (.pointer qo) := Lib.cell_of_heap hBx 3
      have b4 : wB.cell? ⟨wr.heap.size, 4, none⟩ = some (.bool c.add) := Lib.cell_of_heap hBx 4
      have bs : wB.cell? ⟨ppb, 2, none⟩ = some (.int .i64 pr.status) := hIB.c2
      have hm : (match wB.cell? ⟨ppb, 1, none⟩ with | some (.slice _ n _) => n | _ => 0) < (match wr.cell? ⟨ppb, 1, none⟩ with | some (.slice _ n _) => n | _ => 0) := by
        obtain ⟨lv2, p2, g1, xs2, g2, _⟩ := hIB.cells
        obtain ⟨a2, cp2, rfl⟩ := g2.isSlice
        have : wB.cell? ⟨ppb, 1, none⟩ = some (.slice a2 rest.length cp2) := Lib.cell_of_heap g1.heap 1
        rw [this, c1]
        show rest.length < rest.length + 1
        omega
      have HM := Lib.hid hm
      have HIB := Lib.hid hIB
      have HKpB := Lib.hid hKpB
      have HCd : Hid (leftS pr.status pr.left = c :: rest → Calls Tryz.prog 37 #[.pointer (some ⟨ppb, 0, none⟩), .agg #[strV c.op, .slice qw c.words.length cw, .pointer qi, .pointer qo, .bool c.add], .pointer (some ⟨pb, 0, none⟩)] wB fun e W' => e = .returned (.tuple #[]) ∧ ∃ v' pr', IsProc K ppb v' pr' W' ∧ Q pr'.left.isEmpty W') :=
        Lib.hid (fun hq => HD.out c rest hq wB _ _ _ hIB hKpB (SlAt.keep hwv hKB) (hiv.keep hKB) (hov.keep hKB))
      have hcase : (skipS c.op pr.status = true ∧ (((c.op == [38, 38]) = true ∧ (pr.status != 0) = true) ∨ ((c.op == [38, 38]) = false ∧ (c.op == [124, 124]) = true ∧ (pr.status == 0) = true))) ∨
          (skipS c.op pr.status = false ∧ (((c.op == [38, 38]) = true ∧ (pr.status != 0) = false ∧ (c.op == [124, 124]) = false) ∨ ((c.op == [38, 38]) = false ∧ (c.op == [124, 124]) = true ∧ (pr.status == 0) = false) ∨ ((c.op == [38, 38]) = false ∧ (c.op == [124, 124]) = false))) := by
        unfold skipS
        cases h1 : (c.op == [38, 38]) with
        | true =>
          have : (c.op == [124, 124]) = false := by
            have := eq_of_beq h1
            rw [this]
            rfl
          rw [this]
          cases (pr.status != 0) <;> simp
        | false => cases (c.op == [124, 124]) <;> cases (pr.status == 0) <;> simp
      have hLs : leftS pr.status (c :: rest) = if skipS c.op pr.status = true then leftS pr.status rest else c :: rest := by
        unfold leftS
        rw [List.dropWhile_cons]
      rw [hwB] at b0 b1 b2 b3 b4 bs
      rw [hwA] at a1 af
      have hHL := HL.out
      clear hIA hIS hzS hBS hIB hBx hKB hKpB h1 h2 htl ha' hwv hiv hov hm hBA hKg HL hwA wA
      rcases hcase with ⟨hs, hc⟩ | ⟨hs, hc⟩
      · rw [if_pos hs] at hLs
        have HLr := Lib.hid (hHL.trans hLs)
        clear hHL hLs hs
        rcases hc with ⟨hc1, hc2⟩ | ⟨hc1, hc2, hc3⟩
        all_goals (
          go_wp2
          rw [← hwB]
          go_roundw
          case rel => exact ⟨rest, _, rfl, HLr, HIB, HKpB⟩
          case measure => exact HM.out)
      · rw [if_neg (by rw [hs]; simp)] at hLs
        have HC := Lib.hid (HCd.out (hHL.trans hLs))
        clear hHL hLs hs HCd
        rcases hc with ⟨hc1, hc2, hc3⟩ | ⟨hc1, hc2, hc3⟩ | ⟨hc1, hc2⟩
        all_goals (
          go_wp2_with fail
          go_at_call 37
          rw [← hwB]
          refine HC.out.mono ?_
          rintro e W' ⟨rfl, v', pr', hp', hq⟩
          obtain ⟨lv2, p2, g1, xs2, g2, _⟩ := hp'.cells
          obtain ⟨a2, cp2, rfl⟩ := g2.isSlice
          have z1 : W'.cell? ⟨ppb, 1, none⟩ = some (.slice a2 pr'.left.length cp2) := Lib.cell_of_heap g1.heap 1
          have hE : pr'.left.isEmpty = ((pr'.left.length : Int) == 0) := by
            cases pr'.left with
            | nil => rfl
            | cons x r => symm; exact beq_eq_false_iff_ne.2 (by simp only [List.length_cons]; omega)
          rw [hE] at hq
          have HQ := Lib.hid hq
          generalize pr'.left.length = m at z1 HQ
          clear hE g1 g2 hp' hq a1 af b0 b1 b2 b3 b4 bs e0 e1 e2 e3 e4 c1 c2 hwB
          cases hz : ((m : Int) == 0) with
          | true =>
            rw [hz] at HQ
            go_wp2
            go_ret
            exact ⟨_, rfl, HQ.out⟩
          | false =>
            rw [hz] at HQ
            go_wp2
            go_ret
            exact ⟨_, rfl, HQ.out⟩)
end Go.Proofs.YtmagggflamdahaaGreatDoor

namespace Go.Proofs.YtmagggflamdahaaGreatDoor
open Go.RowKit

/-- what a command comes to: its status, what it says, the store, whether it ends the process -/
structure RunR where
  n : Int
  t : List UInt8
  st : PStore
  ends : Bool
/-- what commands come to: by the status, the store, what is read, the words -/
def RunFn : Type := Int → PStore → List UInt8 → List (List UInt8) → RunR
def doesF (R : RunFn) (st : PStore) (pr : PProc) (c : PCmd) : PStore × PProc := match inOf st c.inn with
  | none => (st, ⟨pr.left, 1, pr.said⟩)
  | some i => doesOut (R pr.status st i c.words).st (if (R pr.status st i c.words).ends then [] else pr.left) (R pr.status st i c.words).n (R pr.status st i c.words).t pr.said c.out c.add
def stepF (R : RunFn) (st : PStore) (pr : PProc) : PStore × PProc := match leftS pr.status pr.left with
  | [] => (st, ⟨[], pr.status, pr.said⟩)
  | c :: rest => doesF R st ⟨rest, pr.status, pr.said⟩ c

/-- the commands that Ok lets in come to what R says -/
def RunOK (W0 : World) (R : RunFn) (Ok : List (List UInt8) → Prop) : Prop := ∀ (K : Nat → Prop) (ppb pb mb : Nat) (v wv : Value) (pr : PProc) (st : PStore) (i : List UInt8) (words : List (List UInt8)) (w : World), Ok words → i.length ≤ 1073741824 → (W0.heap.size ≤ pb ∧ W0.heap.size ≤ mb ∧ W0.heap.size ≤ ppb) → Below W0.heap.size W0 w →
  IsStore pb mb st w → IsProc K ppb v pr w → StrsAt K w wv words → (∀ k, K k → k < w.heap.size) → (∀ k, k = pb ∨ k = mb → k ≠ ppb ∧ v.ownBlock ≠ some k ∧ ¬ K k) →
  (R pr.status st i words).t.length ≤ 1073741824 ∧
  Calls Tryz.prog 58 #[.pointer (some ⟨ppb, 0, none⟩), wv, .string ⟨i.toArray⟩, .pointer (some ⟨pb, 0, none⟩)] w fun e w' => e = .returned (.tuple #[.int .i64 (R pr.status st i words).n, .string ⟨(R pr.status st i words).t.toArray⟩]) ∧
    IsStore pb mb (R pr.status st i words).st w' ∧ IsProc K ppb v ⟨if (R pr.status st i words).ends then [] else pr.left, pr.status, pr.said⟩ w' ∧ Keeps w.heap.size (fun k => k = pb ∨ k = mb ∨ k = ppb) w w'

/-- a command that may be run -/
structure CmdOK (Ok : List (List UInt8) → Prop) (c : PCmd) : Prop where
  words : Ok c.words
  inn : ∀ p, c.inn = some p → p.length ≤ 262144
  out : ∀ p, c.out = some p → p.length ≤ 262144
/-- a process whose commands may be run -/
structure GoodP (Ok : List (List UInt8) → Prop) (pr : PProc) : Prop where
  left : ∀ c ∈ pr.left, CmdOK Ok c
  said : pr.said.length ≤ 65536

theorem doesOut_good {Ok : List (List UInt8) → Prop} {left left1 : List PCmd} {n : Int} {t said : List UInt8} {out : Option (List UInt8)} {add : Bool} {st : PStore} (hl : ∀ c ∈ left, CmdOK Ok c) (hs : said.length ≤ 65536) (h1 : left1 = [] ∨ left1 = left) : GoodP Ok (doesOut st left1 n t said out add).2 := by
  have hl1 : ∀ c ∈ left1, CmdOK Ok c := by
    rcases h1 with rfl | rfl
    · intro c hc; cases hc
    · exact hl
  unfold doesOut
  cases out with
  | none =>
    refine ⟨hl1, ?_⟩
    simp only [List.length_append, List.length_take]
    omega
  | some p => exact ⟨hl1, hs⟩
theorem stepF_good {Ok : List (List UInt8) → Prop} {R : RunFn} {st : PStore} {pr : PProc} (h : GoodP Ok pr) : GoodP Ok (stepF R st pr).2 := by
  unfold stepF
  cases hl : leftS pr.status pr.left with
  | nil => exact ⟨fun c hc => (by cases hc), h.said⟩
  | cons c rest =>
    have hsub : ∀ x ∈ rest, CmdOK Ok x := fun x hx => h.left x ((List.dropWhile_sublist _).subset (by rw [show pr.left.dropWhile _ = c :: rest from hl]; exact List.mem_cons_of_mem _ hx))
    simp only
    unfold doesF
    cases inOf st c.inn with
    | none => exact ⟨hsub, h.said⟩
    | some i =>
      refine doesOut_good hsub h.said ?_
      by_cases hc : (R pr.status st i c.words).ends = true
      · rw [if_pos hc]; exact .inl rfl
      · rw [if_neg hc]; exact .inr rfl
theorem stepF_less {R : RunFn} {st : PStore} {pr : PProc} (h : pr.left ≠ []) : (stepF R st pr).2.left.length < pr.left.length := by
  have hle : (leftS pr.status pr.left).length ≤ pr.left.length := (List.dropWhile_sublist _).length_le
  have hpos : 0 < pr.left.length := List.length_pos_iff.2 h
  unfold stepF
  cases hl : leftS pr.status pr.left with
  | nil => simpa using hpos
  | cons c rest =>
    rw [hl] at hle
    simp only [List.length_cons] at hle
    simp only
    unfold doesF
    cases inOf st c.inn with
    | none => show rest.length < _; omega
    | some i =>
      simp only
      have : (doesOut (R pr.status st i c.words).st (if (R pr.status st i c.words).ends = true then [] else rest) (R pr.status st i c.words).n (R pr.status st i c.words).t pr.said c.out c.add).2.left = (if (R pr.status st i c.words).ends = true then [] else rest) := by
        unfold doesOut
        cases c.out <;> rfl
      rw [this]
      split
      · exact hpos
      · omega

theorem inOf_len {pb mb : Nat} {st : PStore} {w : World} (h : IsStore pb mb st w) {x : Option (List UInt8)} {i : List UInt8} (hi : inOf st x = some i) : i.length ≤ 1073741824 := by
  cases x with
  | none => obtain rfl := (Option.some.inj hi).symm; simp
  | some p =>
    change (if (readF st p).2 = 0 then some (readF st p).1 else none) = some i at hi
    by_cases h0 : (readF st p).2 = 0
    · rw [if_pos h0] at hi
      injection hi with hi
      have := readF_len h p
      rw [← hi]
      omega
    · rw [if_neg h0] at hi
      cases hi

/-- one step -/
theorem step_ok {W0 : World} {R : RunFn} {Ok : List (List UInt8) → Prop} (hR : RunOK W0 R Ok) {K : Nat → Prop} {ppb pb mb : Nat} {v : Value} (pr : PProc) (st : PStore) (w : World) (h0 : W0.heap.size ≤ pb ∧ W0.heap.size ≤ mb ∧ W0.heap.size ≤ ppb) (hb0 : Below W0.heap.size W0 w) (hg : GoodP Ok pr) (hp : IsProc K ppb v pr w) (hs : IsStore pb mb st w) (hK : ∀ k, K k → k < w.heap.size)
    (hap : ∀ k, k = pb ∨ k = mb → k ≠ ppb ∧ v.ownBlock ≠ some k ∧ ¬ K k) :
    Calls Tryz.prog 14 #[.pointer (some ⟨ppb, 0, none⟩), .pointer (some ⟨pb, 0, none⟩)] w fun e w' => e = .returned (.bool (stepF R st pr).2.left.isEmpty) ∧ IsStore pb mb (stepF R st pr).1 w' ∧ (∃ v', IsProc K ppb v' (stepF R st pr).2 w' ∧ RowFrom w.heap.size v v') ∧
      Keeps w.heap.size (fun k => k = pb ∨ k = mb ∨ k = ppb ∨ v.ownBlock = some k) w w' := by
  have hkeepS : ∀ W, Keeps w.heap.size (fun k => k = ppb) w W → IsStore pb mb st W := fun W hk => hs.keep (fun k hkk => hk.block k (by rcases hkk with rfl | rfl; exact hs.ltp; exact hs.ltm) (hap k hkk).1)
  have hKm : ∀ W, Keeps w.heap.size (fun k => k = ppb) w W → Keeps w.heap.size (fun k => k = pb ∨ k = mb ∨ k = ppb ∨ v.ownBlock = some k) w W := fun W hk => hk.mono (Nat.le_refl _) (fun k _ e => Or.inr (Or.inr (Or.inl e)))
  refine (step_any (pb := pb) pr w hp hK (fun b W => b = (stepF R st pr).2.left.isEmpty ∧ IsStore pb mb (stepF R st pr).1 W ∧ (∃ v', IsProc K ppb v' (stepF R st pr).2 W ∧ RowFrom w.heap.size v v') ∧
      Keeps w.heap.size (fun k => k = pb ∨ k = mb ∨ k = ppb ∨ v.ownBlock = some k) w W) ?_ ?_).mono ?_
  · intro hl W hp1 hk1
    have hF : stepF R st pr = (st, ⟨[], pr.status, pr.said⟩) := by unfold stepF; rw [hl]
    rw [hF]
    exact ⟨rfl, hkeepS W hk1, ⟨v, hp1, RowFrom.refl _ _⟩, hKm W hk1⟩
  · intro c rest hl W wv iv ov hp1 hk1 hwv hiv hov
    have hF : stepF R st pr = doesF R st ⟨rest, pr.status, pr.said⟩ c := by unfold stepF; rw [hl]
    have hc : CmdOK Ok c := hg.left c ((List.dropWhile_sublist _).subset (by rw [show pr.left.dropWhile _ = c :: rest from hl]; exact List.mem_cons_self))
    have hs1 := hkeepS W hk1
    have hb1 : Below W0.heap.size W0 W := hb0.trans ((hk1.mono hb0.size (M' := fun _ => False) (fun k hk e => by have := h0.2.2; omega)).below (fun _ _ h => h))
    have hK1 : ∀ k, K k → k < W.heap.size := fun k hk => Nat.lt_of_lt_of_le (hK k hk) hk1.size
    cases hi : inOf st c.inn with
    | none =>
      have hD : doesF R st ⟨rest, pr.status, pr.said⟩ c = (st, ⟨rest, 1, pr.said⟩) := by unfold doesF; rw [hi]
      refine (does_not ⟨rest, pr.status, pr.said⟩ st c W hp1 hs1 hK1 hap hwv hiv hc.inn hi).mono ?_
      rintro e W' ⟨rfl, h1, ⟨v', h2, h3⟩, h4⟩
      rw [hF, hD]
      exact ⟨rfl, v', _, h2, rfl, h1, ⟨v', h2, h3.mono hk1.size⟩, (hKm W hk1).trans (h4.mono hk1.size (fun _ _ h => h))⟩
    | some i =>
      have hil := inOf_len hs1 hi
      obtain ⟨htl, _⟩ := hR K ppb pb mb v wv ⟨rest, pr.status, pr.said⟩ st i c.words W hc.words hil h0 hb1 hs1 hp1 hwv hK1 hap
      have hD : doesF R st ⟨rest, pr.status, pr.said⟩ c = doesOut (R pr.status st i c.words).st (if (R pr.status st i c.words).ends then [] else rest) (R pr.status st i c.words).n (R pr.status st i c.words).t pr.said c.out c.add := by unfold doesF; rw [hi]
      refine (does_any ⟨rest, pr.status, pr.said⟩ st c W hp1 hs1 hK1 hap hg.said hwv hiv hov hc.inn hc.out i hi (R pr.status st i c.words).n (R pr.status st i c.words).t htl (R pr.status st i c.words).st (if (R pr.status st i c.words).ends then [] else rest) ?_).mono ?_
      · intro W2 hs2 hp2 hwv2 hb2
        exact (hR K ppb pb mb v wv ⟨rest, pr.status, pr.said⟩ st i c.words W2 hc.words hil h0 (hb1.trans (hb2.mono hb1.size)) hs2 hp2 hwv2 (fun k hk => Nat.lt_of_lt_of_le (hK1 k hk) hb2.size) hap).2
      · rintro e W' ⟨rfl, h1, ⟨v', h2, h3⟩, h4⟩
        rw [hF, hD]
        exact ⟨rfl, v', _, h2, rfl, h1, ⟨v', h2, h3.mono hk1.size⟩, (hKm W hk1).trans (h4.mono hk1.size (fun _ _ h => h))⟩
  · rintro e W ⟨b, rfl, rfl, h1, h2, h3⟩
    exact ⟨rfl, h1, h2, h3⟩
end Go.Proofs.YtmagggflamdahaaGreatDoor

namespace Go.Proofs.YtmagggflamdahaaGreatDoor
open Go.RowKit

/-- what a process comes to: k bounds its steps -/
def runGo (R : RunFn) : Nat → PStore → PProc → Int → PStore × Int × List UInt8 × Int
  | 0, st, pr, _ => (st, pr.status, pr.said, 0)
  | k + 1, st, pr, f => if pr.left = [] then (st, pr.status, pr.said, 0) else if f < 1 then (st, 0, [], 10) else runGo R k (stepF R st pr).1 (stepF R st pr).2 (f - 1)
theorem runGo_more (R : RunFn) : ∀ (k j : Nat) (st : PStore) (pr : PProc) (f : Int), pr.left.length ≤ k → pr.left.length ≤ j → runGo R k st pr f = runGo R j st pr f
  | 0, 0, _, _, _, _, _ => rfl
  | 0, j + 1, st, pr, f, h, _ => by
    have : pr.left = [] := List.eq_nil_of_length_eq_zero (by omega)
    simp [runGo, this]
  | k + 1, 0, st, pr, f, _, h => by
    have : pr.left = [] := List.eq_nil_of_length_eq_zero (by omega)
    simp [runGo, this]
  | k + 1, j + 1, st, pr, f, h1, h2 => by
    unfold runGo
    by_cases hl : pr.left = []
    · rw [if_pos hl, if_pos hl]
    · have := stepF_less (R := R) (st := st) hl
      rw [if_neg hl, if_neg hl, runGo_more R k j _ _ _ (by omega) (by omega)]
def runS (R : RunFn) (st : PStore) (pr : PProc) (f : Int) : PStore × Int × List UInt8 × Int := runGo R pr.left.length st pr f
theorem runS_done {R : RunFn} {st : PStore} {pr : PProc} {f : Int} (h : pr.left = []) : runS R st pr f = (st, pr.status, pr.said, 0) := by
  unfold runS
  rw [h]
  rfl
theorem runS_out {R : RunFn} {st : PStore} {pr : PProc} {f : Int} (h : pr.left ≠ []) (hf : f < 1) : runS R st pr f = (st, 0, [], 10) := by
  unfold runS
  obtain ⟨k, hk⟩ : ∃ k, pr.left.length = k + 1 := ⟨pr.left.length - 1, by have := List.length_pos_iff.2 h; omega⟩
  rw [hk]
  unfold runGo
  rw [if_neg h, if_pos hf]
theorem runS_step {R : RunFn} {st : PStore} {pr : PProc} {f : Int} (h : pr.left ≠ []) (hf : ¬ f < 1) : runS R st pr f = runS R (stepF R st pr).1 (stepF R st pr).2 (f - 1) := by
  unfold runS
  have := stepF_less (R := R) (st := st) h
  obtain ⟨k, hk⟩ : ∃ k, pr.left.length = k + 1 := ⟨pr.left.length - 1, by omega⟩
  rw [hk, runGo, if_neg h, if_neg hf]
  exact runGo_more R _ _ _ _ _ (by omega) (Nat.le_refl _)
/-- what a line comes to -/
def runF (R : RunFn) (st : PStore) (s : List UInt8) (f : Int) : PStore × Int × List UInt8 × Int := match readS s with
  | .error n => (st, 0, [], n)
  | .ok cs => runS R st ⟨cs, 0, []⟩ f

set_option maxHeartbeats 4000000 in
set_option maxRecDepth 100000 in
theorem run_anyG {W0 : World} {R : RunFn} {Ok : List (List UInt8) → Prop} (hR : RunOK W0 R Ok) (pb mb : Nat) (h0 : W0.heap.size ≤ pb ∧ W0.heap.size ≤ mb) (st : PStore) (s : ByteArray) (hs : s.size ≤ 140737488351232) (hcs : ∀ cs, readS s.data.toList = .ok cs → ∀ c ∈ cs, CmdOK Ok c) (f : Int) (hf : f ≤ 9223372036854775807) (w : World) (hb0 : Below W0.heap.size W0 w) (hst : IsStore pb mb st w) :
    Calls Tryz.prog 12 #[.string s, .pointer (some ⟨pb, 0, none⟩), .int .i64 f] w fun e w' => e = .returned (.tuple #[.int .i64 (runF R st s.data.toList f).2.1, .string ⟨(runF R st s.data.toList f).2.2.1.toArray⟩, .int .i64 (runF R st s.data.toList f).2.2.2]) ∧
      IsStore pb mb (runF R st s.data.toList f).1 w' ∧ Keeps w.heap.size (fun k => k = pb ∨ k = mb) w w' := by
  have HN := new_any s hs w
  unfold NewQ at HN
  unfold runF
  cases hr : readS s.data.toList with
  | error n =>
    rw [hr] at HN
    replace HN := Lib.hid HN
    have HS := Lib.hid hst
    clear hr hcs hst hR
    simp only
    go_enter Tryz.func12, Tryz.ntmps12
    go_wp2_with fail
    go_at_call 19
    refine HN.out.mono ?_
    rintro e w1 ⟨⟨rfl, hn⟩, hb⟩
    have HB := Lib.hid hb
    have hnb : ((n : Int) != 0) = true := by simpa using hn
    clear hb hn
    go_wp2
    go_ret3
    exact ⟨rfl, HS.out.below HB.out, Keeps.of HB.out _⟩
  | ok cs =>
    rw [hr] at HN
    replace HN := Lib.hid HN
    have HB0 := Lib.hid hb0
    have H0 := Lib.hid h0
    clear hb0 h0
    have HC := Lib.hid (hcs cs hr)
    have HS := Lib.hid hst
    clear hr hcs hst
    simp only
    go_enter Tryz.func12, Tryz.ntmps12
    go_wp2_with fail
    go_at_call 19
    refine HN.out.mono ?_
    rintro e w1 ⟨⟨ppb, K, rfl, hpp, hK, hp⟩, hb⟩
    have HPP := Lib.hid (⟨hpp, hK⟩ : w.heap.size ≤ ppb ∧ ∀ k, K k → w.heap.size ≤ k ∧ k < w1.heap.size)
    have HP0 := Lib.hid hp
    have HS1 := Lib.hid (HS.out.below hb)
    have HB := Lib.hid hb
    clear hpp hK hp hb
    go_wp2
    go_loopw [2] (fun v2 wr => ∃ (f' : Int) (st' : PStore) (pr : PProc) (v : Value), v2 = .int .i64 f' ∧ f' ≤ 9223372036854775807 ∧ Hid (runS R st ⟨cs, 0, []⟩ f = runS R st' pr f') ∧ Hid (GoodP Ok pr) ∧ Hid (IsProc K ppb v pr wr) ∧ Hid (IsStore pb mb st' wr) ∧ Hid (∀ k, v.ownBlock = some k → w.heap.size ≤ k) ∧ Hid (Keeps w.heap.size (fun k => k = pb ∨ k = mb) w wr) ∧ Hid (w1.heap.size ≤ wr.heap.size)) (fun _ wr => match wr.cell? ⟨ppb, 1, none⟩ with | some (.slice _ n _) => n | _ => 0)
    case atStart => exact ⟨f, st, ⟨cs, 0, []⟩, _, rfl, hf, Lib.hid rfl, Lib.hid ⟨HC.out, by simp⟩, HP0, HS1, Lib.hid (fun k hk => by simp [Value.ownBlock] at hk), Lib.hid (Keeps.of HB.out _), Lib.hid (Nat.le_refl _)⟩
    case round =>
      obtain ⟨f', st', pr, v, rfl, hf', HE, HG, HI, HT, HV, HK, HZ⟩ := hrel
      have HD := Lib.hid (done_any wr HI.out)
      cases hl : pr.left with
      | nil =>
        rw [hl] at HD
        have HF := Lib.hid (HE.out.trans (runS_done (R := R) (st := st') (f := f') hl))
        have HSt := Lib.hid (status_any wr HI.out)
        have HSy := Lib.hid (says_any wr HI.out)
        clear hl hf'
        go_wp2_with fail
        go_at_call 15
        refine HD.out.mono ?_
        rintro e w2 ⟨rfl, rfl⟩
        simp only [List.isEmpty_nil]
        go_wp2_with fail
        go_at_call 16
        refine HSt.out.mono ?_
        rintro e w2 ⟨rfl, rfl⟩
        go_wp2_with fail
        go_at_call 17
        refine HSy.out.mono ?_
        rintro e w2 ⟨rfl, -, hk2⟩
        have HK2 := Lib.hid hk2
        clear hk2
        go_wp2
        go_ret3
        rw [HF.out]
        refine ⟨rfl, HT.out.keep (fun k hk => HK2.out.block k (by rcases hk with rfl | rfl; exact HT.out.ltp; exact HT.out.ltm) (fun e => ?_)), HK.out.trans (HK2.out.mono HK.out.size (fun k hk e => ?_))⟩
        · have := HV.out k e
          have h1 := HS.out.ltp
          have h2 := HS.out.ltm
          rcases hk with rfl | rfl <;> omega
        · have := HV.out k e
          omega
      | cons c rest =>
        rw [hl] at HD
        have hne : pr.left ≠ [] := by rw [hl]; simp
        by_cases hf1 : f' < 1
        · have HF := Lib.hid (HE.out.trans (runS_out (R := R) (st := st') hne hf1))
          clear hl hne hf'
          go_wp2_with fail
          go_at_call 15
          refine HD.out.mono ?_
          rintro e w2 ⟨rfl, rfl⟩
          simp only [List.isEmpty_cons]
          go_wp2
          go_ret3
          rw [HF.out]
          exact ⟨rfl, HT.out, HK.out⟩
        · have HF := Lib.hid (HE.out.trans (runS_step (R := R) (st := st') hne hf1))
          have hKr : ∀ k, K k → k < wr.heap.size := fun k hk => Nat.lt_of_lt_of_le (HPP.out.2 k hk).2 HZ.out
          have hap : ∀ k, k = pb ∨ k = mb → k ≠ ppb ∧ v.ownBlock ≠ some k ∧ ¬ K k := by
            intro k hk
            have hlt : k < w.heap.size := by
              have h1 := HS.out.ltp
              have h2 := HS.out.ltm
              rcases hk with rfl | rfl <;> omega
            refine ⟨?_, fun e => ?_, fun hkk => ?_⟩
            · have := HPP.out.1; omega
            · have := HV.out k e; omega
            · have := (HPP.out.2 k hkk).1; omega
          have HSt := Lib.hid (step_ok hR pr st' wr ⟨H0.out.1, H0.out.2, Nat.le_trans HB0.out.size HPP.out.1⟩ (HB0.out.trans ((HK.out.mono HB0.out.size (M' := fun _ => False) (fun k hk e => by have := H0.out; rcases e with rfl | rfl <;> omega)).below (fun _ _ h => h))) HG.out HI.out HT.out hKr hap)
          have HG2 := Lib.hid (stepF_good (R := R) (st := st') HG.out)
          have HM := Lib.hid (stepF_less (R := R) (st := st') hne)
          have HL := Lib.hid (show pr.left.length = rest.length + 1 by rw [hl]; rfl)
          have HC1 : Hid (∃ a cp, wr.cell? ⟨ppb, 1, none⟩ = some (.slice a pr.left.length cp)) := Lib.hid (by
            obtain ⟨lv2, p2, g1, xs2, g2, _⟩ := HI.out.cells
            obtain ⟨a2, cp2, rfl⟩ := g2.isSlice
            exact ⟨_, _, Lib.cell_of_heap g1.heap 1⟩)
          have hwr : IntKind.i64.wrap (f' - 1) = f' - 1 := by rw [IntKind.wrap_i64]; omega
          generalize stepF R st' pr = q at HF HSt HG2 HM
          clear hl hne hKr hap
          go_wp2_with fail
          go_at_call 15
          refine HD.out.mono ?_
          rintro e w2 ⟨rfl, rfl⟩
          simp only [List.isEmpty_cons]
          go_wp2_with fail
          go_at_call 14
          refine HSt.out.mono ?_
          rintro e w2 ⟨rfl, hs2, ⟨v', hp2, hv'⟩, hk2⟩
          have hm : (match w2.cell? ⟨ppb, 1, none⟩ with | some (.slice _ n _) => n | _ => 0) < (match wr.cell? ⟨ppb, 1, none⟩ with | some (.slice _ n _) => n | _ => 0) := by
            obtain ⟨lv2, p2, g1, xs2, g2, _⟩ := hp2.cells
            obtain ⟨a2, cp2, rfl⟩ := g2.isSlice
            obtain ⟨a3, cp3, h3⟩ := HC1.out
            have : w2.cell? ⟨ppb, 1, none⟩ = some (.slice a2 q.2.left.length cp2) := Lib.cell_of_heap g1.heap 1
            rw [this, h3]
            exact HM.out
          have HMM := Lib.hid hm
          have HP2 := Lib.hid hp2
          have HS2 := Lib.hid hs2
          have HV2 : Hid (∀ k, v'.ownBlock = some k → w.heap.size ≤ k) := Lib.hid (fun k hk => (hv' k hk).elim (HV.out k) (Nat.le_trans HK.out.size))
          have HK2 : Hid (Keeps w.heap.size (fun k => k = pb ∨ k = mb) w w2) := Lib.hid (HK.out.trans (hk2.mono HK.out.size (fun k hk e => by
            rcases e with e | e | e | e
            · exact .inl e
            · exact .inr e
            · have := HPP.out.1; omega
            · have := HV.out k e; omega)))
          have HZ2 := Lib.hid (Nat.le_trans HZ.out hk2.size)
          clear hm hp2 hs2 hv' hk2
          go_wp2
          go_roundw
          case rel => exact ⟨f' - 1, _, _, v', rfl, by omega, HF, HG2, HP2, HS2, HV2, HK2, HZ2⟩
          case measure => exact HMM.out
theorem run_any {R : RunFn} {Ok : List (List UInt8) → Prop} (hR : ∀ W0, RunOK W0 R Ok) (pb mb : Nat) (st : PStore) (s : ByteArray) (hs : s.size ≤ 140737488351232) (hcs : ∀ cs, readS s.data.toList = .ok cs → ∀ c ∈ cs, CmdOK Ok c) (f : Int) (hf : f ≤ 9223372036854775807) (w : World) (hst : IsStore pb mb st w) :
    Calls Tryz.prog 12 #[.string s, .pointer (some ⟨pb, 0, none⟩), .int .i64 f] w fun e w' => e = .returned (.tuple #[.int .i64 (runF R st s.data.toList f).2.1, .string ⟨(runF R st s.data.toList f).2.2.1.toArray⟩, .int .i64 (runF R st s.data.toList f).2.2.2]) ∧
      IsStore pb mb (runF R st s.data.toList f).1 w' ∧ Keeps w.heap.size (fun k => k = pb ∨ k = mb) w w' :=
  run_anyG (hR { w with heap := #[] }) pb mb ⟨Nat.zero_le _, Nat.zero_le _⟩ st s hs hcs f hf w ⟨rfl, rfl, rfl, Nat.zero_le _, fun k hk => by simp at hk⟩ hst
end Go.Proofs.YtmagggflamdahaaGreatDoor

namespace Go.Proofs.YtmagggflamdahaaGreatDoor
open Go.RowKit

theorem join_len (l : List (List UInt8)) (m : Nat) (h : ∀ x ∈ l, x.length ≤ m) : (Lib.join l [32]).length ≤ l.length * (m + 1) := by
  induction l with
  | nil => simp [Lib.join]
  | cons x r ih =>
    have hx := h x List.mem_cons_self
    have ih' := ih (fun y hy => h y (List.mem_cons_of_mem _ hy))
    cases r with
    | nil =>
      have : (Lib.join [x] [32]) = x := by simp [Lib.join, List.intercalate, List.intersperse]
      rw [this]
      simp only [List.length_cons, List.length_nil]
      omega
    | cons y s =>
      have : (Lib.join (x :: y :: s) [32]) = x ++ [32] ++ Lib.join (y :: s) [32] := by simp [Lib.join, List.intercalate, List.intersperse]
      rw [this]
      simp only [List.length_append, List.length_cons, List.length_nil] at ih' ⊢
      rw [Nat.add_mul (s.length + 1) 1 (m + 1)]
      omega

/-- words of an echo, or of a cat -/
structure OkA (words : List (List UInt8)) : Prop where
  len : words.length ≤ 1000
  all : ∀ x ∈ words, x.length ≤ 262144
  name : words.head? = some [101, 99, 104, 111] ∨ words.head? = some [99, 97, 116] ∨ words.head? = some [102, 97, 108, 115, 101]
def runA : RunFn := fun _ st i words => match words with
  | [] => ⟨0, [], st, false⟩
  | nm :: l => if nm == [101, 99, 104, 111] then ⟨0, echoF l, st, false⟩ else if nm == [102, 97, 108, 115, 101] then ⟨1, [], st, false⟩ else ⟨(catF st l i).1, (catF st l i).2, st, false⟩

theorem echoF_len (l : List (List UInt8)) (hl : l.length ≤ 1000) (ha : ∀ x ∈ l, x.length ≤ 262144) : (echoF l).length ≤ 1073741824 ∧ (Lib.join l [32]).length ≤ 1000000000 ∧ (Lib.join (l.drop 1) [32]).length ≤ 1000000000 := by
  have h1 := join_len l 262144 ha
  have h2 := join_len (l.drop 1) 262144 (fun x hx => ha x (List.mem_of_mem_drop hx))
  rw [List.length_drop] at h2
  refine ⟨?_, by omega, by omega⟩
  unfold echoF
  split
  · omega
  · simp only [List.length_append, List.length_cons, List.length_nil]; omega

theorem eachGo_cat (st : PStore) {pb mb : Nat} {w : World} (h : IsStore pb mb st w) : ∀ (l : List (List UInt8)) (acc : List UInt8), (eachGo (catStep st) acc l).1.length ≤ acc.length + l.length * 1048576
  | [], acc => by simp [eachGo]
  | x :: l, acc => by
    have hx := readF_len h x
    unfold eachGo
    split
    · have := eachGo_cat st h l (catStep st acc x).1
      unfold catStep at this ⊢
      simp only [List.length_append, List.length_cons] at this ⊢
      omega
    · unfold catStep
      simp only [List.length_append, List.length_cons]
      omega
theorem catF_len (st : PStore) {pb mb : Nat} {w : World} (h : IsStore pb mb st w) (l : List (List UInt8)) (i : List UInt8) (hl : l.length ≤ 1000) (hi : i.length ≤ 1073741824) : (catF st l i).2.length ≤ 1073741824 := by
  unfold catF
  split
  · exact hi
  · rename_i hne
    unfold eachS
    rw [if_neg hne]
    have := eachGo_cat st h l []
    simp only [List.length_nil] at this
    show (eachGo (catStep st) [] l).1.length ≤ _
    omega

theorem runA_ok (W0 : World) : RunOK W0 runA OkA := by
  intro K ppb pb mb v wv pr st i words w hok hi _ _ hs hp hwv hK hap
  obtain ⟨hlen, hall, hname⟩ := hok
  cases words with
  | nil => rcases hname with h | h | h <;> cases h
  | cons nm l =>
    simp only [List.length_cons] at hlen
    have hl : l.length ≤ 1000 := by omega
    have hal : ∀ x ∈ l, x.length ≤ 262144 := fun x hx => hall x (List.mem_cons_of_mem _ hx)
    have fin : ∀ w', Below w.heap.size w w' → IsStore pb mb st w' ∧ IsProc K ppb v ⟨pr.left, pr.status, pr.said⟩ w' ∧ Keeps w.heap.size (fun k => k = pb ∨ k = mb ∨ k = ppb) w w' := fun w' hb => ⟨hs.below hb, hp.below hb, Keeps.of hb _⟩
    rcases hname with h | h | h
    · obtain rfl : nm = [101, 99, 104, 111] := Option.some.inj h
      obtain ⟨h1, h2, h3⟩ := echoF_len l hl hal
      refine ⟨h1, ?_⟩
      have hE : Calls Tryz.prog 58 #[.pointer (some ⟨ppb, 0, none⟩), wv, .string ⟨i.toArray⟩, .pointer (some ⟨pb, 0, none⟩)] w fun e w' => e = .returned (.tuple #[.int .i64 0, .string ⟨(echoF l).toArray⟩]) ∧ Below w.heap.size w w' := by
        cases l with
        | nil => exact run_echo_none _ _ [] i w hwv rfl rfl rfl rfl rfl (by simp)
        | cons x r =>
          cases hx : (x == [45, 110]) with
          | true =>
            obtain rfl : x = [45, 110] := eq_of_beq hx
            exact run_echo_n _ _ _ i w hwv rfl rfl rfl rfl r rfl (by simp only [List.drop_succ_cons, List.drop_zero] at h3; omega) (by omega)
          | false => exact run_echo_some _ _ _ i w hwv rfl rfl rfl rfl x r rfl hx (by omega) (by omega)
      refine hE.mono ?_
      rintro e w' ⟨rfl, hb⟩
      exact ⟨rfl, fin w' hb⟩
    · obtain rfl : nm = [99, 97, 116] := Option.some.inj h
      have hlc := catF_len st hs l i hl hi
      refine ⟨hlc, ?_⟩
      refine (run_cat _ _ l i w hwv rfl rfl rfl rfl rfl (catF st l i).1 (catF st l i).2 (fun W => Below w.heap.size w W) ?_).mono ?_
      · intro W v' hv' hb
        refine (cat_any pb mb st l i (by omega) hal W hv' (hs.below hb)).mono ?_
        rintro e W' ⟨rfl, hb'⟩
        exact ⟨rfl, hb.trans (hb'.mono hb.size)⟩
      · rintro e w' ⟨rfl, hb⟩
        exact ⟨rfl, fin w' hb⟩
    · obtain rfl : nm = [102, 97, 108, 115, 101] := Option.some.inj h
      refine ⟨by simp [runA], ?_⟩
      refine (run_false _ _ l i w hwv rfl rfl rfl).mono ?_
      rintro e w' ⟨rfl, hb⟩
      exact ⟨rfl, fin w' hb⟩
end Go.Proofs.YtmagggflamdahaaGreatDoor

namespace Go.Proofs.YtmagggflamdahaaGreatDoor
open Go.RowKit

def aliveL : List UInt8 := [101, 99, 104, 111, 32, 97, 32, 98, 32, 62, 32, 102, 32, 38, 38, 32, 99, 97, 116, 32, 102, 32, 124, 124, 32, 102, 97, 108, 115, 101]
theorem read_alive : readS aliveL =
    .ok [⟨[], [[101, 99, 104, 111], [97], [98]], none, some [102], false⟩, ⟨[38, 38], [[99, 97, 116], [102]], none, none, false⟩, ⟨[124, 124], [[102, 97, 108, 115, 101]], none, none, false⟩] := by kernel_rfl
theorem read_bad : readS [97, 32, 38, 38] = .error 3 := by kernel_rfl
/-- the store of a law, of no files -/
def st0 : PStore := (mkdirF (newS 5000) [47, 100]).1
theorem run_alive : (runF runA st0 aliveL 9).2 = (0, [97, 32, 98, 10], 0) := by kernel_rfl
theorem ok_alive : ∀ cs, readS aliveL = .ok cs → ∀ c ∈ cs, CmdOK OkA c := by
  intro cs h c hc
  rw [read_alive] at h
  obtain rfl := Except.ok.inj h.symm
  rcases List.mem_cons.1 hc with rfl | hc
  · exact ⟨⟨by decide, by decide, .inl rfl⟩, fun p hp => (by cases hp), fun p hp => (by cases hp; decide)⟩
  rcases List.mem_cons.1 hc with rfl | hc
  · exact ⟨⟨by decide, by decide, .inr (.inl rfl)⟩, fun p hp => (by cases hp), fun p hp => (by cases hp)⟩
  rcases List.mem_cons.1 hc with rfl | hc
  · exact ⟨⟨by decide, by decide, .inr (.inr rfl)⟩, fun p hp => (by cases hp), fun p hp => (by cases hp)⟩
  · cases hc
end Go.Proofs.YtmagggflamdahaaGreatDoor
