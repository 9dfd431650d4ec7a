/- A map of texts: looked up, put, deleted; its length. Printed by wip/genvarmap.py. vars: ok, isScope, Get. vars: Right, Put. vars.New. -/
import Derived.Test.YtpjmccajkcmmaaaGreatDoorTd
import Derived.Test.YtpjmccajkcmmaaaGreatDoorTa
import Derived.WalkSpells
import Derived.Test.YtpjmccajkcmmaaaGreatDoorShelf2
import Derived.Test.YtpjmccajkcmmaaaGreatDoorTe
namespace Go.Proofs.YtpjmccajkcmmaaaGreatDoor
open Go.RowKit

def noText : List UInt8 := []
def findT (p : List UInt8) : List (List UInt8 × List UInt8) → Option (List UInt8)
  | [] => none
  | (q, f) :: r => if p == q then some f else findT p r
/-- a map of texts lies at block mb -/
def MapVAt (mb : Nat) (fs : List (List UInt8 × List UInt8)) (w : World) : Prop := ∃ es mc, w.heap[mb]? = some (.map es mc) ∧ es.toList.map (fun e => (e.key, e.val)) = fs.map (fun x => (strV x.1, strV x.2)) ∧ Stamps es mc
theorem findNow_vars (p : List UInt8) : ∀ (fs : List (List UInt8 × List UInt8)) (es : List MapEntry) (i : Nat), es.map (fun e => (e.key, e.val)) = fs.map (fun x => (strV x.1, strV x.2)) →
    Instr.findNow .string (strV p) es i = some (match findT p fs with | none => none | some f => some (i + (fs.findIdx (fun x => p == x.1)), strV f))
  | [], [], i, _ => rfl
  | [], e :: es, i, h => by cases h
  | x :: fs, [], i, h => by cases h
  | (q, f) :: fs, e :: es, i, h => by
    simp only [List.map_cons, List.cons.injEq, Prod.mk.injEq] at h
    obtain ⟨⟨hk, hv⟩, hr⟩ := h
    have ih := findNow_vars p fs es (i + 1) hr
    unfold Instr.findNow
    rw [hk]
    have hs : Instr.sameNow .string (strV p) (strV q) = some (p == q) := by
      simp only [Instr.sameNow, strV]
      congr 1
      show (p.toArray == q.toArray) = _
      simp
    rw [hs]
    cases hpq : (p == q) with
    | true =>
      simp only [findT, hpq, if_true, hv, List.findIdx_cons]
      simp
    | false =>
      simp only [findT, hpq]
      rw [ih]
      simp only [List.findIdx_cons, hpq]
      cases findT p fs with
      | none => simp
      | some f' => simp; omega

def putT (p : List UInt8) (f : List UInt8) : List (List UInt8 × List UInt8) → List (List UInt8 × List UInt8)
  | [] => [(p, f)]
  | (q, g) :: r => if p == q then (p, f) :: r else (q, g) :: putT p f r
def delT (p : List UInt8) : List (List UInt8 × List UInt8) → List (List UInt8 × List UInt8)
  | [] => []
  | (q, g) :: r => if p == q then r else (q, g) :: delT p r

theorem lookupV_run (ok : Bool) {mb : Nat} {fs : List (List UInt8 × List UInt8)} {w : World} (h : MapVAt mb fs w) (p : List UInt8) :
    (Instr.lookup 77 (.map (some mb)) (.string ⟨p.toArray⟩) ok).run Tryz.prog w = .ok (if ok then .tuple #[strV ((findT p fs).getD noText), .bool (findT p fs).isSome] else strV ((findT p fs).getD noText)) w := by
  obtain ⟨es, mc, hm, hes, hst⟩ := h
  have hf := findNow_vars p fs es.toList 0 hes
  have hgo := MapKept.run_getObj_map (P := Tryz.prog) hm
  have hfk : (Instr.findKey 9 (.string ⟨p.toArray⟩) es.toList).run Tryz.prog w = _ := MapKept.run_findKey (P := Tryz.prog) (w := w) Tryz.underlying9 hf
  have hck : ∀ e, (Instr.checkKey e 10000 9 (.string ⟨p.toArray⟩)).run Tryz.prog w = .ok () w := fun e => MapKept.run_checkKey (P := Tryz.prog) (w := w) Tryz.underlying9 (k := .string ⟨p.toArray⟩) trivial e 9999
  have hz : (zeroValue 9).run Tryz.prog w = .ok (strV noText) w := Tryz.zeroValue9 w
  unfold Instr.lookup
  simp only [Sem.run_bind, run_underlying Tryz.underlying77, Result.andThen, hgo, Sem.run_pure, hck, hfk]
  cases hg : findT p fs with
  | none =>
    simp only [Result.andThen, Sem.run_bind, hz, Sem.run_pure]
    cases ok <;> simp
  | some f =>
    simp only [Result.andThen, Sem.run_bind, Sem.run_pure]
    cases ok <;> simp

theorem findT_none_put (p : List UInt8) (f : List UInt8) : ∀ fs : List (List UInt8 × List UInt8), findT p fs = none → putT p f fs = fs ++ [(p, f)]
  | [], _ => rfl
  | (q, g) :: r, h => by
    cases hpq : (p == q) with
    | true => simp only [findT, hpq, if_true] at h; cases h
    | false =>
      simp only [findT, hpq] at h
      simp only [putT, hpq, List.cons_append]
      rw [← findT_none_put p f r (by simpa using h)]
      rfl
theorem findT_some_put (p : List UInt8) (f g : List UInt8) : ∀ fs : List (List UInt8 × List UInt8), findT p fs = some g → fs.findIdx (fun x => p == x.1) < fs.length ∧ (fs[fs.findIdx (fun x => p == x.1)]?).map (·.1) = some p ∧ putT p f fs = fs.modify (fs.findIdx (fun x => p == x.1)) (fun _ => (p, f)) ∧ delT p fs = fs.eraseIdx (fs.findIdx (fun x => p == x.1))
  | [], h => by cases h
  | (q, g') :: r, h => by
    cases hpq : (p == q) with
    | true =>
      have hq : p = q := by simpa using hpq
      subst hq
      simp [putT, delT, List.findIdx_cons]
    | false =>
      simp only [findT, hpq] at h
      obtain ⟨h1, h2, h3, h4⟩ := findT_some_put p f g r (by simpa using h)
      have hfi : List.findIdx (fun x : List UInt8 × List UInt8 => p == x.1) ((q, g') :: r) = List.findIdx (fun x : List UInt8 × List UInt8 => p == x.1) r + 1 := by
        rw [List.findIdx_cons]
        simp [hpq]
      rw [hfi]
      refine ⟨by simp only [List.length_cons]; omega, by simpa using h2, ?_, ?_⟩
      · simp only [putT, hpq]
        rw [if_neg (by simp), h3]
        rfl
      · simp only [delT, hpq]
        rw [if_neg (by simp), h4]
        rfl
theorem findT_none_del (p : List UInt8) : ∀ fs : List (List UInt8 × List UInt8), findT p fs = none → delT p fs = fs
  | [], _ => rfl
  | (q, g) :: r, h => by
    cases hpq : (p == q) with
    | true => simp only [findT, hpq, if_true] at h; cases h
    | false =>
      simp only [findT, hpq] at h
      simp only [delT, hpq]
      rw [findT_none_del p r (by simpa using h)]
      rfl
theorem updateV_run {mb : Nat} {fs : List (List UInt8 × List UInt8)} {w : World} (h : MapVAt mb fs w) (p : List UInt8) (f : List UInt8) :
    ∃ o, (Instr.mapUpdate 77 (.map (some mb)) (.string ⟨p.toArray⟩) (strV f)).run Tryz.prog w = .ok () { w with heap := w.heap.setIfInBounds mb o } ∧ MapVAt mb (putT p f fs) { w with heap := w.heap.setIfInBounds mb o } := by
  obtain ⟨es, mc, hm, hes, hst⟩ := h
  have hlt : mb < w.heap.size := (Array.getElem?_eq_some_iff.1 hm).1
  have hf := findNow_vars p fs es.toList 0 hes
  have hgo := MapKept.run_getObj_map (P := Tryz.prog) hm
  have hso := fun o => MapKept.run_setObj_map (P := Tryz.prog) o hm
  have hfk : (Instr.findKey 9 (.string ⟨p.toArray⟩) es.toList).run Tryz.prog w = _ := MapKept.run_findKey (P := Tryz.prog) (w := w) Tryz.underlying9 hf
  have hck : ∀ e, (Instr.checkKey e 10000 9 (.string ⟨p.toArray⟩)).run Tryz.prog w = .ok () w := fun e => MapKept.run_checkKey (P := Tryz.prog) (w := w) Tryz.underlying9 (k := .string ⟨p.toArray⟩) trivial e 9999
  cases hg : findT p fs with
  | none =>
    rw [hg] at hfk
    refine ⟨.map (es.push { key := .string ⟨p.toArray⟩, val := strV f, born := mc }) (mc + 1), ?_, _, _, Array.getElem?_setIfInBounds_self_of_lt hlt, ?_⟩
    · unfold Instr.mapUpdate
      simp only [Sem.run_bind, run_underlying Tryz.underlying77, Result.andThen, hgo, hck, hfk, hso]
    · refine ⟨by rw [findT_none_put p f fs hg]; simp [hes, strV], ?_, ?_⟩
      · intro b hb
        simp only [Array.toList_push, List.map_append, List.map_cons, List.map_nil, List.mem_append, List.mem_singleton] at hb
        rcases hb with hb | hb
        · exact Nat.lt_succ_of_lt (hst.1 b hb)
        · omega
      · simp only [Array.toList_push, List.map_append, List.map_cons, List.map_nil]
        rw [List.nodup_append]
        refine ⟨hst.2, by simp, ?_⟩
        intro a ha b hb
        simp only [List.mem_singleton] at hb
        have := hst.1 a ha
        omega
  | some g =>
    rw [hg] at hfk
    obtain ⟨h1, h2, h3, h4⟩ := findT_some_put p f g fs hg
    have hlen : es.size = fs.length := by have := congrArg List.length hes; simpa using this
    have hkey : (es[fs.findIdx (fun x => p == x.1)]?).map (·.key) = some (.string ⟨p.toArray⟩) := by
      have := congrArg (fun l => (l[fs.findIdx (fun x => p == x.1)]?).map (·.1)) hes
      simp only [List.getElem?_map, Option.map_map] at this
      rw [Array.getElem?_toList] at this
      have e1 : (es[fs.findIdx (fun x => p == x.1)]?).map (·.key) = (fs[fs.findIdx (fun x => p == x.1)]?).map (fun x => strV x.1) := this
      rw [e1]
      cases hh : fs[fs.findIdx (fun x => p == x.1)]? with
      | none => rw [hh] at h2; cases h2
      | some y => rw [hh] at h2; simp at h2; simp [h2, strV]
    refine ⟨.map (es.modify (0 + fs.findIdx (fun x => p == x.1)) (fun e => { e with key := .string ⟨p.toArray⟩, val := strV f })) mc, ?_, _, _, Array.getElem?_setIfInBounds_self_of_lt hlt, ?_⟩
    · have hks : (Instr.keyThatStays (.string ⟨p.toArray⟩) (.string ⟨p.toArray⟩)).run Tryz.prog w = .ok (.string ⟨p.toArray⟩) w := by
        unfold Instr.keyThatStays
        have : Instr.sameBits 10000 (.string ⟨p.toArray⟩) (.string ⟨p.toArray⟩) = true := by
          show (p.toArray == p.toArray) = true
          simp
        rw [if_pos this]
        rfl
      unfold Instr.mapUpdate
      simp only [Sem.run_bind, run_underlying Tryz.underlying77, Result.andThen, hgo, hck, hfk, Nat.zero_add, hkey, Option.getD_some, hks, hso]
    · have hbo : (es.modify (0 + fs.findIdx (fun x => p == x.1)) (fun e => { e with key := .string ⟨p.toArray⟩, val := strV f })).toList.map (·.born) = es.toList.map (·.born) := by
        simp only [Array.toList_modify]
        exact map_modify_same (fun x : MapEntry => x.born) (fun e => { e with key := .string ⟨p.toArray⟩, val := strV f }) (fun _ => rfl) _ _
      refine ⟨?_, by unfold Stamps; rw [hbo]; exact hst⟩
      rw [h3, Nat.zero_add]
      simp only [Array.toList_modify]
      rw [map_modify' (fun e : MapEntry => (e.key, e.val)) _ (fun _ => (strV p, strV f)) es.toList _ (fun _ _ => rfl), hes, map_modify' (fun x : List UInt8 × List UInt8 => (strV x.1, strV x.2)) _ (fun _ => (strV p, strV f)) fs _ (fun _ _ => rfl)]

theorem deleteV_run {mb : Nat} {fs : List (List UInt8 × List UInt8)} {w : World} (h : MapVAt mb fs w) (p : List UInt8) (ty : TypeId) :
    ∃ o, (Builtin.delete_ #[77, 9] ty #[.map (some mb), .string ⟨p.toArray⟩]).run Tryz.prog w = .ok (.tuple #[]) { w with heap := w.heap.setIfInBounds mb o } ∧ MapVAt mb (delT p fs) { w with heap := w.heap.setIfInBounds mb o } := by
  obtain ⟨es, mc, hm, hes, hst⟩ := h
  have hlt : mb < w.heap.size := (Array.getElem?_eq_some_iff.1 hm).1
  have hf := findNow_vars p fs es.toList 0 hes
  have hgo := MapKept.run_getObj_map (P := Tryz.prog) hm
  have hso := fun o => MapKept.run_setObj_map (P := Tryz.prog) o hm
  have hfk : (Instr.findKey 9 (.string ⟨p.toArray⟩) es.toList).run Tryz.prog w = _ := MapKept.run_findKey (P := Tryz.prog) (w := w) Tryz.underlying9 hf
  have hck : ∀ e, (Instr.checkKey e 10000 9 (.string ⟨p.toArray⟩)).run Tryz.prog w = .ok () w := fun e => MapKept.run_checkKey (P := Tryz.prog) (w := w) Tryz.underlying9 (k := .string ⟨p.toArray⟩) trivial e 9999
  cases hg : findT p fs with
  | none =>
    rw [hg] at hfk
    refine ⟨.map es mc, ?_, _, _, Array.getElem?_setIfInBounds_self_of_lt hlt, ?_⟩
    · unfold Builtin.delete_
      simp [Sem.run_bind, run_underlying Tryz.underlying77, Result.andThen, hgo, hck, hfk, hso]
    · rw [findT_none_del p fs hg]
      exact ⟨hes, hst⟩
  | some g =>
    rw [hg] at hfk
    obtain ⟨h1, h2, h3, h4⟩ := findT_some_put p noText g fs hg
    refine ⟨.map (es.eraseIdxIfInBounds (0 + fs.findIdx (fun x => p == x.1))) mc, ?_, _, _, Array.getElem?_setIfInBounds_self_of_lt hlt, ?_⟩
    · unfold Builtin.delete_
      simp [Sem.run_bind, run_underlying Tryz.underlying77, Result.andThen, hgo, hck, hfk, hso]
    · have hbo : (es.eraseIdxIfInBounds (0 + fs.findIdx (fun x => p == x.1))).toList.map (·.born) = (es.toList.map (·.born)).eraseIdx (fs.findIdx (fun x => p == x.1)) := by
        simp [map_eraseIdx']
      refine ⟨?_, ?_⟩
      · rw [h4, Nat.zero_add, map_eraseIdx', ← hes]
        simp [map_eraseIdx']
      · unfold Stamps
        rw [hbo]
        exact ⟨fun b hb => hst.1 b ((List.eraseIdx_sublist _ _).subset hb), hst.2.sublist (List.eraseIdx_sublist _ _)⟩
theorem lenV_run {mb : Nat} {fs : List (List UInt8 × List UInt8)} {w : World} (h : MapVAt mb fs w) (ty : TypeId) :
    (Builtin.len_ #[77] ty #[.map (some mb)]).run Tryz.prog w = .ok (.int .i64 fs.length) w := by
  obtain ⟨es, mc, hm, hes, hst⟩ := h
  have hgo := MapKept.run_getObj_map (P := Tryz.prog) hm
  have hlen : es.size = fs.length := by have := congrArg List.length hes; simpa using this
  unfold Builtin.len_
  simp [Sem.run_bind, run_underlying Tryz.underlying77, Result.andThen, hgo, hlen, goInt]
end Go.Proofs.YtpjmccajkcmmaaaGreatDoor

namespace Go.Proofs.YtpjmccajkcmmaaaGreatDoor
open Go.RowKit

abbrev TMap := List (List UInt8 × List UInt8)
/-- a set of variables lies at block vb, its maps at the blocks mb 0 .. mb 4 -/
structure IsVars (vb : Nat) (mb : Nat → Nat) (vs : Nat → TMap) (w : World) : Prop where
  cells : w.heap[vb]? = some (.cells #[.map (some (mb 0)), .map (some (mb 1)), .map (some (mb 2)), .map (some (mb 3)), .map (some (mb 4))] 80 (0, 0))
  maps : ∀ i, i < 5 → MapVAt (mb i) (vs i) w
  inj : ∀ i j, i < 5 → j < 5 → mb i = mb j → i = j
  ne : ∀ i, i < 5 → mb i ≠ vb
theorem MapVAt.keep {mb : Nat} {fs : TMap} {w w' : World} (h : MapVAt mb fs w) (hk : w'.heap[mb]? = w.heap[mb]?) : MapVAt mb fs w' := by
  obtain ⟨es, mc, h1, h2⟩ := h
  exact ⟨es, mc, hk.trans h1, h2⟩
theorem MapVAt.lt {mb : Nat} {fs : TMap} {w : World} (h : MapVAt mb fs w) : mb < w.heap.size := by
  obtain ⟨es, mc, h1, h2⟩ := h
  exact (Array.getElem?_eq_some_iff.1 h1).1
theorem IsVars.keep {vb : Nat} {mb : Nat → Nat} {vs : Nat → TMap} {w w' : World} (h : IsVars vb mb vs w) (hv : w'.heap[vb]? = w.heap[vb]?) (hm : ∀ i, i < 5 → w'.heap[mb i]? = w.heap[mb i]?) : IsVars vb mb vs w' :=
  ⟨hv.trans h.cells, fun i hi => (h.maps i hi).keep (hm i hi), h.inj, h.ne⟩
theorem IsVars.below {vb : Nat} {mb : Nat → Nat} {vs : Nat → TMap} {w w' : World} (h : IsVars vb mb vs w) (hb : Below w.heap.size w w') : IsVars vb mb vs w' :=
  h.keep (hb.block vb (Array.getElem?_eq_some_iff.1 h.cells).1) (fun i hi => hb.block _ (h.maps i hi).lt)
theorem IsVars.cell {vb : Nat} {mb : Nat → Nat} {vs : Nat → TMap} {w : World} (h : IsVars vb mb vs w) (i : Nat) (hi : i < 5) : w.cell? ⟨vb, i, none⟩ = some (.map (some (mb i))) := by
  match i, hi with
  | 0, _ => exact Lib.cell_of_heap h.cells 0
  | 1, _ => exact Lib.cell_of_heap h.cells 1
  | 2, _ => exact Lib.cell_of_heap h.cells 2
  | 3, _ => exact Lib.cell_of_heap h.cells 3
  | 4, _ => exact Lib.cell_of_heap h.cells 4
/-- what a name stands for, from scope i on -/
def getFrom (vs : Nat → TMap) (p : List UInt8) (i : Nat) : Nat → Option (List UInt8)
  | 0 => none
  | n + 1 => match findT p (vs i) with
    | some v => some v
    | none => getFrom vs p (i + 1) n
def getS (vs : Nat → TMap) (p : List UInt8) : Option (List UInt8) := getFrom vs p 0 5

set_option maxHeartbeats 1000000 in
set_option maxRecDepth 100000 in
theorem varsOk_any {vb : Nat} {mb : Nat → Nat} {vs : Nat → TMap} (w : World) (h : IsVars vb mb vs w) :
    Calls Tryz.prog 21 #[.pointer (some ⟨vb, 0, none⟩)] w fun e w' => e = .returned (.bool true) ∧ w = w' := by
  have c0 := h.cell 0 (by omega)
  have qT : ∀ (w : World) (r : Option Nat), (binOp .neq 77 (.map r) (.map none)).run Tryz.prog w = .ok (.bool (!r.isNone)) w := fun w r => run_neq_map_nil w _ _ _ r Tryz.underlying77
  clear h
  go_enter Tryz.func21, Tryz.ntmps21
  go_wp2
  go_ret
  exact ⟨rfl, rfl⟩
set_option maxHeartbeats 1000000 in
set_option maxRecDepth 100000 in
theorem scope_any (n : Nat) (h1 : 1 ≤ n) (h4 : n ≤ 4) (w : World) :
    Calls Tryz.prog 22 #[.int .i64 n] w fun e w' => e = .returned (.bool true) ∧ w = w' := by
  have q1 : decide ((1 : Int) ≤ (n : Int)) = true := by simp; omega
  have q4 : decide ((n : Int) ≤ 4) = true := by simp; omega
  have q1' : (1 : Int) ≤ (n : Int) := by omega
  have q4' : (n : Int) ≤ 4 := by omega
  clear h1 h4
  go_enter Tryz.func22, Tryz.ntmps22
  go_wp2
  go_ret
  exact ⟨rfl, rfl⟩

def getV (q : Option (List UInt8)) : Value := match q with | some v => .tuple #[.string ⟨v.toArray⟩, .bool true] | none => .tuple #[.string ⟨#[]⟩, .bool false]
def GetQ (vs : Nat → TMap) (p : List UInt8) (w : World) (e : Ending) (w' : World) : Prop := e = .returned (getV (getS vs p)) ∧ w = w'

set_option maxHeartbeats 2000000 in
set_option maxRecDepth 100000 in
theorem get_any {vb : Nat} {mb : Nat → Nat} {vs : Nat → TMap} (p : List UInt8) (w : World) (h : IsVars vb mb vs w) :
    Calls Tryz.prog 56 #[.pointer (some ⟨vb, 0, none⟩), .string ⟨p.toArray⟩] w (GetQ vs p w) := by
  have HO := Lib.hid (varsOk_any w h)
  have HX := Lib.hid (show getS vs p = getFrom vs p 0 5 from rfl)
  have HU : Hid (∀ w, GetQ vs p w = fun e w' => e = .returned (getV (getS vs p)) ∧ w = w') := Lib.hid (fun w => rfl)
  generalize getS vs p = q at HX HU
  rw [HU.out]
  have HV := Lib.hid (fun v (h : q = v) => congrArg getV h)
  generalize getV q = rv at HV ⊢
  have c0 := h.cell 0 (by omega)
  have c1 := h.cell 1 (by omega)
  have c2 := h.cell 2 (by omega)
  have c3 := h.cell 3 (by omega)
  have c4 := h.cell 4 (by omega)
  have HL : Hid (∀ i, i < 5 → (Instr.lookup 77 (.map (some (mb i))) (.string ⟨p.toArray⟩) true).run Tryz.prog w = .ok (.tuple #[strV ((findT p (vs i)).getD noText), .bool (findT p (vs i)).isSome]) w) := Lib.hid (fun i hi => lookupV_run true (h.maps i hi) p)
  have i0 : ∀ W : World, (Instr.index 78 (.agg #[.map (some (mb 0)), .map (some (mb 1)), .map (some (mb 2)), .map (some (mb 3)), .map (some (mb 4))]) (.int .i64 0)).run Tryz.prog W = .ok (.map (some (mb 0))) W := fun _ => by kernel_rfl
  have i1 : ∀ W : World, (Instr.index 78 (.agg #[.map (some (mb 0)), .map (some (mb 1)), .map (some (mb 2)), .map (some (mb 3)), .map (some (mb 4))]) (.int .i64 1)).run Tryz.prog W = .ok (.map (some (mb 1))) W := fun _ => by kernel_rfl
  have i2 : ∀ W : World, (Instr.index 78 (.agg #[.map (some (mb 0)), .map (some (mb 1)), .map (some (mb 2)), .map (some (mb 3)), .map (some (mb 4))]) (.int .i64 2)).run Tryz.prog W = .ok (.map (some (mb 2))) W := fun _ => by kernel_rfl
  have i3 : ∀ W : World, (Instr.index 78 (.agg #[.map (some (mb 0)), .map (some (mb 1)), .map (some (mb 2)), .map (some (mb 3)), .map (some (mb 4))]) (.int .i64 3)).run Tryz.prog W = .ok (.map (some (mb 3))) W := fun _ => by kernel_rfl
  have i4 : ∀ W : World, (Instr.index 78 (.agg #[.map (some (mb 0)), .map (some (mb 1)), .map (some (mb 2)), .map (some (mb 3)), .map (some (mb 4))]) (.int .i64 4)).run Tryz.prog W = .ok (.map (some (mb 4))) W := fun _ => by kernel_rfl
  have HI := Lib.hid (And.intro i0 (And.intro i1 (And.intro i2 (And.intro i3 i4))))
  clear i0 i1 i2 i3 i4
  clear h HU
  go_enter Tryz.func56, Tryz.ntmps56
  go_wp2_with fail
  go_at_call 21
  refine HO.out.mono ?_
  rintro e w1 ⟨rfl, rfl⟩
  go_wp2
  go_loopw [16] (fun v16 wr => ∃ i : Nat, v16 = .int .i64 i ∧ i ≤ 5 ∧ Hid (q = getFrom vs p i (5 - i)) ∧ wr = w) (fun v16 _ => 6 - (intOf v16).toNat)
  case atStart => exact ⟨0, rfl, by omega, HX, rfl⟩
  case round =>
    obtain ⟨i, rfl, hi, HF, rfl⟩ := hrel
    by_cases hlt : i < 5
    · have hl := HL.out i hlt
      have hg : getFrom vs p i (5 - i) = match findT p (vs i) with | some v => some v | none => getFrom vs p (i + 1) (5 - (i + 1)) := by
        rw [show 5 - i = (5 - (i + 1)) + 1 by omega]
        rfl
      have hix : ∀ W : World, (Instr.index 78 (.agg #[.map (some (mb 0)), .map (some (mb 1)), .map (some (mb 2)), .map (some (mb 3)), .map (some (mb 4))]) (.int .i64 i)).run Tryz.prog W = .ok (.map (some (mb i))) W := fun W => by
        match i, hlt with
        | 0, _ => exact HI.out.1 W
        | 1, _ => exact HI.out.2.1 W
        | 2, _ => exact HI.out.2.2.1 W
        | 3, _ => exact HI.out.2.2.2.1 W
        | 4, _ => exact HI.out.2.2.2.2 W
      cases hf : findT p (vs i) with
      | some v =>
        rw [hf] at hl hg
        have HF2 : Hid (q = some v) := Lib.hid (HF.out.trans hg)
        replace hl : (Instr.lookup 77 (.map (some (mb i))) (.string ⟨p.toArray⟩) true).run Tryz.prog wr = .ok (.tuple #[.string ⟨v.toArray⟩, .bool true]) wr := hl
        clear hg hf
        go_wp2
        go_ret2
        exact ⟨by rw [HV.out _ HF2.out]; rfl, rfl⟩
      | none =>
        rw [hf] at hl hg
        have HF2 : Hid (q = getFrom vs p (i + 1) (5 - (i + 1))) := Lib.hid (HF.out.trans hg)
        replace hl : (Instr.lookup 77 (.map (some (mb i))) (.string ⟨p.toArray⟩) true).run Tryz.prog wr = .ok (.tuple #[.string ⟨#[]⟩, .bool false]) wr := hl
        clear hg hf
        go_wp2
        go_roundw
        case rel => exact ⟨i + 1, by go_num, by omega, HF2, trivial⟩
        case measure => simp [intOf]; omega
    · have HF2 : Hid (q = none) := Lib.hid (by
        rw [HF.out, show 5 - i = 0 by omega]
        rfl)
      go_wp2
      go_ret2
      exact ⟨by rw [HV.out _ HF2.out]; rfl, rfl⟩
end Go.Proofs.YtpjmccajkcmmaaaGreatDoor

namespace Go.Proofs.YtpjmccajkcmmaaaGreatDoor
open Go.RowKit

def badName : List UInt8 := [32, 9, 10, 36, 58, 61, 123, 125, 40, 41, 35]
def rightS (p : List UInt8) : Bool := !p.isEmpty && decide (p.length ≤ 64) && !(Lib.containsAny p badName)
def Ascii (p : List UInt8) : Prop := ∀ (j : Nat) b, p[j]? = some b → b.toNat < 128

set_option maxHeartbeats 1000000 in
set_option maxRecDepth 100000 in
theorem right_any (p : List UInt8) (ha : Ascii p) (w : World) :
    Calls Tryz.prog 23 #[.string ⟨p.toArray⟩] w fun e w' => e = .returned (.bool (rightS p)) ∧ Below w.heap.size w w' := by
  have hs : (⟨p.toArray⟩ : ByteArray).size = p.length := by show p.toArray.size = _; simp
  by_cases h0 : p.isEmpty = true
  · have hr : rightS p = false := by unfold rightS; rw [h0]; rfl
    rw [hr]
    clear hr
    go_enter Tryz.func23, Tryz.ntmps23
    go_wp2
    go_ret
    exact ⟨rfl, Below.refl _ _⟩
  · have h0' : p.isEmpty = false := by simpa using h0
    by_cases h1 : p.length ≤ 64
    · have HC : Hid (∀ W, Calls Tryz.prog 44 #[.string ⟨p.toArray⟩, .string ⟨#[32, 9, 10, 36, 58, 61, 123, 125, 40, 41, 35]⟩] W fun e w' => e = .returned (.bool (Lib.containsAny p badName)) ∧ Below W.heap.size W w') := Lib.hid (fun W => by
        refine (Tryz.strings_ContainsAny_laid ⟨p.toArray⟩ ⟨#[32, 9, 10, 36, 58, 61, 123, 125, 40, 41, 35]⟩ W (by rw [hs]; omega) (by decide) (fun j b hj => ha j b (by simpa using hj)) ?_).mono ?_
        · intro j b hj
          have hm : b ∈ badName := List.mem_of_getElem? hj
          revert b
          intro b hj hm
          simp only [badName, List.mem_cons, List.not_mem_nil, or_false] at hm
          rcases hm with h | h | h | h | h | h | h | h | h | h | h <;> subst h <;> decide
        · rintro e w' ⟨rfl, hb⟩
          exact ⟨rfl, hb⟩)
      have hr : rightS p = !(Lib.containsAny p badName) := by unfold rightS; rw [h0', decide_eq_true h1]; rfl
      rw [hr]
      generalize Lib.containsAny p badName = b at HC ⊢
      have hle : (p.length : Int) ≤ 64 := by omega
      clear hr h0 h1
      go_enter Tryz.func23, Tryz.ntmps23
      go_wp2_with fail
      go_at_call 44
      refine (HC.out _).mono ?_
      rintro e w1 ⟨rfl, hb1⟩
      have HB1 := Lib.hid hb1
      clear hb1
      cases b <;>
      · go_wp2
        go_ret
        exact ⟨rfl, HB1.out⟩
    · have hr : rightS p = false := by unfold rightS; rw [h0', decide_eq_false h1]; rfl
      rw [hr]
      have hle : decide ((p.length : Int) ≤ 64) = false := decide_eq_false (by omega)
      clear hr h0 h1
      go_enter Tryz.func23, Tryz.ntmps23
      go_wp2
      go_ret
      exact ⟨rfl, Below.refl _ _⟩

/-- a variable is put -/
def putVs (vs : Nat → TMap) (n : Nat) (p v : List UInt8) : Nat → TMap := fun i => if i = n then putT p v (vs i) else vs i
set_option maxHeartbeats 2000000 in
set_option maxRecDepth 100000 in
/-- Put, where it may -/
theorem put_var {vb : Nat} {mb : Nat → Nat} {vs : Nat → TMap} (n : Nat) (h1 : 1 ≤ n) (h4 : n ≤ 4) (p v : List UInt8) (ha : Ascii p) (hr : rightS p = true) (hv : v.length ≤ 65536) (hm : (vs n).length < 1024) (w : World) (h : IsVars vb mb vs w) :
    Calls Tryz.prog 15 #[.pointer (some ⟨vb, 0, none⟩), .int .i64 n, .string ⟨p.toArray⟩, .string ⟨v.toArray⟩] w fun e w' => e = .returned (.int .i64 0) ∧ IsVars vb mb (putVs vs n p v) w' ∧ Keeps w.heap.size (fun k => k = mb n) w w' := by
  have hvs : (⟨v.toArray⟩ : ByteArray).size = v.length := by show v.toArray.size = _; simp
  have HO := Lib.hid (varsOk_any w h)
  have HS := Lib.hid (fun W => scope_any n h1 h4 W)
  have HR := Lib.hid (fun W => right_any p ha W)
  rw [hr] at HR
  have H := Lib.hid h
  have hlen : ∀ W ty, IsVars vb mb vs W → (Builtin.len_ #[77] ty #[.map (some (mb n))]).run Tryz.prog W = .ok (.int .i64 (vs n).length) W := fun W ty h => lenV_run (h.maps n (by omega)) ty
  have HL := Lib.hid hlen
  have hl1 : ¬ (65536 : Int) < (v.length : Int) := by omega
  have hl2 : ¬ (1024 : Int) ≤ ((vs n).length : Int) := by omega
  have hlk : ∀ W, IsVars vb mb vs W → (Instr.lookup 77 (.map (some (mb n))) (.string ⟨p.toArray⟩) true).run Tryz.prog W = .ok (.tuple #[strV ((findT p (vs n)).getD noText), .bool (findT p (vs n)).isSome]) W := fun W h => lookupV_run true (h.maps n (by omega)) p
  generalize (findT p (vs n)).isSome = b at hlk
  generalize hqv : ((findT p (vs n)).getD noText) = qv at hlk
  have HK := Lib.hid hlk
  have H14 := Lib.hid (And.intro h1 h4)
  clear hqv hlk hlen h hm hv h1 h4 hr ha
  go_enter Tryz.func15, Tryz.ntmps15
  go_wp2_with fail
  go_at_call 21
  refine HO.out.mono ?_
  rintro e w1 ⟨rfl, rfl⟩
  go_wp2_with fail
  go_at_call 22
  refine (HS.out _).mono ?_
  rintro e w1 ⟨rfl, rfl⟩
  go_wp2_with fail
  go_at_call 23
  refine (HR.out _).mono ?_
  rintro e w2 ⟨rfl, hb2⟩
  have hI2 := H.out.below hb2
  have HB2 := Lib.hid hb2
  have c2 := hI2.cell n (by have := H14.out.2; omega)
  have k2 := HK.out w2 hI2
  have l2 := fun ty => HL.out w2 ty hI2
  replace k2 : (Instr.lookup 77 (.map (some (mb n))) (.string ⟨p.toArray⟩) true).run Tryz.prog w2 = .ok (.tuple #[.string ⟨qv.toArray⟩, .bool b]) w2 := k2
  obtain ⟨o, hup, hma⟩ := updateV_run (hI2.maps n (by have := H14.out.2; omega)) p v
  replace hup : (Instr.mapUpdate 77 (.map (some (mb n))) (.string ⟨p.toArray⟩) (.string ⟨v.toArray⟩)).run Tryz.prog w2 = .ok () { w2 with heap := w2.heap.setIfInBounds (mb n) o } := hup
  obtain ⟨w3, hw3⟩ : ∃ w3, w3 = { w2 with heap := w2.heap.setIfInBounds (mb n) o } := ⟨_, rfl⟩
  rw [← hw3] at hup hma
  have HF : Hid (IsVars vb mb (putVs vs n p v) w3 ∧ Keeps w.heap.size (fun k => k = mb n) w w3) := Lib.hid (by
    have hother : ∀ k, k ≠ mb n → w3.heap[k]? = w2.heap[k]? := fun k hk => by
      rw [hw3]
      exact Array.getElem?_setIfInBounds_ne (Ne.symm hk)
    have hn : n < 5 := by have := H14.out.2; omega
    refine ⟨⟨(hother vb (Ne.symm (hI2.ne n hn))).trans hI2.cells, fun i hi => ?_, hI2.inj, hI2.ne⟩, ?_⟩
    · unfold putVs
      by_cases hin : i = n
      · subst hin
        rw [if_pos rfl]
        exact hma
      · rw [if_neg hin]
        exact (hI2.maps i hi).keep (hother _ (fun h => hin (hI2.inj i n hi hn h)))
    · refine (Keeps.of HB2.out _).trans ⟨by rw [hw3], by rw [hw3], by rw [hw3], by rw [hw3]; simp, fun k hk hne => hother k hne⟩)
  have hix : (0 : Int) ≤ (n : Int) ∧ (n : Int) < 5 := ⟨by omega, by have := H14.out.2; omega⟩
  clear hI2 hb2 hma hw3
  cases b with
  | true =>
    go_wp2
    go_ret
    exact ⟨rfl, HF.out⟩
  | false =>
    go_wp2
    go_ret
    exact ⟨rfl, HF.out⟩
end Go.Proofs.YtpjmccajkcmmaaaGreatDoor

namespace Go.Proofs.YtpjmccajkcmmaaaGreatDoor
open Go.RowKit

def newVs : Nat → TMap := fun _ => []
def newCells (B i : Nat) : Array Value := ((List.range 5).map fun j => if j < i then Value.map (some (B + 1 + j)) else Value.map none).toArray
structure NewJ (w : World) (i : Nat) (W : World) : Prop where
  cells : W.heap[w.heap.size]? = some (.cells (newCells w.heap.size i) 80 (0, 0))
  maps : ∀ j, j < i → W.heap[w.heap.size + 1 + j]? = some (.map #[] 0)
  size : W.heap.size = w.heap.size + 1 + i
  below : Below w.heap.size w W
theorem newCells_at (B i : Nat) (h : i < 5) : (newCells B i)[i]? = some (.map none) := by
  match i, h with
  | 0, _ => rfl
  | 1, _ => rfl
  | 2, _ => rfl
  | 3, _ => rfl
  | 4, _ => rfl
theorem newCells_set (B i : Nat) (h : i < 5) : (newCells B i).setIfInBounds i (.map (some (B + 1 + i))) = newCells B (i + 1) := by
  match i, h with
  | 0, _ => rfl
  | 1, _ => rfl
  | 2, _ => rfl
  | 3, _ => rfl
  | 4, _ => rfl
theorem NewJ.step {w W : World} {i : Nat} (h : NewJ w i W) (hi : i < 5) : NewJ w (i + 1) ((W.alloc (.map #[] 0)).setCell ⟨w.heap.size, i, none⟩ (.map (some W.heap.size))) := by
  have hc : (W.alloc (.map #[] 0)).heap[w.heap.size]? = some (.cells (newCells w.heap.size i) 80 (0, 0)) := (heap_alloc_old W _ _ (by rw [h.size]; omega)).trans h.cells
  refine ⟨?_, ?_, ?_, ?_⟩
  · rw [heap_set hc i, h.size, newCells_set _ _ hi]
  · intro j hj
    rw [Below.heap_setCell _ ⟨w.heap.size, i, none⟩ _ _ (by show w.heap.size + 1 + j ≠ w.heap.size; omega)]
    by_cases hji : j = i
    · subst hji
      rw [← h.size]
      exact heap_alloc_new W _
    · rw [heap_alloc_old W _ _ (by rw [h.size]; omega)]
      exact h.maps j (by omega)
  · simp [h.size]; omega
  · exact (h.below.alloc h.below.size _).setCell (p := ⟨w.heap.size, i, none⟩) (Nat.le_refl _) _

set_option maxHeartbeats 2000000 in
set_option maxRecDepth 100000 in
theorem newVars_any (w : World) :
    Calls Tryz.prog 12 #[] w fun e w' => e = .returned (.pointer (some ⟨w.heap.size, 0, none⟩)) ∧ IsVars w.heap.size (fun i => w.heap.size + 1 + i) newVs w' ∧ Below w.heap.size w w' := by
  have hmm := @run_makeMap Tryz.prog
  have HJ0 : Hid (NewJ w 0 (w.alloc (.cells #[.map none, .map none, .map none, .map none, .map none] 80))) := Lib.hid ⟨heap_alloc_new w _, fun j hj => absurd hj (by omega), by simp, (Below.refl _ _).alloc (Nat.le_refl _) _⟩
  go_enter Tryz.func12, Tryz.ntmps12
  go_wp2
  go_loopw [5] (fun v5 wr => ∃ i : Nat, v5 = .int .i64 i ∧ i ≤ 5 ∧ Hid (NewJ w i wr)) (fun v5 _ => 6 - (intOf v5).toNat)
  case atStart => exact ⟨0, rfl, by omega, HJ0⟩
  case round =>
    obtain ⟨i, rfl, hi, HJ⟩ := hrel
    by_cases hlt : i < 5
    · have HJ2 := Lib.hid (HJ.out.step hlt)
      have hc : (wr.alloc (.map #[] 0)).heap[w.heap.size]? = some (.cells (newCells w.heap.size i) 80 (0, 0)) := (heap_alloc_old wr _ _ (by rw [HJ.out.size]; omega)).trans HJ.out.cells
      have c0 : (wr.alloc (.map #[] 0)).cell? ⟨w.heap.size, i, none⟩ = some (.map none) := by rw [cell_of_row _ _ _ _ _ _ hc]; exact newCells_at _ _ hlt
      have f0 : (wr.alloc (.map #[] 0)).frozen? ⟨w.heap.size, i, none⟩ = false := Lib.frozen_of_heap hc i
      have hix : (0 : Int) ≤ (i : Int) ∧ (i : Int) < 5 := ⟨by omega, by omega⟩
      clear hc
      go_wp2
      go_roundw
      case rel => exact ⟨i + 1, by go_num, by omega, HJ2⟩
      case measure => simp [intOf]; omega
    · obtain rfl : i = 5 := by omega
      have HF : Hid (IsVars w.heap.size (fun i => w.heap.size + 1 + i) newVs wr) := Lib.hid ⟨HJ.out.cells, fun i hi => ⟨#[], 0, HJ.out.maps i hi, rfl, by simp [Stamps]⟩, fun i j _ _ h => by omega, fun i _ => by omega⟩
      go_wp2
      go_ret
      exact ⟨rfl, HF.out, HJ.out.below⟩
end Go.Proofs.YtpjmccajkcmmaaaGreatDoor
