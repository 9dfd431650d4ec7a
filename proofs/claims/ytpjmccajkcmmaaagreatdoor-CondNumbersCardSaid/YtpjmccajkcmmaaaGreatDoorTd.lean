/- vfs.Store as a plain datum; ok, where. A store's map: looked up, put, deleted; its length. vfs.Store: find, home, note, put, Read, Stat. (*atomic.Int64).Add, Load. vfs.Store: note, home, put. -/
import Derived.Test.YtpjmccajkcmmaaaGreatDoorTc
import Derived.MapKept
import Derived.BigRegion
import Derived.Deep.RegionHeld3
import Derived.Deep.CutBlock
namespace Go.Proofs.YtpjmccajkcmmaaaGreatDoor
open Go.RowKit

/-- a file, or a directory -/
structure PFile where
  text : List UInt8
  time : Int
  dir : Bool
/-- a store: its room, its clock, its files by their paths -/
structure PStore where
  room : Nat
  clock : Int
  files : List (List UInt8 × PFile)
def PStore.used (st : PStore) : Nat := (st.files.map (fun x => x.2.text.length)).sum
def fileV (f : PFile) : Value := .agg #[strV f.text, .int .i64 f.time, .bool f.dir]
def findF (p : List UInt8) : List (List UInt8 × PFile) → Option PFile
  | [] => none
  | (q, f) :: r => if p == q then some f else findF p r
def PStore.get (st : PStore) (p : List UInt8) : Option PFile := findF p st.files

structure WfS (st : PStore) : Prop where
  room : st.room ≤ 1048576
  used : st.used ≤ st.room
  clock : IntKind.i64.wrap st.clock = st.clock
  times : ∀ x ∈ st.files, IntKind.i64.wrap x.2.time = x.2.time
  cnt : st.files.length ≤ 512
  keys : ∀ x ∈ st.files, x.1.length ≤ 4194304

/-- the entries' stamps: each another one, and older than the clock -/
def Stamps (es : Array MapEntry) (mc : Nat) : Prop := (∀ b ∈ es.toList.map (·.born), b < mc) ∧ (es.toList.map (·.born)).Nodup
/-- a map of files lies at block mb -/
def MapAt (mb : Nat) (fs : List (List UInt8 × PFile)) (w : World) : Prop := ∃ es mc, w.heap[mb]? = some (.map es mc) ∧ es.toList.map (fun e => (e.key, e.val)) = fs.map (fun x => (strV x.1, fileV x.2)) ∧ Stamps es mc
/-- the store lies at block pb, its map at block mb; nothing is noted -/
structure IsStore (pb mb : Nat) (st : PStore) (w : World) : Prop where
  wf : WfS st
  cells : w.heap[pb]? = some (.cells #[.int .i64 st.room, .int .i64 st.used, .int .i64 st.clock, .map (some mb), .bool false, .slice none 0 0] 90 (0, 0))
  map : MapAt mb st.files w
theorem IsStore.keep {pb mb : Nat} {st : PStore} {w w' : World} (h : IsStore pb mb st w) (hk : ∀ k, k = pb ∨ k = mb → w'.heap[k]? = w.heap[k]?) : IsStore pb mb st w' := by
  obtain ⟨es, mc, h1, h2⟩ := h.map
  exact ⟨h.wf, (hk _ (.inl rfl)).trans h.cells, es, mc, (hk _ (.inr rfl)).trans h1, h2⟩
theorem IsStore.ltp {pb mb : Nat} {st : PStore} {w : World} (h : IsStore pb mb st w) : pb < w.heap.size := (Array.getElem?_eq_some_iff.1 h.cells).1
theorem IsStore.ltm {pb mb : Nat} {st : PStore} {w : World} (h : IsStore pb mb st w) : mb < w.heap.size := by
  obtain ⟨es, mc, h1, h2⟩ := h.map
  exact (Array.getElem?_eq_some_iff.1 h1).1
theorem IsStore.below {pb mb : Nat} {st : PStore} {w w' : World} (h : IsStore pb mb st w) (hb : Below w.heap.size w w') : IsStore pb mb st w' :=
  h.keep (fun k hk => hb.block k (by rcases hk with rfl | rfl; exact h.ltp; exact h.ltm))

/-- where a path lies; none: it may not be -/
def whereS (p : List UInt8) : Option (List UInt8) :=
  if (partsS (cleanS (47 :: p))).all (fun x => decide (x.length ≤ 255)) then some (cleanS (47 :: p)) else none
def whereV (p : List UInt8) : Value := match whereS p with
  | none => .tuple #[.string ⟨#[]⟩, .int .i64 1]
  | some q => .tuple #[.string ⟨q.toArray⟩, .int .i64 0]

set_option maxHeartbeats 1000000 in
set_option maxRecDepth 100000 in
theorem ok_any (pb mb : Nat) (st : PStore) (w : World) (h : IsStore pb mb st w) :
    Calls Tryz.prog 62 #[.pointer (some ⟨pb, 0, none⟩)] w fun e w' => e = .returned (.bool true) ∧ w = w' := by
  have c3 : w.cell? ⟨pb, 3, none⟩ = some (.map (some mb)) := Lib.cell_of_heap h.cells 3
  clear h
  have hne : ∀ W, (binOp .neq 83 (.map (some mb)) (.map none)).run Tryz.prog W = .ok (.bool true) W := fun W => by kernel_rfl
  go_enter Tryz.func62, Tryz.ntmps62
  go_wp2
  go_ret
  exact ⟨rfl, rfl⟩

set_option maxHeartbeats 2000000 in
set_option maxRecDepth 100000 in
theorem where_any (pb mb : Nat) (st : PStore) (s : ByteArray) (hs : s.size ≤ 262144) (w : World) (h : IsStore pb mb st w) :
    Calls Tryz.prog 45 #[.pointer (some ⟨pb, 0, none⟩), .string s] w fun e w' => e = .returned (whereV s.data.toList) ∧ Below w.heap.size w w' := by
  have HO := Lib.hid (ok_any pb mb st w h)
  obtain ⟨p1, hp1⟩ : ∃ p1 : ByteArray, p1 = ⟨#[47]⟩ ++ s := ⟨_, rfl⟩
  have hp1l : p1.data.toList = 47 :: s.data.toList := by rw [hp1]; simp
  have hp1s : p1.size = s.size + 1 := by
    have := congrArg List.length hp1l
    simp at this
    omega
  have HC := Lib.hid (fun w => clean_any p1 (by omega) w)
  have hcl := cleanS_len p1.data.toList
  rw [hp1l] at HC hcl
  have hcat : Hid ((⟨#[47]⟩ : ByteArray) ++ s = p1) := Lib.hid hp1.symm
  have hV : Hid (whereV s.data.toList = match (if (partsS (cleanS (47 :: s.data.toList))).all (fun x => decide (x.length ≤ 255)) then some (cleanS (47 :: s.data.toList)) else none) with | none => .tuple #[.string ⟨#[]⟩, .int .i64 1] | some q => .tuple #[.string ⟨q.toArray⟩, .int .i64 0]) := Lib.hid rfl
  have hsl : s.data.toList.length = s.size := by simp
  generalize cleanS (47 :: s.data.toList) = q at HC hV hcl
  have hqs : (⟨q.toArray⟩ : ByteArray).size ≤ 1048576 := by
    show q.toArray.size ≤ _
    simp at hcl ⊢
    omega
  have HP : Hid (∀ w, Calls Tryz.prog 64 #[.string ⟨q.toArray⟩] w fun e w' => ∃ v, e = .returned v ∧ w'.ownsRow w.heap.size 9 1 v (partsS q).length ((partsS q).map strV) ∧ Below w.heap.size w w') := Lib.hid (fun w => parts_any ⟨q.toArray⟩ hqs w)
  have hpt := partsS_tot q
  have HL : Hid ((partsS q).length ≤ 1048576) := Lib.hid (by simp at hcl; omega)
  clear h hp1 hp1l hcl hsl hqs hpt
  generalize partsS q = L at HP hV HL
  go_enter Tryz.func45, Tryz.ntmps45
  go_wp2_with fail
  go_at_call 62
  refine HO.out.mono ?_
  rintro e w1 ⟨rfl, rfl⟩
  go_wp2_with fail
  rw [hcat.out]
  refine (HC.out _).mono ?_
  rintro e w1 ⟨rfl, hb1⟩
  have HB1 := Lib.hid hb1
  clear hb1
  go_wp2_with fail
  go_at_call 64
  refine (HP.out _).mono ?_
  rintro e w2 ⟨v, rfl, hown, hb2⟩
  have HS := Lib.hid (StrsAt.of_row hown)
  have HB2 := Lib.hid (HB1.out.trans (hb2.mono HB1.out.size))
  obtain ⟨a, c, rfl⟩ := HS.out.isSlice
  have hcell : ∀ (i : Nat) (hi : i < L.length), ∃ g o, a = some ⟨g, o, none⟩ ∧ w2.cell? ⟨g, o + i, none⟩ = some (.string ⟨(L[i]'hi).toArray⟩) := fun i hi => by
    obtain ⟨g, o, cap, hv, _, _, _, hx, _⟩ := SlAt.ne0 HS.out (by omega)
    injection hv with hv _ _
    refine ⟨g, o, hv, hx i _ ?_⟩
    rw [List.getElem?_map, List.getElem?_eq_getElem hi]
    rfl
  have HCell := Lib.hid hcell
  have hLn := HL.out
  clear hcell hown hb2
  go_wp2
  go_loop [17] (fun v17 => ∃ i : Nat, v17 = .int .i64 i ∧ i ≤ L.length ∧ Hid ((L.take i).all (fun x => decide (x.length ≤ 255)) = true)) (fun v17 => L.length - (intOf v17).toNat)
  case atStart => exact ⟨0, rfl, Nat.zero_le _, Lib.hid (by simp)⟩
  case round =>
    obtain ⟨i, rfl, hi, HA⟩ := hrel
    by_cases hlt : i < L.length
    · obtain ⟨g, o, rfl, hc⟩ := HCell.out i hlt
      have hx : Hid (∀ b : Bool, decide ((L[i]'hlt).length ≤ 255) = b → (L.take (i + 1)).all (fun x => decide (x.length ≤ 255)) = b) := Lib.hid (fun b hb => by
        rw [List.take_add_one, List.getElem?_eq_getElem hlt]
        simp only [Option.toList, List.all_append, HA.out, Bool.true_and, List.all_cons, List.all_nil, Bool.and_true]
        exact hb)
      generalize (L[i]'hlt) = x at hc hx
      by_cases hbig : x.length ≤ 255
      · have hb : ¬ (255 : Int) < (x.length : Int) := by omega
        have HA2 := Lib.hid (hx.out true (by simpa using hbig))
        clear hbig
        go_wp2
        go_round
        case rel => exact ⟨i + 1, by go_num, by omega, HA2⟩
        case measure => simp [intOf]; omega
      · have hb : (255 : Int) < (x.length : Int) := by omega
        have hF : Hid (whereV s.data.toList = .tuple #[.string ⟨#[]⟩, .int .i64 1]) := Lib.hid (by
          rw [hV.out, if_neg]
          intro hall
          have h1 := hx.out false (by simpa using hbig)
          rw [List.all_eq_false] at h1
          obtain ⟨y, hy, hy2⟩ := h1
          exact hy2 (List.all_eq_true.1 hall y (List.mem_of_mem_take hy)))
        clear hbig
        go_wp2
        go_ret2
        exact ⟨by rw [hF.out]; rfl, HB2.out⟩
    · have hF : Hid (whereV s.data.toList = .tuple #[.string ⟨q.toArray⟩, .int .i64 0]) := Lib.hid (by
        have := HA.out
        rw [List.take_of_length_le (by omega)] at this
        rw [hV.out, if_pos this])
      go_wp2
      go_ret2
      exact ⟨by rw [hF.out]; rfl, HB2.out⟩
end Go.Proofs.YtpjmccajkcmmaaaGreatDoor

namespace Go.Proofs.YtpjmccajkcmmaaaGreatDoor
open Go.RowKit

theorem findNow_files (p : List UInt8) : ∀ (fs : List (List UInt8 × PFile)) (es : List MapEntry) (i : Nat), es.map (fun e => (e.key, e.val)) = fs.map (fun x => (strV x.1, fileV x.2)) →
    Instr.findNow .string (strV p) es i = some (match findF p fs with | none => none | some f => some (i + (fs.findIdx (fun x => p == x.1)), fileV f))
  | [], [], i, _ => rfl
  | [], e :: es, i, h => by cases h
  | x :: fs, [], i, h => by cases h
  | (q, f) :: fs, e :: es, i, h => by
    simp only [List.map_cons, List.cons.injEq, Prod.mk.injEq] at h
    obtain ⟨⟨hk, hv⟩, hr⟩ := h
    have ih := findNow_files p fs es (i + 1) hr
    unfold Instr.findNow
    rw [hk]
    have hs : Instr.sameNow .string (strV p) (strV q) = some (p == q) := by
      simp only [Instr.sameNow, strV]
      congr 1
      show (p.toArray == q.toArray) = _
      simp
    rw [hs]
    cases hpq : (p == q) with
    | true =>
      simp only [findF, hpq, if_true, hv, List.findIdx_cons]
      simp
    | false =>
      simp only [findF, hpq]
      rw [ih]
      simp only [List.findIdx_cons, hpq]
      cases findF p fs with
      | none => simp
      | some f' => simp; omega

def noFile : PFile := ⟨[], 0, false⟩
def putF (p : List UInt8) (f : PFile) : List (List UInt8 × PFile) → List (List UInt8 × PFile)
  | [] => [(p, f)]
  | (q, g) :: r => if p == q then (p, f) :: r else (q, g) :: putF p f r
def delF (p : List UInt8) : List (List UInt8 × PFile) → List (List UInt8 × PFile)
  | [] => []
  | (q, g) :: r => if p == q then r else (q, g) :: delF p r

theorem lookup_run (ok : Bool) {mb : Nat} {fs : List (List UInt8 × PFile)} {w : World} (h : MapAt mb fs w) (p : List UInt8) :
    (Instr.lookup 83 (.map (some mb)) (.string ⟨p.toArray⟩) ok).run Tryz.prog w = .ok (if ok then .tuple #[fileV ((findF p fs).getD noFile), .bool (findF p fs).isSome] else fileV ((findF p fs).getD noFile)) w := by
  obtain ⟨es, mc, hm, hes, hst⟩ := h
  have hf := findNow_files p fs es.toList 0 hes
  have hgo := MapKept.run_getObj_map (P := Tryz.prog) hm
  have hfk : (Instr.findKey 9 (.string ⟨p.toArray⟩) es.toList).run Tryz.prog w = _ := MapKept.run_findKey (P := Tryz.prog) (w := w) Tryz.underlying9 hf
  have hck : ∀ e, (Instr.checkKey e 10000 9 (.string ⟨p.toArray⟩)).run Tryz.prog w = .ok () w := fun e => MapKept.run_checkKey (P := Tryz.prog) (w := w) Tryz.underlying9 (k := .string ⟨p.toArray⟩) trivial e 9999
  have hz : (zeroValue 82).run Tryz.prog w = .ok (fileV noFile) w := Tryz.zeroValue82 w
  unfold Instr.lookup
  simp only [Sem.run_bind, run_underlying Tryz.underlying83, Result.andThen, hgo, Sem.run_pure, hck, hfk]
  cases hg : findF p fs with
  | none =>
    simp only [Result.andThen, Sem.run_bind, hz, Sem.run_pure]
    cases ok <;> simp
  | some f =>
    simp only [Result.andThen, Sem.run_bind, Sem.run_pure]
    cases ok <;> simp

theorem findF_none_put (p : List UInt8) (f : PFile) : ∀ fs : List (List UInt8 × PFile), findF p fs = none → putF p f fs = fs ++ [(p, f)]
  | [], _ => rfl
  | (q, g) :: r, h => by
    cases hpq : (p == q) with
    | true => simp only [findF, hpq, if_true] at h; cases h
    | false =>
      simp only [findF, hpq] at h
      simp only [putF, hpq, List.cons_append]
      rw [← findF_none_put p f r (by simpa using h)]
      rfl
theorem findF_some_put (p : List UInt8) (f g : PFile) : ∀ fs : List (List UInt8 × PFile), findF p fs = some g → fs.findIdx (fun x => p == x.1) < fs.length ∧ (fs[fs.findIdx (fun x => p == x.1)]?).map (·.1) = some p ∧ putF p f fs = fs.modify (fs.findIdx (fun x => p == x.1)) (fun _ => (p, f)) ∧ delF p fs = fs.eraseIdx (fs.findIdx (fun x => p == x.1))
  | [], h => by cases h
  | (q, g') :: r, h => by
    cases hpq : (p == q) with
    | true =>
      have hq : p = q := by simpa using hpq
      subst hq
      simp [putF, delF, List.findIdx_cons]
    | false =>
      simp only [findF, hpq] at h
      obtain ⟨h1, h2, h3, h4⟩ := findF_some_put p f g r (by simpa using h)
      have hfi : List.findIdx (fun x : List UInt8 × PFile => p == x.1) ((q, g') :: r) = List.findIdx (fun x : List UInt8 × PFile => p == x.1) r + 1 := by
        rw [List.findIdx_cons]
        simp [hpq]
      rw [hfi]
      refine ⟨by simp only [List.length_cons]; omega, by simpa using h2, ?_, ?_⟩
      · simp only [putF, hpq]
        rw [if_neg (by simp), h3]
        rfl
      · simp only [delF, hpq]
        rw [if_neg (by simp), h4]
        rfl
theorem findF_none_del (p : List UInt8) : ∀ fs : List (List UInt8 × PFile), findF p fs = none → delF p fs = fs
  | [], _ => rfl
  | (q, g) :: r, h => by
    cases hpq : (p == q) with
    | true => simp only [findF, hpq, if_true] at h; cases h
    | false =>
      simp only [findF, hpq] at h
      simp only [delF, hpq]
      rw [findF_none_del p r (by simpa using h)]
      rfl
theorem map_modify' {α β : Type} (g : α → β) (h : α → α) (h' : β → β) : ∀ (l : List α) (i : Nat), (∀ x, l[i]? = some x → g (h x) = h' (g x)) → (l.modify i h).map g = (l.map g).modify i h'
  | [], _, _ => by simp
  | x :: l, 0, hx => by simp [List.modify_cons, hx x rfl]
  | x :: l, i + 1, hx => by simp [map_modify' g h h' l i (fun y hy => hx y (by simpa using hy))]
theorem map_modify_same {α β : Type} (g : α → β) (h : α → α) (hg : ∀ x, g (h x) = g x) : ∀ (l : List α) (i : Nat), (l.modify i h).map g = l.map g
  | [], _ => by simp
  | x :: l, 0 => by simp [List.modify_cons, hg]
  | x :: l, i + 1 => by simp [map_modify_same g h hg l i]
theorem map_eraseIdx' {α β : Type} (g : α → β) : ∀ (l : List α) (i : Nat), (l.eraseIdx i).map g = (l.map g).eraseIdx i
  | [], _ => by simp
  | x :: l, 0 => by simp
  | x :: l, i + 1 => by simp [map_eraseIdx' g l i]

theorem update_run {mb : Nat} {fs : List (List UInt8 × PFile)} {w : World} (h : MapAt mb fs w) (p : List UInt8) (f : PFile) :
    ∃ o, (Instr.mapUpdate 83 (.map (some mb)) (.string ⟨p.toArray⟩) (fileV f)).run Tryz.prog w = .ok () { w with heap := w.heap.setIfInBounds mb o } ∧ MapAt mb (putF p f fs) { w with heap := w.heap.setIfInBounds mb o } := by
  obtain ⟨es, mc, hm, hes, hst⟩ := h
  have hlt : mb < w.heap.size := (Array.getElem?_eq_some_iff.1 hm).1
  have hf := findNow_files p fs es.toList 0 hes
  have hgo := MapKept.run_getObj_map (P := Tryz.prog) hm
  have hso := fun o => MapKept.run_setObj_map (P := Tryz.prog) o hm
  have hfk : (Instr.findKey 9 (.string ⟨p.toArray⟩) es.toList).run Tryz.prog w = _ := MapKept.run_findKey (P := Tryz.prog) (w := w) Tryz.underlying9 hf
  have hck : ∀ e, (Instr.checkKey e 10000 9 (.string ⟨p.toArray⟩)).run Tryz.prog w = .ok () w := fun e => MapKept.run_checkKey (P := Tryz.prog) (w := w) Tryz.underlying9 (k := .string ⟨p.toArray⟩) trivial e 9999
  cases hg : findF p fs with
  | none =>
    rw [hg] at hfk
    refine ⟨.map (es.push { key := .string ⟨p.toArray⟩, val := fileV f, born := mc }) (mc + 1), ?_, _, _, Array.getElem?_setIfInBounds_self_of_lt hlt, ?_⟩
    · unfold Instr.mapUpdate
      simp only [Sem.run_bind, run_underlying Tryz.underlying83, Result.andThen, hgo, hck, hfk, hso]
    · refine ⟨by rw [findF_none_put p f fs hg]; simp [hes, strV], ?_, ?_⟩
      · intro b hb
        simp only [Array.toList_push, List.map_append, List.map_cons, List.map_nil, List.mem_append, List.mem_singleton] at hb
        rcases hb with hb | hb
        · exact Nat.lt_succ_of_lt (hst.1 b hb)
        · omega
      · simp only [Array.toList_push, List.map_append, List.map_cons, List.map_nil]
        rw [List.nodup_append]
        refine ⟨hst.2, by simp, ?_⟩
        intro a ha b hb
        simp only [List.mem_singleton] at hb
        have := hst.1 a ha
        omega
  | some g =>
    rw [hg] at hfk
    obtain ⟨h1, h2, h3, h4⟩ := findF_some_put p f g fs hg
    have hlen : es.size = fs.length := by have := congrArg List.length hes; simpa using this
    have hkey : (es[fs.findIdx (fun x => p == x.1)]?).map (·.key) = some (.string ⟨p.toArray⟩) := by
      have := congrArg (fun l => (l[fs.findIdx (fun x => p == x.1)]?).map (·.1)) hes
      simp only [List.getElem?_map, Option.map_map] at this
      rw [Array.getElem?_toList] at this
      have e1 : (es[fs.findIdx (fun x => p == x.1)]?).map (·.key) = (fs[fs.findIdx (fun x => p == x.1)]?).map (fun x => strV x.1) := this
      rw [e1]
      cases hh : fs[fs.findIdx (fun x => p == x.1)]? with
      | none => rw [hh] at h2; cases h2
      | some y => rw [hh] at h2; simp at h2; simp [h2, strV]
    refine ⟨.map (es.modify (0 + fs.findIdx (fun x => p == x.1)) (fun e => { e with key := .string ⟨p.toArray⟩, val := fileV f })) mc, ?_, _, _, Array.getElem?_setIfInBounds_self_of_lt hlt, ?_⟩
    · have hks : (Instr.keyThatStays (.string ⟨p.toArray⟩) (.string ⟨p.toArray⟩)).run Tryz.prog w = .ok (.string ⟨p.toArray⟩) w := by
        unfold Instr.keyThatStays
        have : Instr.sameBits 10000 (.string ⟨p.toArray⟩) (.string ⟨p.toArray⟩) = true := by
          show (p.toArray == p.toArray) = true
          simp
        rw [if_pos this]
        rfl
      unfold Instr.mapUpdate
      simp only [Sem.run_bind, run_underlying Tryz.underlying83, Result.andThen, hgo, hck, hfk, Nat.zero_add, hkey, Option.getD_some, hks, hso]
    · have hbo : (es.modify (0 + fs.findIdx (fun x => p == x.1)) (fun e => { e with key := .string ⟨p.toArray⟩, val := fileV f })).toList.map (·.born) = es.toList.map (·.born) := by
        simp only [Array.toList_modify]
        exact map_modify_same (fun x : MapEntry => x.born) (fun e => { e with key := .string ⟨p.toArray⟩, val := fileV f }) (fun _ => rfl) _ _
      refine ⟨?_, by unfold Stamps; rw [hbo]; exact hst⟩
      rw [h3, Nat.zero_add]
      simp only [Array.toList_modify]
      rw [map_modify' (fun e : MapEntry => (e.key, e.val)) _ (fun _ => (strV p, fileV f)) es.toList _ (fun _ _ => rfl), hes, map_modify' (fun x : List UInt8 × PFile => (strV x.1, fileV x.2)) _ (fun _ => (strV p, fileV f)) fs _ (fun _ _ => rfl)]

theorem delete_run {mb : Nat} {fs : List (List UInt8 × PFile)} {w : World} (h : MapAt mb fs w) (p : List UInt8) (ty : TypeId) :
    ∃ o, (Builtin.delete_ #[83, 9] ty #[.map (some mb), .string ⟨p.toArray⟩]).run Tryz.prog w = .ok (.tuple #[]) { w with heap := w.heap.setIfInBounds mb o } ∧ MapAt mb (delF p fs) { w with heap := w.heap.setIfInBounds mb o } := by
  obtain ⟨es, mc, hm, hes, hst⟩ := h
  have hlt : mb < w.heap.size := (Array.getElem?_eq_some_iff.1 hm).1
  have hf := findNow_files p fs es.toList 0 hes
  have hgo := MapKept.run_getObj_map (P := Tryz.prog) hm
  have hso := fun o => MapKept.run_setObj_map (P := Tryz.prog) o hm
  have hfk : (Instr.findKey 9 (.string ⟨p.toArray⟩) es.toList).run Tryz.prog w = _ := MapKept.run_findKey (P := Tryz.prog) (w := w) Tryz.underlying9 hf
  have hck : ∀ e, (Instr.checkKey e 10000 9 (.string ⟨p.toArray⟩)).run Tryz.prog w = .ok () w := fun e => MapKept.run_checkKey (P := Tryz.prog) (w := w) Tryz.underlying9 (k := .string ⟨p.toArray⟩) trivial e 9999
  cases hg : findF p fs with
  | none =>
    rw [hg] at hfk
    refine ⟨.map es mc, ?_, _, _, Array.getElem?_setIfInBounds_self_of_lt hlt, ?_⟩
    · unfold Builtin.delete_
      simp [Sem.run_bind, run_underlying Tryz.underlying83, Result.andThen, hgo, hck, hfk, hso]
    · rw [findF_none_del p fs hg]
      exact ⟨hes, hst⟩
  | some g =>
    rw [hg] at hfk
    obtain ⟨h1, h2, h3, h4⟩ := findF_some_put p noFile g fs hg
    refine ⟨.map (es.eraseIdxIfInBounds (0 + fs.findIdx (fun x => p == x.1))) mc, ?_, _, _, Array.getElem?_setIfInBounds_self_of_lt hlt, ?_⟩
    · unfold Builtin.delete_
      simp [Sem.run_bind, run_underlying Tryz.underlying83, Result.andThen, hgo, hck, hfk, hso]
    · have hbo : (es.eraseIdxIfInBounds (0 + fs.findIdx (fun x => p == x.1))).toList.map (·.born) = (es.toList.map (·.born)).eraseIdx (fs.findIdx (fun x => p == x.1)) := by
        simp [map_eraseIdx']
      refine ⟨?_, ?_⟩
      · rw [h4, Nat.zero_add, map_eraseIdx', ← hes]
        simp [map_eraseIdx']
      · unfold Stamps
        rw [hbo]
        exact ⟨fun b hb => hst.1 b ((List.eraseIdx_sublist _ _).subset hb), hst.2.sublist (List.eraseIdx_sublist _ _)⟩
theorem maplen_run {mb : Nat} {fs : List (List UInt8 × PFile)} {w : World} (h : MapAt mb fs w) (ty : TypeId) :
    (Builtin.len_ #[83] ty #[.map (some mb)]).run Tryz.prog w = .ok (.int .i64 fs.length) w := by
  obtain ⟨es, mc, hm, hes, hst⟩ := h
  have hgo := MapKept.run_getObj_map (P := Tryz.prog) hm
  have hlen : es.size = fs.length := by have := congrArg List.length hes; simpa using this
  unfold Builtin.len_
  simp [Sem.run_bind, run_underlying Tryz.underlying83, Result.andThen, hgo, hlen, goInt]
end Go.Proofs.YtpjmccajkcmmaaaGreatDoor

namespace Go.Proofs.YtpjmccajkcmmaaaGreatDoor
open Go.RowKit

def findV (st : PStore) (p : List UInt8) : Value := match whereS p with
  | none => .tuple #[.string ⟨#[]⟩, fileV noFile, .int .i64 1]
  | some q => match st.get q with
    | none => .tuple #[.string ⟨q.toArray⟩, fileV noFile, .int .i64 6]
    | some f => .tuple #[.string ⟨q.toArray⟩, fileV f, .int .i64 0]

theorem cells3 {w : World} {b : Nat} {x y z : Value} {T : TypeId} (h : w.heap[b]? = some (.cells #[x, y, z] T (0, 0))) :
    w.cell? ⟨b, 0, none⟩ = some x ∧ w.cell? ⟨b, 1, none⟩ = some y ∧ w.cell? ⟨b, 2, none⟩ = some z ∧ w.frozen? ⟨b, 0, none⟩ = false ∧ w.frozen? ⟨b, 1, none⟩ = false ∧ w.frozen? ⟨b, 2, none⟩ = false :=
  ⟨Lib.cell_of_heap h 0, Lib.cell_of_heap h 1, Lib.cell_of_heap h 2, Lib.frozen_of_heap h 0, Lib.frozen_of_heap h 1, Lib.frozen_of_heap h 2⟩

theorem set3 {w : World} {b : Nat} {x y z : Value} {T : TypeId} (h : w.heap[b]? = some (.cells #[x, y, z] T (0, 0))) (x' y' z' : Value) :
    (((w.setCell ⟨b, 0, none⟩ x').setCell ⟨b, 1, none⟩ y').setCell ⟨b, 2, none⟩ z').heap[b]? = some (.cells #[x', y', z'] T (0, 0)) := heap_set (heap_set (heap_set h 0 _) 1 _) 2 _
theorem below3 {B : Nat} {a w : World} {b : Nat} (h : Below B a w) (hb : B ≤ b) (x y z : Value) : Below B a (((w.setCell ⟨b, 0, none⟩ x).setCell ⟨b, 1, none⟩ y).setCell ⟨b, 2, none⟩ z) :=
  ((h.setCell (p := ⟨b, 0, none⟩) hb _).setCell (p := ⟨b, 1, none⟩) hb _).setCell (p := ⟨b, 2, none⟩) hb _
theorem results_file {fn : Func} {p u v : Tmp} (h : fn.results = #[.tmp u, .cell p 82, .tmp v]) (tmps : Array Value) (w : World) (g : Nat) (x y z : Value)
    (hp : tmps.getD p undef = .pointer (some ⟨g, 0, none⟩)) (hg : w.heap[g]? = some (.cells #[x, y, z] 82 (0, 0))) :
    (results fn tmps).run Tryz.prog w = .ok (.tuple #[tmps.getD u undef, .agg #[x, y, z], tmps.getD v undef]) w := by
  have hp' : tmps[p]?.getD undef = .pointer (some ⟨g, 0, none⟩) := by simpa using hp
  have hl := run_loadVar_row (P := Tryz.prog) w g 82 82 #[x, y, z] (0, 0) _ hg Tryz.underlying82 rfl (by kernel_rfl)
  simp [results, h, hp', asAddr, hl]

set_option maxHeartbeats 2000000 in
set_option maxRecDepth 100000 in
theorem find_any (pb mb : Nat) (st : PStore) (s : ByteArray) (hs : s.size ≤ 262144) (w : World) (h : IsStore pb mb st w) :
    Calls Tryz.prog 28 #[.pointer (some ⟨pb, 0, none⟩), .string s] w fun e w' => e = .returned (findV st s.data.toList) ∧ Below w.heap.size w w' := by
  have HW : Hid (∀ w, IsStore pb mb st w → Calls Tryz.prog 45 #[.pointer (some ⟨pb, 0, none⟩), .string s] w fun e w' => e = .returned (whereV s.data.toList) ∧ Below w.heap.size w w') := Lib.hid (fun w h => where_any pb mb st s hs w h)
  have hV : Hid (findV st s.data.toList = match whereS s.data.toList with | none => .tuple #[.string ⟨#[]⟩, fileV noFile, .int .i64 1] | some q => match st.get q with | none => .tuple #[.string ⟨q.toArray⟩, fileV noFile, .int .i64 6] | some f => .tuple #[.string ⟨q.toArray⟩, fileV f, .int .i64 0]) := Lib.hid rfl
  unfold whereV at HW
  have HI := Lib.hid h
  clear h
  have HIa := Lib.hid (HI.out.below ((Below.refl _ _).alloc (Nat.le_refl _) (.cells #[.string ⟨#[]⟩, .int .i64 0, .bool false] 82)))
  have HBa : Hid (Below w.heap.size w (w.alloc (.cells #[.string ⟨#[]⟩, .int .i64 0, .bool false] 82))) := Lib.hid ((Below.refl _ _).alloc (Nat.le_refl _) _)
  cases hw : whereS s.data.toList with
  | none =>
    rw [hw] at HW hV
    clear hw
    go_enter Tryz.func28, Tryz.ntmps28
    go_wp2_with fail
    go_at_call 45
    refine (HW.out _ HIa.out).mono ?_
    rintro e w1 ⟨rfl, hb1⟩
    have hbox : w1.heap[w.heap.size]? = some (.cells #[.string ⟨#[]⟩, .int .i64 0, .bool false] 82 (0, 0)) := (hb1.block _ (by simp)).trans (heap_alloc_new w _)
    obtain ⟨e0, e1, e2, k0, k1, k2⟩ := cells3 hbox
    have HB1 := Lib.hid (HBa.out.trans (hb1.mono (by simp)))
    have hret := set3 hbox (.string ⟨#[]⟩) (.int .i64 0) (.bool false)
    have HRT := Lib.hid hret
    have HB2 := Lib.hid (below3 HB1.out (Nat.le_refl w.heap.size) (.string ⟨#[]⟩) (.int .i64 0) (.bool false))
    clear hbox hb1 hret
    go_wp2
    refine bodyPost_ret (results_file rfl _ _ _ _ _ _ rfl HRT.out) rfl ?_
    exact ⟨by rw [hV.out]; rfl, HB2.out⟩
  | some q =>
    simp only [hw] at HW hV
    clear hw
    cases hg : st.get q with
    | none =>
      have HL : Hid (∀ W, IsStore pb mb st W → (Instr.lookup 83 (.map (some mb)) (.string ⟨q.toArray⟩) true).run Tryz.prog W = .ok (.tuple #[.agg #[.string ⟨#[]⟩, .int .i64 0, .bool false], .bool false]) W) := Lib.hid (fun W h => by
        have h1 := lookup_run true h.map q
        have h2 : findF q st.files = none := hg
        rw [h1, h2]
        rfl)
      simp only [hg] at hV
      clear hg
      go_enter Tryz.func28, Tryz.ntmps28
      go_wp2_with fail
      go_at_call 45
      refine (HW.out _ HIa.out).mono ?_
      rintro e w1 ⟨rfl, hb1⟩
      have hbox : w1.heap[w.heap.size]? = some (.cells #[.string ⟨#[]⟩, .int .i64 0, .bool false] 82 (0, 0)) := (hb1.block _ (by simp)).trans (heap_alloc_new w _)
      obtain ⟨e0, e1, e2, k0, k1, k2⟩ := cells3 hbox
      have HB1 := Lib.hid (HBa.out.trans (hb1.mono (by simp)))
      have hI1 := HIa.out.below hb1
      have hlk := HL.out w1 hI1
      have c3 : w1.cell? ⟨pb, 3, none⟩ = some (.map (some mb)) := Lib.cell_of_heap hI1.cells 3
      have hbox2 : (w1.alloc (.cells #[.string ⟨#[]⟩, .int .i64 0, .bool false] 82)).heap[w.heap.size]? = some (.cells #[.string ⟨#[]⟩, .int .i64 0, .bool false] 82 (0, 0)) := (Lib.alloc_old w1 _ _ (Array.getElem?_eq_some_iff.1 hbox).1).trans hbox
      obtain ⟨e0, e1, e2, k0, k1, k2⟩ := cells3 hbox2
      have HRT := Lib.hid (set3 hbox2 (.string ⟨#[]⟩) (.int .i64 0) (.bool false))
      have HB2 := Lib.hid (below3 (HB1.out.alloc HB1.out.size (.cells #[.string ⟨#[]⟩, .int .i64 0, .bool false] 82)) (Nat.le_refl w.heap.size) (.string ⟨#[]⟩) (.int .i64 0) (.bool false))
      clear hbox hb1 hI1 hbox2
      go_wp2
      refine bodyPost_ret (results_file rfl _ _ _ _ _ _ rfl HRT.out) rfl ?_
      exact ⟨by rw [hV.out]; rfl, HB2.out⟩
    | some f =>
      obtain ⟨ft, fm, fd⟩ := f
      have HL : Hid (∀ W, IsStore pb mb st W → (Instr.lookup 83 (.map (some mb)) (.string ⟨q.toArray⟩) true).run Tryz.prog W = .ok (.tuple #[.agg #[.string ⟨ft.toArray⟩, .int .i64 fm, .bool fd], .bool true]) W) := Lib.hid (fun W h => by
        have h1 := lookup_run true h.map q
        have h2 : findF q st.files = some ⟨ft, fm, fd⟩ := hg
        rw [h1, h2]
        rfl)
      simp only [hg] at hV
      clear hg
      go_enter Tryz.func28, Tryz.ntmps28
      go_wp2_with fail
      go_at_call 45
      refine (HW.out _ HIa.out).mono ?_
      rintro e w1 ⟨rfl, hb1⟩
      have hbox : w1.heap[w.heap.size]? = some (.cells #[.string ⟨#[]⟩, .int .i64 0, .bool false] 82 (0, 0)) := (hb1.block _ (by simp)).trans (heap_alloc_new w _)
      have HB1 := Lib.hid (HBa.out.trans (hb1.mono (by simp)))
      have hI1 := HIa.out.below hb1
      have hlk := HL.out w1 hI1
      have c3 : w1.cell? ⟨pb, 3, none⟩ = some (.map (some mb)) := Lib.cell_of_heap hI1.cells 3
      have hbox2 : (w1.alloc (.cells #[.string ⟨ft.toArray⟩, .int .i64 fm, .bool fd] 82)).heap[w.heap.size]? = some (.cells #[.string ⟨#[]⟩, .int .i64 0, .bool false] 82 (0, 0)) := (Lib.alloc_old w1 _ _ (Array.getElem?_eq_some_iff.1 hbox).1).trans hbox
      obtain ⟨e0, e1, e2, k0, k1, k2⟩ := cells3 hbox2
      obtain ⟨b0, b1, b2, _, _, _⟩ := cells3 (heap_alloc_new w1 (.cells #[.string ⟨ft.toArray⟩, .int .i64 fm, .bool fd] 82))
      have HRT := Lib.hid (set3 hbox2 (.string ⟨ft.toArray⟩) (.int .i64 fm) (.bool fd))
      have HB2 := Lib.hid (below3 (HB1.out.alloc HB1.out.size (.cells #[.string ⟨ft.toArray⟩, .int .i64 fm, .bool fd] 82)) (Nat.le_refl w.heap.size) (.string ⟨ft.toArray⟩) (.int .i64 fm) (.bool fd))
      clear hbox hb1 hI1 hbox2
      go_wp2
      go_region
      all_goals (
        go_wp2
        refine bodyPost_ret (results_file rfl _ _ _ _ _ _ rfl HRT.out) rfl ?_
        exact ⟨by rw [hV.out]; rfl, HB2.out.drew⟩)
end Go.Proofs.YtpjmccajkcmmaaaGreatDoor

namespace Go.Proofs.YtpjmccajkcmmaaaGreatDoor
open Go.RowKit

theorem atomicRead_run (a : Addr) (c : Int) (w : World) (hc : w.cell? a = some (.int .i64 c)) : (Extern.Atomic.read (.int .i64) a).run Tryz.prog w = .ok (.int .i64 c) w := by
  simp [Extern.Atomic.read, Sem.run_bind, load, Sem.run, hc, Result.andThen]
theorem atomicAdd_run (a : Addr) (c : Int) (w : World) (hc : w.cell? a = some (.int .i64 c)) (hf : w.frozen? a = false) :
    (Extern.Atomic.update (Op.intArith .add) .i64 true #[.pointer (some a), .int .i64 1]).run Tryz.prog w = .ok (.int .i64 (IntKind.i64.wrap (c + 1))) (w.setCell a (.int .i64 (IntKind.i64.wrap (c + 1)))) := by
  change Sem.run Tryz.prog (do
    let b ← asAddr (.pointer (some a))
    let old ← Extern.Atomic.read (.int .i64) b
    let new ← Op.intArith .add .i64 (← asInt old) (← asInt (.int .i64 1))
    store b new .atomic
    pure (if true then new else old)) w = _
  have hr := atomicRead_run a c w hc
  simp [Sem.run_bind, asAddr, hr, Result.andThen, asInt, asIntOf, Op.intArith, store, Sem.run, hc, hf]
theorem atomicLoad_run (a : Addr) (c : Int) (w : World) (hc : w.cell? a = some (.int .i64 c)) :
    (Extern.Atomic.loadT (.int .i64) #[.pointer (some a)]).run Tryz.prog w = .ok (.int .i64 c) w := by
  change Sem.run Tryz.prog (do Extern.Atomic.read (.int .i64) (← asAddr (.pointer (some a)))) w = _
  have hr := atomicRead_run a c w hc
  simp [asAddr, hr]

set_option maxHeartbeats 1000000 in
set_option maxRecDepth 100000 in
theorem clockAdd_any (b : Nat) (c : Int) (w : World) (hc : w.cell? ⟨b, 2, none⟩ = some (.int .i64 c)) (hf : w.frozen? ⟨b, 2, none⟩ = false) :
    Calls Tryz.prog 47 #[.pointer (some ⟨b, 2, none⟩), .int .i64 1] w fun e w' => e = .returned (.int .i64 (IntKind.i64.wrap (c + 1))) ∧ w' = w.setCell ⟨b, 2, none⟩ (.int .i64 (IntKind.i64.wrap (c + 1))) := by
  have HR := Lib.hid (atomicAdd_run ⟨b, 2, none⟩ c w hc hf)
  generalize IntKind.i64.wrap (c + 1) = d at HR ⊢
  go_enter Tryz.func47, Tryz.ntmps47
  go_wp2
  rw [run_callFunc_extern Tryz.func66 (by kernel_rfl) (by kernel_rfl) (by kernel_rfl) (e := Extern.Atomic.update (Op.intArith .add) .i64 true) (by kernel_rfl)]
  rw [HR.out]
  simp only [Result.andThen]
  rw [Oper.upon_value]
  go_wp2
  go_ret
  exact ⟨rfl, rfl⟩
end Go.Proofs.YtpjmccajkcmmaaaGreatDoor

namespace Go.Proofs.YtpjmccajkcmmaaaGreatDoor
open Go.RowKit

set_option maxHeartbeats 1000000 in
set_option maxRecDepth 100000 in
theorem note_any (pb mb : Nat) (st : PStore) (k : Int) (s : ByteArray) (w : World) (h : IsStore pb mb st w) :
    Calls Tryz.prog 31 #[.pointer (some ⟨pb, 0, none⟩), .int .i64 k, .string s] w fun e w' => e = .returned (.tuple #[]) ∧ w = w' := by
  have c4 : w.cell? ⟨pb, 4, none⟩ = some (.bool false) := Lib.cell_of_heap h.cells 4
  clear h
  go_enter Tryz.func31, Tryz.ntmps31
  go_wp2
  go_end0
  exact ⟨rfl, rfl⟩

/-- what a lookup in the store leans on -/
def Held (pb mb : Nat) (es : Array MapEntry) (mc : Nat) (W : World) : Prop := W.cell? ⟨pb, 3, none⟩ = some (.map (some mb)) ∧ W.heap[mb]? = some (.map es mc)
theorem cell_lt {W : World} {a : Addr} {v : Value} (h : W.cell? a = some v) : a.block < W.heap.size := by
  rcases Nat.lt_or_ge a.block W.heap.size with h1 | h1
  · exact h1
  · simp [World.cell?, Array.getElem?_eq_none h1] at h
theorem heldA {pb mb : Nat} {es : Array MapEntry} {mc : Nat} {W : World} (o : Obj) (h : W.cell? ⟨pb, 3, none⟩ = some (.map (some mb)) ∧ W.heap[mb]? = some (.map es mc)) :
    (W.alloc o).cell? ⟨pb, 3, none⟩ = some (.map (some mb)) ∧ (W.alloc o).heap[mb]? = some (.map es mc) :=
  ⟨(World.cell?_of_block (w := W) (Below.heap_alloc W o pb (cell_lt h.1))).trans h.1, (Below.heap_alloc W o mb (Array.getElem?_eq_some_iff.1 h.2).1).trans h.2⟩
theorem heldS {pb mb b j : Nat} {u : Value} {es : Array MapEntry} {mc : Nat} {W : World} (h1 : pb ≠ b) (h2 : mb ≠ b) (h : W.cell? ⟨pb, 3, none⟩ = some (.map (some mb)) ∧ W.heap[mb]? = some (.map es mc)) :
    (W.setCell ⟨b, j, none⟩ u).cell? ⟨pb, 3, none⟩ = some (.map (some mb)) ∧ (W.setCell ⟨b, j, none⟩ u).heap[mb]? = some (.map es mc) :=
  ⟨(World.cell?_of_block (w := W) (Below.heap_setCell W _ u pb h1)).trans h.1, (Below.heap_setCell W _ u mb h2).trans h.2⟩

def homeS (st : PStore) (p : List UInt8) : Int := match st.get (dirS p) with | none => 6 | some f => if f.dir then 0 else 8

set_option maxHeartbeats 2000000 in
set_option maxRecDepth 100000 in
theorem home_any (pb mb : Nat) (st : PStore) (p : List UInt8) (hp : p.length ≤ 4194304) (w : World) (h : IsStore pb mb st w) :
    Calls Tryz.prog 29 #[.pointer (some ⟨pb, 0, none⟩), .string ⟨p.toArray⟩] w fun e w' => e = .returned (.int .i64 (homeS st p)) ∧ Below w.heap.size w w' := by
  have HD : Hid (∀ w, Calls Tryz.prog 46 #[.string ⟨p.toArray⟩] w fun e w' => e = .returned (.string ⟨(dirS p).toArray⟩) ∧ w = w') := Lib.hid (fun w => dir_any ⟨p.toArray⟩ (by show p.toArray.size ≤ _; simpa using hp) w)
  have hV : Hid (homeS st p = match st.get (dirS p) with | none => 6 | some f => if f.dir then 0 else 8) := Lib.hid rfl
  have c3 : w.cell? ⟨pb, 3, none⟩ = some (.map (some mb)) := Lib.cell_of_heap h.cells 3
  have hp1 := h.ltp
  have hm1 := h.ltm
  obtain ⟨es, mc, hm, hes⟩ := h.map
  have hlk : ∀ q W, W.heap[mb]? = some (.map es mc) → (Instr.lookup 83 (.map (some mb)) (.string ⟨q.toArray⟩) true).run Tryz.prog W = .ok (.tuple #[fileV ((st.get q).getD noFile), .bool (st.get q).isSome]) W := fun q W hW => lookup_run true ⟨es, mc, hW, hes⟩ q
  replace hlk := hlk (dirS p)
  clear h hes
  generalize dirS p = q at HD hV hlk
  cases hg : st.get q with
  | none =>
    simp only [hg] at hV hlk
    replace hlk : ∀ W, W.heap[mb]? = some (.map es mc) → (Instr.lookup 83 (.map (some mb)) (.string ⟨q.toArray⟩) true).run Tryz.prog W = .ok (.tuple #[.agg #[.string ⟨#[]⟩, .int .i64 0, .bool false], .bool false]) W := hlk
    clear hg
    go_enter Tryz.func29, Tryz.ntmps29
    go_wp2
    go_region_held3 (fun W => W.cell? ⟨pb, 3, none⟩ = some (.map (some mb)) ∧ W.heap[mb]? = some (.map es mc)) (first | assumption | (exact ⟨by assumption, by assumption⟩) | (refine heldA _ ?_; assumption) | (exact heldA _ ⟨c3, hm⟩) | (refine heldS ?_ ?_ (heldS ?_ ?_ (heldS ?_ ?_ ?_)) <;> (first | assumption | omega))) ((refine (HD.out _).mono ?_; rintro e w' ⟨rfl, rfl⟩))
    all_goals (
      go_wp2
      go_ret
      exact ⟨by rw [hV.out]; rfl, ((Below.refl _ w).alloc (Nat.le_refl _) _).drew⟩)
  | some f =>
    obtain ⟨ft, fm, fd⟩ := f
    simp only [hg] at hV hlk
    replace hlk : ∀ W, W.heap[mb]? = some (.map es mc) → (Instr.lookup 83 (.map (some mb)) (.string ⟨q.toArray⟩) true).run Tryz.prog W = .ok (.tuple #[.agg #[.string ⟨ft.toArray⟩, .int .i64 fm, .bool fd], .bool true]) W := hlk
    clear hg
    cases fd with
    | false =>
      go_enter Tryz.func29, Tryz.ntmps29
      go_wp2
      go_region_held3 (fun W => W.cell? ⟨pb, 3, none⟩ = some (.map (some mb)) ∧ W.heap[mb]? = some (.map es mc)) (first | assumption | (exact ⟨by assumption, by assumption⟩) | (refine heldA _ ?_; assumption) | (exact heldA _ ⟨c3, hm⟩) | (refine heldS ?_ ?_ (heldS ?_ ?_ (heldS ?_ ?_ ?_)) <;> (first | assumption | omega))) ((refine (HD.out _).mono ?_; rintro e w' ⟨rfl, rfl⟩))
      all_goals (
        go_wp2
        go_ret
        exact ⟨by rw [hV.out]; rfl, ((Below.refl _ w).alloc (Nat.le_refl _) _).drew⟩)

    | true =>
      go_enter Tryz.func29, Tryz.ntmps29
      go_wp2
      go_region_held3 (fun W => W.cell? ⟨pb, 3, none⟩ = some (.map (some mb)) ∧ W.heap[mb]? = some (.map es mc)) (first | assumption | (exact ⟨by assumption, by assumption⟩) | (refine heldA _ ?_; assumption) | (exact heldA _ ⟨c3, hm⟩) | (refine heldS ?_ ?_ (heldS ?_ ?_ (heldS ?_ ?_ ?_)) <;> (first | assumption | omega))) ((refine (HD.out _).mono ?_; rintro e w' ⟨rfl, rfl⟩))
      all_goals (
        go_wp2
        go_ret
        exact ⟨by rw [hV.out]; rfl, ((Below.refl _ w).alloc (Nat.le_refl _) _).drew⟩)

end Go.Proofs.YtpjmccajkcmmaaaGreatDoor
