/- bobstayref07.Set: how it lies; at, many, Right, scope. bobstayref07.Set.Put. -/
import Derived.Test.YtpjmccajkcmmaaaGreatDoorTg
import Derived.Laws.AppendOwnNone
namespace Go.Proofs.YtpjmccajkcmmaaaGreatDoor
open Go.RowKit

structure RVar where
  sc : Int
  name : ByteArray
  val : ByteArray
def RVar.cells (f : RVar) : List Value := [.int .i64 f.sc, .string f.name, .string f.val]
def vcells (l : List RVar) : List Value := l.flatMap RVar.cells
theorem vcells_len (l : List RVar) : (vcells l).length = l.length * 3 := by
  induction l with
  | nil => rfl
  | cons f l ih => simp only [vcells, List.flatMap_cons, List.length_append, List.length_cons] at ih ⊢; rw [ih]; simp [RVar.cells]; omega
theorem vcells_get (l : List RVar) (i k : Nat) (f : RVar) (h : l[i]? = some f) (hk : k < 3) : (vcells l)[i * 3 + k]? = f.cells[k]? := by
  induction l generalizing i with
  | nil => simp at h
  | cons g l ih =>
    cases i with
    | zero =>
      simp at h
      subst h
      simp only [vcells, List.flatMap_cons]
      rw [List.getElem?_append_left (by simp [RVar.cells]; omega)]
      simp
    | succ i =>
      simp at h
      have := ih i h
      simp only [vcells, List.flatMap_cons] at this ⊢
      rw [List.getElem?_append_right (by simp [RVar.cells]; omega)]
      rw [← this]
      congr 1
      simp [RVar.cells]
      omega
theorem vcells_append (l m : List RVar) : vcells (l ++ m) = vcells l ++ vcells m := by simp [vcells]
theorem vcells_set (l : List RVar) (j : Nat) (v : ByteArray) (h : j < l.length) : ∃ l', l'.length = l.length ∧ (vcells l).set (j * 3 + 2) (.string v) = vcells l' := by
  induction l generalizing j with
  | nil => simp at h
  | cons g l ih =>
    cases j with
    | zero => exact ⟨{ g with val := v } :: l, rfl, by simp [vcells, RVar.cells]⟩
    | succ j =>
      obtain ⟨l', h1, h2⟩ := ih j (by simpa using h)
      refine ⟨g :: l', by simp [h1], ?_⟩
      have h4 : (j + 1) * 3 + 2 = (j * 3 + 2) + 3 := by omega
      rw [h4]
      simp only [vcells, List.flatMap_cons, RVar.cells, List.set_cons_succ, List.cons_append, List.nil_append] at h2 ⊢
      rw [h2]

/-- the document's set lies at rb; its list's row is the caller's own -/
structure RVAt (B rb : Nat) (l : List RVar) (w : World) : Prop where
  cells : ∃ lv, w.heap[rb]? = some (.cells #[lv] 55 (0, 0)) ∧ w.ownsRow B 99 3 lv l.length (vcells l)
  base : B ≤ rb
  few : l.length ≤ 4096
theorem RVAt.keep {B rb : Nat} {l : List RVar} {w w' : World} (h : RVAt B rb l w) (hk : ∀ k, B ≤ k → k < w.heap.size → w'.heap[k]? = w.heap[k]?) : RVAt B rb l w' := by
  obtain ⟨lv, h1, h2⟩ := h.cells
  exact ⟨⟨lv, (hk rb h.base (Array.getElem?_eq_some_iff.1 h1).1).trans h1, ownsRow_heap h2 (fun k hkk => hk k (h2.lt k hkk).1 (h2.lt k hkk).2)⟩, h.base, h.few⟩
theorem RVAt.below {B rb : Nat} {l : List RVar} {w w' : World} (h : RVAt B rb l w) (hb : Below w.heap.size w w') : RVAt B rb l w' := h.keep (fun k _ hk => hb.block k hk)

def VAtQ (l : List RVar) (w : World) (e : Ending) (w' : World) : Prop := ∃ i : Int, e = .returned (.int .i64 i) ∧ (i = -1 ∨ ∃ j : Nat, i = j ∧ j < l.length) ∧ w = w'

set_option maxHeartbeats 2000000 in
set_option maxRecDepth 100000 in
theorem vAt_any {B rb : Nat} {l : List RVar} (n : Int) (p : ByteArray) (w : World) (h : RVAt B rb l w) : Calls Tryz.prog 26 #[.pointer (some ⟨rb, 0, none⟩), .int .i64 n, .string p] w (VAtQ l w) := by
  obtain ⟨lv, h1, h2⟩ := h.cells
  have hfew := h.few
  have c0 : w.cell? ⟨rb, 0, none⟩ = some lv := Lib.cell_of_heap h1 0
  have HX : Hid (∀ i f, l[i]? = some f → ∃ g cap, lv = .slice (some ⟨g, 0, none⟩) l.length cap ∧ w.cell? ⟨g, i * 3, none⟩ = some (.int .i64 f.sc) ∧ w.cell? ⟨g, i * 3 + 1, none⟩ = some (.string f.name)) := Lib.hid (fun i f hx => by
    have hi : i < l.length := (List.getElem?_eq_some_iff.1 hx).1
    obtain ⟨g, cap, rfl, hg, hgl, hcap⟩ := ownsRow_ne0 h2 (by omega)
    refine ⟨g, cap, rfl, ?_, ?_⟩
    · have := h2.cellAt (i * 3 + 0) (by omega)
      rw [vcells_get l i 0 f hx (by omega)] at this
      exact this
    · have := h2.cellAt (i * 3 + 1) (by omega)
      rw [vcells_get l i 1 f hx (by omega)] at this
      exact this)
  obtain ⟨a, cap, rfl⟩ := ownsRow_slice h2
  clear h h1 h2
  go_enter Tryz.func26, Tryz.ntmps26
  go_wp2
  go_loop [7] (fun v7 => ∃ i : Nat, v7 = .int .i64 i ∧ i ≤ l.length) (fun v7 => l.length + 1 - (intOf v7).toNat)
  case atStart => exact ⟨0, rfl, by omega⟩
  case round =>
    obtain ⟨i, rfl, hi⟩ := hrel
    by_cases hlt : i < l.length
    · obtain ⟨f, hx⟩ : ∃ f, l[i]? = some f := ⟨l[i], List.getElem?_eq_getElem hlt⟩
      obtain ⟨g, cap', he, hc, hc1⟩ := HX.out i f hx
      simp only [Value.slice.injEq] at he
      obtain ⟨rfl, -, rfl⟩ := he
      clear hx
      cases hq : (f.name.toList == p.toList) with
      | true =>
        cases hs : (f.sc == n) with
        | true =>
          go_wp2
          go_ret
          exact ⟨_, rfl, .inr ⟨i, rfl, hlt⟩, rfl⟩
        | false =>
          go_wp2
          go_round
          case rel => exact ⟨i + 1, by go_num, by omega⟩
          case measure => simp [intOf]; omega
      | false =>
        cases hs : (f.sc == n) with
        | true =>
          go_wp2
          go_round
          case rel => exact ⟨i + 1, by go_num, by omega⟩
          case measure => simp [intOf]; omega
        | false =>
          go_wp2
          go_round
          case rel => exact ⟨i + 1, by go_num, by omega⟩
          case measure => simp [intOf]; omega
    · go_wp2
      go_ret
      exact ⟨_, rfl, .inl rfl, rfl⟩

set_option maxHeartbeats 2000000 in
set_option maxRecDepth 100000 in
theorem vMany_any {B rb : Nat} {l : List RVar} (n : Int) (w : World) (h : RVAt B rb l w) : Calls Tryz.prog 27 #[.pointer (some ⟨rb, 0, none⟩), .int .i64 n] w fun e w' => (∃ i : Int, e = .returned (.int .i64 i)) ∧ w = w' := by
  obtain ⟨lv, h1, h2⟩ := h.cells
  have hfew := h.few
  have c0 : w.cell? ⟨rb, 0, none⟩ = some lv := Lib.cell_of_heap h1 0
  have HX : Hid (∀ i f, l[i]? = some f → ∃ g cap, lv = .slice (some ⟨g, 0, none⟩) l.length cap ∧ w.cell? ⟨g, i * 3, none⟩ = some (.int .i64 f.sc)) := Lib.hid (fun i f hx => by
    have hi : i < l.length := (List.getElem?_eq_some_iff.1 hx).1
    obtain ⟨g, cap, rfl, hg, hgl, hcap⟩ := ownsRow_ne0 h2 (by omega)
    refine ⟨g, cap, rfl, ?_⟩
    have := h2.cellAt (i * 3 + 0) (by omega)
    rw [vcells_get l i 0 f hx (by omega)] at this
    exact this)
  obtain ⟨a, cap, rfl⟩ := ownsRow_slice h2
  clear h h1 h2
  go_enter Tryz.func27, Tryz.ntmps27
  go_wp2
  go_loop [5, 6] (fun v5 v6 => ∃ (i : Nat) (k : Int), v5 = .int .i64 k ∧ v6 = .int .i64 i ∧ i ≤ l.length) (fun _ v6 => l.length + 1 - (intOf v6).toNat)
  case atStart => exact ⟨0, 0, rfl, rfl, by omega⟩
  case round =>
    obtain ⟨i, k, rfl, rfl, hi⟩ := hrel
    by_cases hlt : i < l.length
    · obtain ⟨f, hx⟩ : ∃ f, l[i]? = some f := ⟨l[i], List.getElem?_eq_getElem hlt⟩
      obtain ⟨g, cap', he, hc⟩ := HX.out i f hx
      simp only [Value.slice.injEq] at he
      obtain ⟨rfl, -, rfl⟩ := he
      clear hx
      cases hs : (f.sc == n) with
      | true =>
        go_wp2
        go_round
        case rel => exact ⟨i + 1, _, rfl, by go_num, by omega⟩
        case measure => simp [intOf]; omega
      | false =>
        go_wp2
        go_round
        case rel => exact ⟨i + 1, _, rfl, by go_num, by omega⟩
        case measure => simp [intOf]; omega
    · go_wp2
      go_ret
      exact ⟨⟨_, rfl⟩, rfl⟩

theorem bl_drewV {a w : World} (n : Nat) (h : Below a.heap.size a w) : Below a.heap.size a (w.drewN n) := h.trans ⟨rfl, rfl, rfl, Nat.le_refl _, fun _ _ => rfl⟩
/-- it ends with a yes or a no -/
def ABool (e : Ending) : Prop := ∃ b : Bool, e = .returned (.bool b)
set_option maxRecDepth 100000 in
theorem vScope_any (n : Int) (w : World) : Calls Tryz.prog 24 #[.int .i64 n] w fun e w' => ABool e ∧ w = w' := by
  by_cases h : 1 ≤ n
  · by_cases h2 : n ≤ 4
    · go_enter Tryz.func24, Tryz.ntmps24
      go_wp2
      go_ret
      exact ⟨⟨_, rfl⟩, rfl⟩
    · go_enter Tryz.func24, Tryz.ntmps24
      go_wp2
      go_ret
      exact ⟨⟨_, rfl⟩, rfl⟩
  · go_enter Tryz.func24, Tryz.ntmps24
    go_wp2
    go_ret
    exact ⟨⟨_, rfl⟩, rfl⟩

theorem two_bytes (w : World) : (convert 76 9 (.slice (some ⟨w.heap.size, 0, none⟩) 2 2)).run Tryz.prog (w.alloc (.cells #[.int .u8 9, .int .u8 10] 5)) = .ok (.string ⟨#[9, 10]⟩) (w.alloc (.cells #[.int .u8 9, .int .u8 10] 5)) := by
  rw [run_convert_bytes_string _ _ _ 5 _ _ _ Tryz.underlying76 Tryz.underlying5 Tryz.underlying9]
  rw [run_bytesToString _ _ 2 2 [9, 10]]
  · rfl
  · simp [loadCells, go_sem, Addr.add]

set_option maxHeartbeats 2000000 in
set_option maxRecDepth 100000 in
theorem vRight_any (p : ByteArray) (hp : p.size ≤ 1073741824) (w : World) : Calls Tryz.prog 25 #[.string p] w fun e w' => ABool e ∧ Below w.heap.size w w' := by
  have hcv := two_bytes w
  have HB := Lib.hid ((Below.refl w.heap.size w).alloc (Nat.le_refl _) (.cells #[.int .u8 9, .int .u8 10] 5))
  go_enter Tryz.func25, Tryz.ntmps25
  go_wp2
  generalize hbad : ((⟨#[32]⟩ : ByteArray) ++ ⟨#[9, 10]⟩ ++ ⟨#[36, 58, 61, 123, 125, 40, 41, 35]⟩) = bad
  have hbs : bad.size = 11 := by rw [← hbad]; kernel_rfl
  clear hbad
  have HB' : Below w.heap.size w (w.alloc (.cells #[.int .u8 9, .int .u8 10] 5)) := HB.out
  generalize (w.alloc (.cells #[.int .u8 9, .int .u8 10] 5)) = w1 at HB' ⊢
  clear hcv HB
  go_loopw [4] (fun v4 wr => ∃ i : Nat, v4 = .int .i64 i ∧ i ≤ p.size ∧ Below w.heap.size w wr) (fun v4 _ => p.size + 1 - (intOf v4).toNat)
  case atStart => exact ⟨0, rfl, by omega, HB'⟩
  case round =>
    clear HB'
    obtain ⟨i, rfl, hi, hb⟩ := hrel
    by_cases hlt : i < p.size
    · go_wp2
      go_loopw [5] (fun v5 wr => ∃ k : Nat, v5 = .int .i64 k ∧ k ≤ 11 ∧ Below w.heap.size w wr) (fun v5 _ => 12 - (intOf v5).toNat)
      case atStart => exact ⟨0, rfl, by omega, hb⟩
      case round =>
        clear hb
        obtain ⟨k, rfl, hk, hb⟩ := hrel
        by_cases hkl : k < bad.size
        · go_wp2_with fail
          go_quiet (fail)
          have hb2 := bl_drewV nq hb
          cases hq : (((p[i]'hlt).toNat : Int) == ((bad[k]'hkl).toNat : Int)) with
          | true =>
            go_wp2
            go_ret
            exact ⟨⟨_, rfl⟩, hb2⟩
          | false =>
            go_wp2
            go_roundw
            case rel => exact ⟨k + 1, by go_num, by omega, hb2⟩
            case measure => simp [intOf]; omega
        · go_wp2
          go_roundw
          case rel => exact ⟨i + 1, by go_num, by omega, hb⟩
          case measure => simp [intOf]; omega
    · go_wp2
      all_goals
        go_ret
        exact ⟨⟨_, rfl⟩, hb⟩
end Go.Proofs.YtpjmccajkcmmaaaGreatDoor

namespace Go.Proofs.YtpjmccajkcmmaaaGreatDoor
open Go.RowKit

theorem varInfo : (Tryz.prog.info? 99).map (fun i => (i.zero, i.size, i.bytes)) = some (some (.agg #[.int .i64 0, .string ⟨#[]⟩, .string ⟨#[]⟩]), 3, 40) := by kernel_rfl
/-- a number comes back, and the document's set is as one may be, with one more at most -/
def VPutQ (B rb n : Nat) (w : World) (e : Ending) (w' : World) : Prop := (∃ i : Int, e = .returned (.int .i64 i)) ∧ (∃ l, RVAt B rb l w' ∧ l.length ≤ n + 1) ∧ Keeps w.heap.size (fun k => k = rb) w w'

set_option maxHeartbeats 8000000 in
set_option maxRecDepth 100000 in
theorem vPut_any {B rb : Nat} {l : List RVar} (n : Int) (p v : ByteArray) (hp : p.size ≤ 1073741824) (hv : v.size ≤ 1073741824) (hl : l.length < 4096) (w : World) (hB : B ≤ w.heap.size) (h : RVAt B rb l w) :
    Calls Tryz.prog 16 #[.pointer (some ⟨rb, 0, none⟩), .int .i64 n, .string p, .string v] w (VPutQ B rb l.length w) := by
  obtain ⟨i0, hi0, hz0, hz1, hz2⟩ := info_parts varInfo
  have HS := Lib.hid (fun W => vScope_any n W)
  have HR := Lib.hid (fun W => vRight_any p hp W)
  have HJ := Lib.hid h
  clear h
  go_enter Tryz.func16, Tryz.ntmps16
  go_wp2_with fail
  go_at_call 24
  refine (HS.out _).mono ?_
  rintro e w1 ⟨⟨b, rfl⟩, hw1⟩
  subst hw1
  cases b with
  | false =>
    go_wp2
    go_ret
    exact ⟨⟨_, rfl⟩, ⟨l, HJ.out, by omega⟩, Keeps.refl _ _ _⟩
  | true =>
    go_wp2_with fail
    go_at_call 25
    refine (HR.out _).mono ?_
    rintro e w1 ⟨⟨b, rfl⟩, hb1⟩
    have HJ1 := Lib.hid (HJ.out.below hb1)
    have HB1 : Hid (Keeps w.heap.size (fun k => k = rb) w w1) := Lib.hid (Keeps.of hb1 _)
    have HZ1 : Hid (w.heap.size ≤ w1.heap.size) := Lib.hid hb1.size
    have HS1 : Hid (B ≤ w1.heap.size) := Lib.hid (Nat.le_trans hB hb1.size)
    clear hb1 HJ
    cases b with
    | false =>
      go_wp2
      go_ret
      exact ⟨⟨_, rfl⟩, ⟨l, HJ1.out, by omega⟩, HB1.out⟩
    | true =>
      have HA := Lib.hid (vAt_any n p w1 HJ1.out)
      have HM := Lib.hid (vMany_any n w1 HJ1.out)
      go_wp2_with fail
      go_at_call 26
      refine HA.out.mono ?_
      rintro e w2 ⟨i, rfl, hi, hw2⟩
      subst hw2
      obtain ⟨lv, q1, q2⟩ := HJ1.out.cells
      have c0 : w1.cell? ⟨rb, 0, none⟩ = some lv := Lib.cell_of_heap q1 0
      have HRow := Lib.hid q2
      have hrow : (lv = .slice none 0 0 ∧ l = []) ∨ ∃ g cap, lv = .slice (some ⟨g, 0, none⟩) l.length cap := by
        rcases q2.2 with ⟨h, h0⟩ | ⟨g, cap, cur, h, _⟩
        · exact .inl ⟨h, List.eq_nil_of_length_eq_zero h0⟩
        · exact .inr ⟨g, cap, h⟩
      clear q1 q2
      by_cases hbig : (65536 : Int) < (v.size : Int)
      · go_wp2
        go_ret
        exact ⟨⟨_, rfl⟩, ⟨l, HJ1.out, by omega⟩, HB1.out⟩
      · rcases hi with rfl | ⟨j, rfl, hj⟩
        · go_wp2_with fail
          go_at_call 27
          refine HM.out.mono ?_
          rintro e w2 ⟨⟨k, rfl⟩, hw2⟩
          subst hw2
          by_cases hk : (1024 : Int) ≤ k
          · go_wp2
            go_ret
            exact ⟨⟨_, rfl⟩, ⟨l, HJ1.out, by omega⟩, HB1.out⟩
          · rcases hrow with ⟨rfl, rfl⟩ | ⟨g, cap, rfl⟩
            · have HO3 : Hid (w1.ownsRow w1.heap.size 99 3 (.slice none 0 0) 0 (vcells [])) := Lib.hid ⟨rfl, .inl ⟨rfl, rfl⟩⟩
              have HR3 := HJ1
              have HB3 := HB1
              have HS3 : Hid (w1.heap.size ≤ w1.heap.size) := Lib.hid (Nat.le_refl _)
              go_wp2_with (at_builtin; refine wpList_append_own _ rfl _ _ 53 rfl w1.heap.size 99 i0 _ 3 40 Tryz.underlying53 hi0 hz0 hz1 hz2 rfl (by decide) _ _ _ rfl (HO3.out.alloc _) ⟨w1.heap.size, 0, none⟩ 1 1 [.int .i64 n, .string p, .string v] rfl rfl ?c1 ?c2 ?c3 ?c4 ?c5 ?_)
              case c1 =>
                intro j y hj
                match j, hj with
                | 0, hj => simp at hj; subst hj; simp [Addr.add]
                | 1, hj => simp at hj; subst hj; simp [Addr.add]
                | 2, hj => simp at hj; subst hj; simp [Addr.add]
              case c2 =>
                intro y hy
                simp only [List.mem_cons, List.not_mem_nil, or_false] at hy
                rcases hy with rfl | rfl | rfl <;> rfl
              case c3 => unfold maxLen; omega
              case c4 => omega
              case c5 => simp
              intro v2 w5 hown5 hgrow5 _
              have hs3 := HS3.out
              have hs1 := HS1.out
              obtain ⟨a2, c2, rfl⟩ := ownsRow_slice hown5
              have hrbl : rb < w1.heap.size := by obtain ⟨lv3, q1, q2⟩ := HR3.out.cells; exact (Array.getElem?_eq_some_iff.1 q1).1
              have hrb1 : rb < w1.heap.size := by obtain ⟨lv3, q1, q2⟩ := HJ1.out.cells; exact (Array.getElem?_eq_some_iff.1 q1).1
              have hz1 := HZ1.out
              have hb5 : Keeps w.heap.size (fun k => k = rb) w w5 := (HB3.out.alloc (by omega) (.cells #[.int .i64 n, .string p, .string v] 99)).grown hgrow5 (by simp; omega) (fun k hk => by have := (HO3.out.lt k hk).1; omega)
              have hrb5 : w5.heap[rb]? = w1.heap[rb]? := (hgrow5.block rb (by simp; omega) (fun e => by have := (HO3.out.lt rb e.symm).1; omega)).trans (Below.heap_alloc w1 _ rb (by omega))
              obtain ⟨lv3, q1, q2⟩ := HR3.out.cells
              have q3 := hrb5.trans q1
              have d2 : w5.cell? ⟨rb, 0, none⟩ = some lv3 := Lib.cell_of_heap q3 0
              have df : w5.frozen? ⟨rb, 0, none⟩ = false := Lib.frozen_of_heap q3 0
              have hbase := HR3.out.base
              have HF : Hid (RVAt B rb ([] ++ [⟨n, p, v⟩]) (w5.setCell ⟨rb, 0, none⟩ (.slice a2 (1) c2)) ∧ Keeps w.heap.size (fun k => k = rb) w (w5.setCell ⟨rb, 0, none⟩ (.slice a2 (1) c2))) := Lib.hid (by
                refine ⟨⟨⟨.slice a2 (1) c2, by simpa using heap_set q3 0 (.slice a2 (1) c2), ?_⟩, hbase, by simp⟩, hb5.setCell (p := ⟨rb, 0, none⟩) (.inr rfl) _⟩
                rw [vcells_append, List.length_append]
                refine ownsRow_base (ownsRow_heap (show w5.ownsRow w1.heap.size _ 3 (.slice a2 (1) c2) (1) (vcells [] ++ [.int .i64 n, .string p, .string v]) from hown5) (fun k hk => Below.heap_setCell w5 ⟨rb, 0, none⟩ _ k ?_)) (by omega)
                have := (hown5.lt k hk).1
                show k ≠ rb
                omega)
              clear hown5 hgrow5 hb5 hrb5 q1 q2 q3
              go_wp2
              go_ret
              exact ⟨⟨_, rfl⟩, ⟨_, HF.out.1, by simp⟩, HF.out.2⟩
            · go_wp2_with (at_builtin; refine wpList_append_own _ rfl _ _ 53 rfl w1.heap.size 99 i0 _ 3 40 Tryz.underlying53 hi0 hz0 hz1 hz2 rfl (by decide) (.slice none 0 0) 0 [] rfl ⟨rfl, .inl ⟨rfl, rfl⟩⟩ ⟨g, 0, none⟩ l.length cap (vcells l) rfl ?c0 ?c1 ?c2 ?c3 ?c4 ?c5 ?_)
              case c0 => exact vcells_len l
              case c1 =>
                intro j u hj
                have hj2 : j < l.length * 3 := by rw [← vcells_len]; exact (List.getElem?_eq_some_iff.1 hj).1
                have ha : (⟨g, 0, none⟩ : Addr).add j = ⟨g, j, none⟩ := by unfold Addr.add; split <;> simp_all
                (try rw [ha]); rw [HRow.out.cellAt j hj2, hj]
              case c2 =>
                intro u hu
                obtain ⟨f, -, hu⟩ := List.mem_flatMap.1 hu
                simp only [RVar.cells, List.mem_cons, List.not_mem_nil, or_false] at hu
                rcases hu with rfl | rfl | rfl <;> rfl
              case c3 => unfold maxLen; omega
              case c4 => omega
              case c5 => exact Nat.le_refl _
              intro v' w3 hown' hgrow _
              have hown3 : w3.ownsRow w1.heap.size 99 3 v' l.length (vcells l) := by simpa using hown'
              have hR3 : RVAt B rb l w3 := HJ1.out.keep (fun k _ hk => hgrow.block k hk (by simp [Value.ownBlock]))
              have hB3 : Keeps w.heap.size (fun k => k = rb) w w3 := HB1.out.grown hgrow HZ1.out (fun k hk => by simp [Value.ownBlock] at hk)
              have HS3 : Hid (w1.heap.size ≤ w3.heap.size) := Lib.hid hgrow.size
              have HO3 := Lib.hid hown3
              have HR3 := Lib.hid hR3
              have HB3 := Lib.hid hB3
              clear hown' hgrow hown3 hR3 hB3
              go_wp2_with (at_builtin; refine wpList_append_own _ rfl _ _ 53 rfl w1.heap.size 99 i0 _ 3 40 Tryz.underlying53 hi0 hz0 hz1 hz2 rfl (by decide) _ _ _ rfl (HO3.out.alloc _) ⟨w3.heap.size, 0, none⟩ 1 1 [.int .i64 n, .string p, .string v] rfl rfl ?c1 ?c2 ?c3 ?c4 ?c5 ?_)
              case c1 =>
                intro j y hj
                match j, hj with
                | 0, hj => simp at hj; subst hj; simp [Addr.add]
                | 1, hj => simp at hj; subst hj; simp [Addr.add]
                | 2, hj => simp at hj; subst hj; simp [Addr.add]
              case c2 =>
                intro y hy
                simp only [List.mem_cons, List.not_mem_nil, or_false] at hy
                rcases hy with rfl | rfl | rfl <;> rfl
              case c3 => unfold maxLen; omega
              case c4 => omega
              case c5 => simp; have := HS3.out; omega
              intro v2 w5 hown5 hgrow5 _
              have hs3 := HS3.out
              have hs1 := HS1.out
              obtain ⟨a2, c2, rfl⟩ := ownsRow_slice hown5
              have hrbl : rb < w3.heap.size := by obtain ⟨lv3, q1, q2⟩ := HR3.out.cells; exact (Array.getElem?_eq_some_iff.1 q1).1
              have hrb1 : rb < w1.heap.size := by obtain ⟨lv3, q1, q2⟩ := HJ1.out.cells; exact (Array.getElem?_eq_some_iff.1 q1).1
              have hz1 := HZ1.out
              have hb5 : Keeps w.heap.size (fun k => k = rb) w w5 := (HB3.out.alloc (by omega) (.cells #[.int .i64 n, .string p, .string v] 99)).grown hgrow5 (by simp; omega) (fun k hk => by have := (HO3.out.lt k hk).1; omega)
              have hrb5 : w5.heap[rb]? = w3.heap[rb]? := (hgrow5.block rb (by simp; omega) (fun e => by have := (HO3.out.lt rb e.symm).1; omega)).trans (Below.heap_alloc w3 _ rb (by omega))
              obtain ⟨lv3, q1, q2⟩ := HR3.out.cells
              have q3 := hrb5.trans q1
              have d2 : w5.cell? ⟨rb, 0, none⟩ = some lv3 := Lib.cell_of_heap q3 0
              have df : w5.frozen? ⟨rb, 0, none⟩ = false := Lib.frozen_of_heap q3 0
              have hbase := HR3.out.base
              have HF : Hid (RVAt B rb (l ++ [⟨n, p, v⟩]) (w5.setCell ⟨rb, 0, none⟩ (.slice a2 (l.length + 1) c2)) ∧ Keeps w.heap.size (fun k => k = rb) w (w5.setCell ⟨rb, 0, none⟩ (.slice a2 (l.length + 1) c2))) := Lib.hid (by
                refine ⟨⟨⟨.slice a2 (l.length + 1) c2, by simpa using heap_set q3 0 (.slice a2 (l.length + 1) c2), ?_⟩, hbase, by simp; omega⟩, hb5.setCell (p := ⟨rb, 0, none⟩) (.inr rfl) _⟩
                rw [vcells_append, List.length_append]
                refine ownsRow_base (ownsRow_heap (show w5.ownsRow w1.heap.size _ 3 (.slice a2 (l.length + 1) c2) (l.length + 1) (vcells l ++ [.int .i64 n, .string p, .string v]) from hown5) (fun k hk => Below.heap_setCell w5 ⟨rb, 0, none⟩ _ k ?_)) (by omega)
                have := (hown5.lt k hk).1
                show k ≠ rb
                omega)
              clear hown5 hgrow5 hb5 hrb5 q1 q2 q3
              go_wp2
              go_ret
              exact ⟨⟨_, rfl⟩, ⟨_, HF.out.1, by simp⟩, HF.out.2⟩
        · have hne : l.length ≠ 0 := by omega
          obtain ⟨g, cap, rfl⟩ : ∃ g cap, lv = .slice (some ⟨g, 0, none⟩) l.length cap := by
            rcases hrow with ⟨-, h0⟩ | h
            · rw [h0] at hne; exact absurd rfl hne
            · exact h
          have hj0 : 0 ≤ (j : Int) := by omega
          have hjn : ¬ (j : Int) < 0 := by omega
          have hjd : decide ((j : Int) < 0) = false := by simp
          go_wp2_with (at_builtin; refine wpList_append_own _ rfl _ _ 53 rfl w1.heap.size 99 i0 _ 3 40 Tryz.underlying53 hi0 hz0 hz1 hz2 rfl (by decide) (.slice none 0 0) 0 [] rfl ⟨rfl, .inl ⟨rfl, rfl⟩⟩ ⟨g, 0, none⟩ l.length cap (vcells l) rfl ?c0 ?c1 ?c2 ?c3 ?c4 ?c5 ?_)
          case c0 => exact vcells_len l
          case c1 =>
            intro j u hj
            have hj2 : j < l.length * 3 := by rw [← vcells_len]; exact (List.getElem?_eq_some_iff.1 hj).1
            have ha : (⟨g, 0, none⟩ : Addr).add j = ⟨g, j, none⟩ := by unfold Addr.add; split <;> simp_all
            (try rw [ha]); rw [HRow.out.cellAt j hj2, hj]
          case c2 =>
            intro u hu
            obtain ⟨f, -, hu⟩ := List.mem_flatMap.1 hu
            simp only [RVar.cells, List.mem_cons, List.not_mem_nil, or_false] at hu
            rcases hu with rfl | rfl | rfl <;> rfl
          case c3 => unfold maxLen; omega
          case c4 => omega
          case c5 => exact Nat.le_refl _
          intro v' w3 hown' hgrow _
          have hown3 : w3.ownsRow w1.heap.size 99 3 v' l.length (vcells l) := by simpa using hown'
          have hR3 : RVAt B rb l w3 := HJ1.out.keep (fun k _ hk => hgrow.block k hk (by simp [Value.ownBlock]))
          have hB3 : Keeps w.heap.size (fun k => k = rb) w w3 := HB1.out.grown hgrow HZ1.out (fun k hk => by simp [Value.ownBlock] at hk)
          have HS3 : Hid (w1.heap.size ≤ w3.heap.size) := Lib.hid hgrow.size
          have HO3 := Lib.hid hown3
          have HR3 := Lib.hid hR3
          have HB3 := Lib.hid hB3
          clear hown' hgrow hown3 hR3 hB3
          have hs3 := HS3.out
          have hs1 := HS1.out
          obtain ⟨g3, cap3, rfl, hg3, hgl3, hcap3⟩ := ownsRow_ne0 HO3.out (by omega)
          have O0 := HO3.out
          have O1 := O0.stored (j * 3 + 2) (.string v)
          have hln := vcells_len l
          obtain ⟨x0, y0⟩ : ∃ u, w3.cell? ⟨g3, j * 3 + 2, none⟩ = some u := by
            rw [O0.cellAt (j * 3 + 2) (by omega)]
            exact ⟨_, List.getElem?_eq_getElem (by rw [O0.1]; omega)⟩
          have z0 := O0.frozenAt (j * 3 + 2)
          obtain ⟨l', hl', hset⟩ := vcells_set l j v hj
          obtain ⟨w5, hw5⟩ : ∃ w5, w5 = w3.setCell ⟨g3, j * 3 + 2, none⟩ (.string v) := ⟨_, rfl⟩
          have hown5 : w5.ownsRow w1.heap.size 99 3 (.slice (some ⟨g3, 0, none⟩) l.length cap3) l.length (vcells l') := by
            rw [hw5, ← hset]
            exact O1.1
          have hrb1 : rb < w1.heap.size := by obtain ⟨lv3, q1, q2⟩ := HJ1.out.cells; exact (Array.getElem?_eq_some_iff.1 q1).1
          have hz1 := HZ1.out
          have hb5 : Keeps w.heap.size (fun k => k = rb) w w5 := by
            rw [hw5]
            exact HB3.out.setCell (p := ⟨g3, j * 3 + 2, none⟩) (.inl (show w.heap.size ≤ g3 by omega)) _
          obtain ⟨lv3, q1, q2⟩ := HR3.out.cells
          have q3 : w5.heap[rb]? = _ := (show w5.heap[rb]? = w3.heap[rb]? by rw [hw5]; exact Below.heap_setCell _ ⟨g3, j * 3 + 2, none⟩ _ rb (show rb ≠ g3 by omega)).trans q1
          have d2 : w5.cell? ⟨rb, 0, none⟩ = some lv3 := Lib.cell_of_heap q3 0
          have df : w5.frozen? ⟨rb, 0, none⟩ = false := Lib.frozen_of_heap q3 0
          have hbase := HR3.out.base
          have HF : Hid (RVAt B rb l' (w5.setCell ⟨rb, 0, none⟩ (.slice (some ⟨g3, 0, none⟩) l.length cap3)) ∧ Keeps w.heap.size (fun k => k = rb) w (w5.setCell ⟨rb, 0, none⟩ (.slice (some ⟨g3, 0, none⟩) l.length cap3))) := Lib.hid (by
            refine ⟨⟨⟨.slice (some ⟨g3, 0, none⟩) l.length cap3, by simpa using heap_set q3 0 (.slice (some ⟨g3, 0, none⟩) l.length cap3), ?_⟩, hbase, by omega⟩, hb5.setCell (p := ⟨rb, 0, none⟩) (.inr rfl) _⟩
            rw [hl']
            refine ownsRow_base (ownsRow_heap hown5 (fun k hk => Below.heap_setCell w5 ⟨rb, 0, none⟩ _ k ?_)) (by omega)
            have := (hown5.lt k hk).1
            show k ≠ rb
            omega)
          rw [hw5] at d2 df HF
          clear hown5 hb5 q1 q2 q3 O0 O1 hln hw5
          go_wp2
          go_ret
          exact ⟨⟨_, rfl⟩, ⟨_, HF.out.1, by omega⟩, HF.out.2⟩
end Go.Proofs.YtpjmccajkcmmaaaGreatDoor
