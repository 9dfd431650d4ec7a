/- sh.read: the walk. -/
import Derived.Test.YtmagggflamdahaaGreatDoorSb
namespace Go.Proofs.YtmagggflamdahaaGreatDoor
open Go.RowKit

theorem toks_all : ∀ (n : Nat) (l : List UInt8) (L : List (List UInt8)), l.length ≤ n → toksS l = some L → (∀ t ∈ L, t ≠ [] ∧ t.length ≤ l.length)
  | n, l, L, hn, h => by
    cases hd : l.dropWhile blankB with
    | nil =>
      rw [toksS_none l hd] at h
      cases h
      simp
    | cons c r =>
      rw [toksS_cons l c r hd] at h
      have hle : (c :: r).length ≤ l.length := by rw [← hd]; exact drop_len l
      have hbl : blankB c = false := by
        have := List.head?_dropWhile_not (p := blankB) (l := l)
        rw [hd] at this
        simpa using this
      cases ht : tokS (c :: r) with
      | none => rw [ht] at h; cases h
      | some k =>
        rw [ht] at h
        obtain ⟨L', hL', rfl⟩ := Option.map_eq_some_iff.1 h
        have hk := tokS_pos c r k hbl ht
        have hk2 := tokS_le _ _ ht
        cases n with
        | zero => simp at hn; subst hn; simp at hd
        | succ n =>
          have ih := toks_all n _ L' (by rw [List.length_drop]; simp at hle ⊢; omega) hL'
          intro t hm
          rcases List.mem_cons.1 hm with rfl | hm
          · refine ⟨?_, ?_⟩
            · obtain ⟨j, rfl⟩ : ∃ j, k = j + 1 := ⟨k - 1, by omega⟩
              simp
            · rw [List.length_take]; omega
          · have := ih t hm
            rw [List.length_drop] at this
            exact ⟨this.1, by omega⟩

/-- the limits of what is read -/
def Small (L : List (List UInt8)) (cmds : List PCmd) (c : PCmd) : Prop := (∀ t ∈ L, t ≠ [] ∧ t.length ≤ 65536) ∧ cmds.length + L.length ≤ 65536 ∧ c.words.length + L.length ≤ 65536

def lenOf : Value → Nat | .slice _ n _ => n | _ => 0

theorem nextS_len (op : List UInt8) (cmds : List PCmd) (c : PCmd) (bad : Bool) : (nextS op cmds c bad).1.length ≤ cmds.length + 1 := by
  unfold nextS
  split
  · simp
  · split <;> simp
theorem Small.next {t : List UInt8} {r : List (List UInt8)} {cmds : List PCmd} {c : PCmd} (h : Small (t :: r) cmds c) (op : List UInt8) (bad : Bool) : Small r (nextS op cmds c bad).1 (PCmd.fresh op) := by
  obtain ⟨h1, h2, h3⟩ := h
  have := nextS_len op cmds c bad
  simp only [List.length_cons] at h2 h3
  exact ⟨fun x hx => h1 x (List.mem_cons_of_mem _ hx), by omega, by simp only [PCmd.fresh, List.length_nil]; omega⟩
theorem Small.tail {t : List UInt8} {r : List (List UInt8)} {cmds : List PCmd} {c c' : PCmd} (h : Small (t :: r) cmds c) (hc : c'.words = c.words := by rfl) : Small r cmds c' := by
  obtain ⟨h1, h2, h3⟩ := h
  simp only [List.length_cons] at h2 h3
  exact ⟨fun x hx => h1 x (List.mem_cons_of_mem _ hx), by omega, by rw [hc]; omega⟩
theorem Small.word {t : List UInt8} {r : List (List UInt8)} {cmds : List PCmd} {c : PCmd} (h : Small (t :: r) cmds c) : Small r cmds { c with words := c.words ++ [meanW t] } := by
  obtain ⟨h1, h2, h3⟩ := h
  simp only [List.length_cons] at h2 h3
  exact ⟨fun x hx => h1 x (List.mem_cons_of_mem _ hx), by omega, by simp; omega⟩
theorem RSx.below {B : Nat} {K : Nat → Prop} {wv iv ov outv : Value} {xs : List Value} {cmds : List PCmd} {c : PCmd} {bad : Bool} {w w' : World} (h : RSx B K wv iv ov outv xs cmds c bad w) (hb : Below w.heap.size w w') : RSx B K wv iv ov outv xs cmds c bad w' := by
  have hl := h.ltB
  obtain ⟨r1, r2, r3⟩ := h.ro (w' := w') (fun k _ _ h _ _ => hb.block k h)
  exact ⟨(hb.block _ (by omega)).trans h.hO, (hb.block _ (by omega)).trans h.hC, (hb.block _ (by omega)).trans h.hB, fun k hK => ⟨(h.kr k hK).1, Nat.lt_of_lt_of_le (h.kr k hK).2 hb.size⟩, ownsRowF_heap h.wo (fun k e => hb.block k (h.wo.lt k e).2), ownsRowF_heap h.oo (fun k e => hb.block k (h.oo.lt k e).2), r1, r2, r3, h.wn, h.on⟩
theorem RS.start (w : World) : RS w.heap.size [] (PCmd.fresh []) false (((w.alloc (.cells #[.slice none 0 0] 41)).alloc (.cells #[.string ⟨#[]⟩, .slice none 0 0, .pointer none, .pointer none, .bool false] 90)).alloc (.cells #[.int .i64 0] 22)) := by
  refine ⟨fun _ => False, .slice none 0 0, .pointer none, .pointer none, .slice none 0 0, [], ?_, ?_, ?_, fun _ h => h.elim, World.ownsRowF_nil _ _ _ _, World.ownsRowF_nil _ _ _ _, rfl, rfl, rfl, fun k e => by simp [Value.ownBlock] at e, fun k e => by simp [Value.ownBlock] at e⟩
  · rw [Below.heap_alloc _ _ _ (by simp; omega), Below.heap_alloc _ _ _ (by simp)]
    exact heap_alloc_new w _
  · rw [Below.heap_alloc _ _ _ (by simp)]
    have := heap_alloc_new (w.alloc (.cells #[.slice none 0 0] 41)) (.cells #[.string ⟨#[]⟩, .slice none 0 0, .pointer none, .pointer none, .bool false] 90)
    rw [show (w.alloc (.cells #[.slice none 0 0] 41)).heap.size = w.heap.size + 1 by simp] at this
    exact this
  · have := heap_alloc_new ((w.alloc (.cells #[.slice none 0 0] 41)).alloc (.cells #[.string ⟨#[]⟩, .slice none 0 0, .pointer none, .pointer none, .bool false] 90)) (.cells #[.int .i64 0] 22)
    simpa using this

set_option maxHeartbeats 4000000 in
set_option maxRecDepth 100000 in
theorem read_any (s : ByteArray) (hs : s.size ≤ 140737488351232) (w : World) :
    Calls Tryz.prog 23 #[.string s] w fun e w' => ∃ v k, e = .returned (.tuple #[v, .int .i64 k]) ∧ ReadQ w.heap.size s.data.toList v k w' ∧ Below w.heap.size w w' := by
  have hl : s.data.toList.length = s.size := by simp
  obtain ⟨i0, hi0, hz0, hz1, hz2⟩ := info_parts strInfo
  by_cases hbig : 65536 < s.size
  · have hbi : (65536 : Int) < (s.size : Int) := by omega
    have hQ : ∀ w', Hid (ReadQ w.heap.size s.data.toList (.slice none 0 0) 5 w') := fun w' => Lib.hid (by
      unfold ReadQ ReadR readS
      rw [if_pos (by omega)]
      exact ⟨rfl, rfl, by decide⟩)
    clear hl
    go_enter Tryz.func23, Tryz.ntmps23
    go_wp2
    go_ret2
    exact ⟨_, _, rfl, (hQ _).out, Below.refl _ _⟩
  · have hbi : ¬ (65536 : Int) < (s.size : Int) := by omega
    have HT := Lib.hid (tokens_any s (by omega) w)
    have hRS : readS s.data.toList = match toksS s.data.toList with
      | none => .error 4
      | some [] => .ok []
      | some (t :: r) => readGo (t :: r) [] (PCmd.fresh []) false := by
      unfold readS
      rw [if_neg (by omega)]
      cases toksS s.data.toList with
      | none => rfl
      | some L => cases L <;> rfl
    unfold ToksQ at HT
    cases htk : toksS s.data.toList with
    | none =>
      rw [htk] at HT hRS
      have hQ : ∀ w', Hid (ReadQ w.heap.size s.data.toList (.slice none 0 0) 4 w') := fun w' => Lib.hid (by
        unfold ReadQ ReadR
        rw [hRS]
        exact ⟨rfl, rfl, by decide⟩)
      clear hRS htk hl
      go_enter Tryz.func23, Tryz.ntmps23
      go_wp2_with fail
      go_at_call 42
      refine HT.out.mono ?_
      rintro e w1 ⟨v, k, rfl, ⟨rfl, rfl⟩, hb1⟩
      have HB1 := Lib.hid hb1
      clear hb1
      go_wp2
      go_ret2
      exact ⟨_, _, rfl, (hQ _).out, HB1.out⟩
    | some L =>
      rw [htk] at HT hRS
      have hall := toks_all _ _ _ (Nat.le_refl _) htk
      cases L with
      | nil =>
        have hQ : ∀ w', Hid (ReadQ w.heap.size s.data.toList (.slice none 0 0) 0 w') := fun w' => Lib.hid (by
          unfold ReadQ ReadR
          rw [hRS]
          exact ⟨rfl, [], SlAt.zero _ _ _ _ _ _, rfl⟩)
        clear hRS htk hl hall
        go_enter Tryz.func23, Tryz.ntmps23
        go_wp2_with fail
        go_at_call 42
        refine HT.out.mono ?_
        rintro e w1 ⟨v, k, rfl, ⟨rfl, _, hown⟩, hb1⟩
        obtain ⟨a, c, rfl⟩ := own_slice hown
        have HB1 := Lib.hid hb1
        clear hb1 hown
        go_wp2
        go_ret2
        exact ⟨_, _, rfl, (hQ _).out, HB1.out⟩
      | cons t0 r0 =>
        have hQ : Hid (readS s.data.toList = readGo (t0 :: r0) [] (PCmd.fresh []) false) := Lib.hid hRS
        have HAll := Lib.hid hall
        have HSz : Hid (s.data.toList.length ≤ 65536) := Lib.hid (by omega)
        clear hRS htk hall hl
        go_enter Tryz.func23, Tryz.ntmps23
        go_wp2_with fail
        go_at_call 42
        refine HT.out.mono ?_
        rintro e w1 ⟨v, k, rfl, ⟨rfl, hlen, hown⟩, hb1⟩
        have HStr : Hid (StrsAt (fun k => w.heap.size ≤ k ∧ k < w1.heap.size) w1 v (t0 :: r0)) := Lib.hid (SlAt.of_own hown (fun k e => hown.lt k e))
        have HSm : Hid (Small (t0 :: r0) [] (PCmd.fresh [])) := Lib.hid ⟨fun t h => ⟨(HAll.out t h).1, by have := (HAll.out t h).2; have := HSz.out; omega⟩, by have := HSz.out; simp only [List.length_nil] at *; omega, by have := HSz.out; simp only [PCmd.fresh, List.length_nil] at *; omega⟩
        obtain ⟨a, c, rfl⟩ := own_slice hown
        have HB1 := Lib.hid hb1
        clear hb1 hown hlen HAll HSz HT
        go_wp2
        have hB2 : Hid (RS w1.heap.size [] (PCmd.fresh []) false (((w1.alloc (.cells #[.slice none 0 0] 41)).alloc (.cells #[.string ⟨#[]⟩, .slice none 0 0, .pointer none, .pointer none, .bool false] 90)).alloc (.cells #[.int .i64 0] 22))) := Lib.hid (RS.start w1)
        have hB3 : Hid (Below w.heap.size w (((w1.alloc (.cells #[.slice none 0 0] 41)).alloc (.cells #[.string ⟨#[]⟩, .slice none 0 0, .pointer none, .pointer none, .bool false] 90)).alloc (.cells #[.int .i64 0] 22))) := Lib.hid (((HB1.out.alloc HB1.out.size _).alloc (by have := HB1.out.size; simp; omega) _).alloc (by have := HB1.out.size; simp; omega) _)
        have hB4 : Hid (StrsAt (fun k => w.heap.size ≤ k ∧ k < w1.heap.size) (((w1.alloc (.cells #[.slice none 0 0] 41)).alloc (.cells #[.string ⟨#[]⟩, .slice none 0 0, .pointer none, .pointer none, .bool false] 90)).alloc (.cells #[.int .i64 0] 22)) (.slice a (r0.length + 1) c) (t0 :: r0)) := Lib.hid (SlAt.keep HStr.out (fun k _ hl => by rw [Below.heap_alloc _ _ _ (by simp; omega), Below.heap_alloc _ _ _ (by simp; omega), Below.heap_alloc _ _ _ hl]))
        go_loopw [4] (fun v4 wr => ∃ (L : List (List UInt8)) (cmds : List PCmd) (c : PCmd) (bad : Bool) (v : Value), v = v4 ∧ Hid (StrsAt (fun k => w.heap.size ≤ k ∧ k < w1.heap.size) wr v L) ∧ Hid (RS w1.heap.size cmds c bad wr) ∧ Hid (Below w.heap.size w wr) ∧ Hid (Small L cmds c) ∧ Hid (readGo (t0 :: r0) [] (PCmd.fresh []) false = readGo L cmds c bad)) (fun v4 _ => lenOf v4)
        case atStart => exact ⟨t0 :: r0, [], PCmd.fresh [], false, _, rfl, hB4, hB2, hB3, HSm, Lib.hid rfl⟩
        case round =>
          obtain ⟨L, cmds, c, bad, v4, rfl, HV, HS, HB, HM, HR⟩ := hrel
          clear hB2 hB3 hB4 HStr HSm
          cases L with
          | nil =>
            obtain ⟨a0, c0, rfl⟩ := HV.out.isSlice
            have HL : Hid (cmds.length ≤ 1048576) := Lib.hid (by have := HM.out.2.1; omega)
            go_wp2_with fail
            obtain ⟨K, wv, iv, ov, outv, xs, hx⟩ := HS.out
            refine (next_any [] _ hx HL.out).mono ?_
            rintro e w3 ⟨rfl, hrs, hbl⟩
            obtain ⟨K3, wv3, iv3, ov3, outv3, xs3, hx3⟩ := hrs
            have HB3 := Lib.hid (HB.out.trans (hbl.mono HB1.out.size))
            have e2 : w3.cell? ⟨w1.heap.size + 1 + 1, 0, none⟩ = some (.int .i64 (if (nextS [] cmds c bad).2 then 3 else 0)) := Lib.cell_of_heap hx3.hB 0
            have e0 : w3.cell? ⟨w1.heap.size, 0, none⟩ = some outv3 := Lib.cell_of_heap hx3.hO 0
            cases hbd : (nextS [] cmds c bad).2 with
            | true =>
              rw [hbd, if_pos rfl] at e2
              have HQ : ∀ w', Hid (ReadQ w.heap.size s.data.toList (.slice none 0 0) 3 w') := fun w' => Lib.hid (by
                unfold ReadQ ReadR
                rw [hQ.out, HR.out, readGo, if_pos hbd]
                exact ⟨rfl, rfl, by decide⟩)
              have HB4 : ∀ n, Hid (Below w.heap.size w (w3.drewN n)) := fun n => Lib.hid (HB3.out.trans ((belowN w3 n).mono HB3.out.size))
              clear hx hx3 hbl hbd
              go_wp2
              go_quiet (fail)
              go_wp2
              go_ret2
              exact ⟨_, _, rfl, (HQ _).out, (HB4 _).out⟩
            | false =>
              rw [hbd, if_neg (by simp)] at e2
              have HQ : Hid (ReadQ w.heap.size s.data.toList outv3 0 w3) := Lib.hid (by
                unfold ReadQ ReadR
                rw [hQ.out, HR.out, readGo, if_neg (by rw [hbd]; simp)]
                have hb1 := HB1.out.size
                exact ⟨rfl, xs3, SlAt.of_own hx3.oo (fun k e => by have := (hx3.on k e).1; omega), hx3.ci.mono (fun k hK _ => by have := (hx3.kr k hK).1; omega)⟩)
              clear hx hx3 hbl hbd
              go_wp2
              go_ret2
              exact ⟨_, _, rfl, HQ.out, HB3.out⟩
          | cons t r =>
            obtain ⟨g, o, cap, rfl, hcap, hK, hg, hc0, hc1, hT⟩ := StrsAt.cons HV.out
            obtain ⟨a', ha', hsl⟩ := slice_tail g o r.length cap hcap
            have HT2 := Lib.hid (hT a' (cap - 1) (fun h => ha' (by simpa using h)) (by omega))
            have HL : Hid (cmds.length ≤ 1048576) := Lib.hid (by have := HM.out.2.1; omega)
            clear hT HV
            by_cases h1 : t = [59]
            · have h := h1
              clear h1
              subst h
              have HN : Hid (readGo (t0 :: r0) [] (PCmd.fresh []) false = readGo r (nextS [59] cmds c bad).1 (PCmd.fresh [59]) (nextS [59] cmds c bad).2) := Lib.hid (by rw [HR.out, readGo_sep _ _ _ _ _ (by simp)])
              go_wp2_with fail
              obtain ⟨K, wv, iv, ov, outv, xs, hx⟩ := HS.out
              refine (next_any [59] _ hx HL.out).mono ?_
              rintro e w3 ⟨rfl, hrs, hbl⟩
              have HS3 := Lib.hid hrs
              have HB3 := Lib.hid (HB.out.trans (hbl.mono (Nat.le_trans HB1.out.size (Nat.le_refl _))))
              have HV3 : Hid (StrsAt (fun k => w.heap.size ≤ k ∧ k < w1.heap.size) w3 (.slice a' r.length (cap - 1)) r) := Lib.hid (SlAt.keep HT2.out (fun k hk _ => hbl.block k hk.2))
              have HM3 : Hid (Small r (nextS [59] cmds c bad).1 (PCmd.fresh [59])) := Lib.hid (HM.out.next [59] bad)
              clear hx hrs hbl
              go_wp2
              go_roundw
              case rel => first | exact ⟨r, _, _, _, _, rfl, HV3, HS3, HB3, HM3, HN⟩ | ((repeat apply Exists.intro); exact ⟨⟨r, _, _, _, _, rfl, HV3, HS3, HB3, HM3, HN⟩, rfl⟩)
              case measure => simp [lenOf]
            by_cases h2 : t = [38, 38]
            · have h := h2
              clear h2
              subst h
              have HN : Hid (readGo (t0 :: r0) [] (PCmd.fresh []) false = readGo r (nextS [38, 38] cmds c bad).1 (PCmd.fresh [38, 38]) (nextS [38, 38] cmds c bad).2) := Lib.hid (by rw [HR.out, readGo_sep _ _ _ _ _ (by simp)])
              go_wp2_with fail
              obtain ⟨K, wv, iv, ov, outv, xs, hx⟩ := HS.out
              refine (next_any [38, 38] _ hx HL.out).mono ?_
              rintro e w3 ⟨rfl, hrs, hbl⟩
              have HS3 := Lib.hid hrs
              have HB3 := Lib.hid (HB.out.trans (hbl.mono (Nat.le_trans HB1.out.size (Nat.le_refl _))))
              have HV3 : Hid (StrsAt (fun k => w.heap.size ≤ k ∧ k < w1.heap.size) w3 (.slice a' r.length (cap - 1)) r) := Lib.hid (SlAt.keep HT2.out (fun k hk _ => hbl.block k hk.2))
              have HM3 : Hid (Small r (nextS [38, 38] cmds c bad).1 (PCmd.fresh [38, 38])) := Lib.hid (HM.out.next [38, 38] bad)
              clear hx hrs hbl
              go_wp2
              go_roundw
              case rel => first | exact ⟨r, _, _, _, _, rfl, HV3, HS3, HB3, HM3, HN⟩ | ((repeat apply Exists.intro); exact ⟨⟨r, _, _, _, _, rfl, HV3, HS3, HB3, HM3, HN⟩, rfl⟩)
              case measure => simp [lenOf]
            by_cases h3 : t = [124, 124]
            · have h := h3
              clear h3
              subst h
              have HN : Hid (readGo (t0 :: r0) [] (PCmd.fresh []) false = readGo r (nextS [124, 124] cmds c bad).1 (PCmd.fresh [124, 124]) (nextS [124, 124] cmds c bad).2) := Lib.hid (by rw [HR.out, readGo_sep _ _ _ _ _ (by simp)])
              go_wp2_with fail
              obtain ⟨K, wv, iv, ov, outv, xs, hx⟩ := HS.out
              refine (next_any [124, 124] _ hx HL.out).mono ?_
              rintro e w3 ⟨rfl, hrs, hbl⟩
              have HS3 := Lib.hid hrs
              have HB3 := Lib.hid (HB.out.trans (hbl.mono (Nat.le_trans HB1.out.size (Nat.le_refl _))))
              have HV3 : Hid (StrsAt (fun k => w.heap.size ≤ k ∧ k < w1.heap.size) w3 (.slice a' r.length (cap - 1)) r) := Lib.hid (SlAt.keep HT2.out (fun k hk _ => hbl.block k hk.2))
              have HM3 : Hid (Small r (nextS [124, 124] cmds c bad).1 (PCmd.fresh [124, 124])) := Lib.hid (HM.out.next [124, 124] bad)
              clear hx hrs hbl
              go_wp2
              go_roundw
              case rel => first | exact ⟨r, _, _, _, _, rfl, HV3, HS3, HB3, HM3, HN⟩ | ((repeat apply Exists.intro); exact ⟨⟨r, _, _, _, _, rfl, HV3, HS3, HB3, HM3, HN⟩, rfl⟩)
              case measure => simp [lenOf]
            by_cases h4 : t = [38]
            · have h := h4
              clear h4
              subst h
              have HN : Hid (readGo (t0 :: r0) [] (PCmd.fresh []) false = readGo r cmds c true) := Lib.hid (by rw [HR.out, readGo_bad _ _ _ _ _ (by simp)])
              obtain ⟨K, wv, iv, ov, outv, xs, hx⟩ := HS.out
              have e2 : wr.cell? ⟨w1.heap.size + 1 + 1, 0, none⟩ = some _ := Lib.cell_of_heap hx.hB 0
              have f2 : wr.frozen? ⟨w1.heap.size + 1 + 1, 0, none⟩ = false := Lib.frozen_of_heap hx.hB 0
              have HS3 : Hid (RS w1.heap.size cmds c true (wr.setCell ⟨w1.heap.size + 1 + 1, 0, none⟩ (.int .i64 3))) := Lib.hid ⟨_, _, _, _, _, _, hx.wrong⟩
              have HB3 : Hid (Below w.heap.size w (wr.setCell ⟨w1.heap.size + 1 + 1, 0, none⟩ (.int .i64 3))) := Lib.hid (HB.out.setCell (p := ⟨w1.heap.size + 1 + 1, 0, none⟩) (by have := HB1.out.size; show _ ≤ w1.heap.size + 1 + 1; omega) _)
              have HV3 : Hid (StrsAt (fun k => w.heap.size ≤ k ∧ k < w1.heap.size) (wr.setCell ⟨w1.heap.size + 1 + 1, 0, none⟩ (.int .i64 3)) (.slice a' r.length (cap - 1)) r) := Lib.hid (SlAt.keep HT2.out (fun k hk _ => Below.heap_setCell _ _ _ _ (by have := hk.2; show k ≠ w1.heap.size + 1 + 1; omega)))
              have HM3 : Hid (Small r cmds c) := Lib.hid HM.out.tail
              clear hx
              go_wp2
              go_roundw
              case rel => first | exact ⟨r, _, _, _, _, rfl, HV3, HS3, HB3, HM3, HN⟩ | ((repeat apply Exists.intro); exact ⟨⟨r, _, _, _, _, rfl, HV3, HS3, HB3, HM3, HN⟩, rfl⟩)
              case measure => simp [lenOf]
            by_cases h5 : t = [124]
            · have h := h5
              clear h5
              subst h
              have HN : Hid (readGo (t0 :: r0) [] (PCmd.fresh []) false = readGo r cmds c true) := Lib.hid (by rw [HR.out, readGo_bad _ _ _ _ _ (by simp)])
              obtain ⟨K, wv, iv, ov, outv, xs, hx⟩ := HS.out
              have e2 : wr.cell? ⟨w1.heap.size + 1 + 1, 0, none⟩ = some _ := Lib.cell_of_heap hx.hB 0
              have f2 : wr.frozen? ⟨w1.heap.size + 1 + 1, 0, none⟩ = false := Lib.frozen_of_heap hx.hB 0
              have HS3 : Hid (RS w1.heap.size cmds c true (wr.setCell ⟨w1.heap.size + 1 + 1, 0, none⟩ (.int .i64 3))) := Lib.hid ⟨_, _, _, _, _, _, hx.wrong⟩
              have HB3 : Hid (Below w.heap.size w (wr.setCell ⟨w1.heap.size + 1 + 1, 0, none⟩ (.int .i64 3))) := Lib.hid (HB.out.setCell (p := ⟨w1.heap.size + 1 + 1, 0, none⟩) (by have := HB1.out.size; show _ ≤ w1.heap.size + 1 + 1; omega) _)
              have HV3 : Hid (StrsAt (fun k => w.heap.size ≤ k ∧ k < w1.heap.size) (wr.setCell ⟨w1.heap.size + 1 + 1, 0, none⟩ (.int .i64 3)) (.slice a' r.length (cap - 1)) r) := Lib.hid (SlAt.keep HT2.out (fun k hk _ => Below.heap_setCell _ _ _ _ (by have := hk.2; show k ≠ w1.heap.size + 1 + 1; omega)))
              have HM3 : Hid (Small r cmds c) := Lib.hid HM.out.tail
              clear hx
              go_wp2
              go_roundw
              case rel => first | exact ⟨r, _, _, _, _, rfl, HV3, HS3, HB3, HM3, HN⟩ | ((repeat apply Exists.intro); exact ⟨⟨r, _, _, _, _, rfl, HV3, HS3, HB3, HM3, HN⟩, rfl⟩)
              case measure => simp [lenOf]
            by_cases h6 : t = [60]
            · have h := h6
              clear h6
              subst h
              cases r with
              | nil =>
                have HQ : ∀ w', Hid (ReadQ w.heap.size s.data.toList (.slice none 0 0) 4 w') := fun w' => Lib.hid (by
                  unfold ReadQ ReadR
                  rw [hQ.out, HR.out, readGo_end _ _ _ _ (by simp)]
                  exact ⟨rfl, rfl, by decide⟩)
                go_wp2
                go_ret2
                exact ⟨_, _, rfl, (HQ _).out, HB.out⟩
              | cons u r =>
                have c1 := hc1 u r rfl
                obtain rfl := ha' (by simp)
                obtain ⟨g2, o2, cap2, hv2, hcap2, _, _, hd0, _, hT3⟩ := StrsAt.cons HT2.out
                injection hv2 with hv2 _ hcc
                injection hv2 with hv2
                injection hv2 with hg2 ho2 _
                subst hg2
                subst ho2
                subst hcc
                obtain ⟨a2, ha2, hsl2⟩ := slice_tail g (o + 1) r.length (cap - 1) hcap2
                have HT4 := Lib.hid (hT3 a2 (cap - 1 - 1) (fun h => ha2 (by simpa using h)) (by omega))
                have hune := (HM.out.1 u (by simp)).1
                have hul := (HM.out.1 u (by simp)).2
                have hus : (⟨u.toArray⟩ : ByteArray).size = u.length := by show u.toArray.size = _; simp
                have hup : 0 < (⟨u.toArray⟩ : ByteArray).size := by
                  rw [hus]
                  cases u with
                  | nil => exact absurd rfl hune
                  | cons _ _ => simp
                have HI : Hid (∀ w, Calls Tryz.prog 45 #[.string ⟨u.toArray⟩] w fun e w' => e = .returned (.bool (opB (u.getD 0 0))) ∧ w = w') := Lib.hid (fun w => isOp_any ⟨u.toArray⟩ hup w)
                have HMe : Hid (∀ w, Calls Tryz.prog 46 #[.string ⟨u.toArray⟩] w fun e w' => e = .returned (meanV u) ∧ Below w.heap.size w w') := Lib.hid (fun w => mean_any ⟨u.toArray⟩ (by rw [hus]; omega) w)
                obtain ⟨mk, hmk⟩ := meanV_word u
                rw [hmk] at HMe
                clear hT3 hc1 hus hup hune hul hmk
                cases hu : opB (u.getD 0 0) with
                | true =>
                  rw [hu] at HI
                  have HQ : ∀ w', Hid (ReadQ w.heap.size s.data.toList (.slice none 0 0) 4 w') := fun w' => Lib.hid (by
                    unfold ReadQ ReadR
                    rw [hQ.out, HR.out, readGo_op _ _ _ _ _ _ (by simp) hu]
                    exact ⟨rfl, rfl, by decide⟩)
                  clear hu
                  go_wp2_with fail
                  go_at_call 45
                  refine (HI.out _).mono ?_
                  rintro e w3 ⟨rfl, rfl⟩
                  go_wp2
                  go_ret2
                  exact ⟨_, _, rfl, (HQ _).out, HB.out⟩
                | false =>
                  rw [hu] at HI
                  have HN : Hid (readGo (t0 :: r0) [] (PCmd.fresh []) false = readGo r cmds { c with inn := some (meanW u) } bad) := Lib.hid (by rw [HR.out, readGo_in _ _ _ _ _ hu])
                  clear hu
                  go_wp2_with fail
                  go_at_call 45
                  refine (HI.out _).mono ?_
                  rintro e w3 ⟨rfl, rfl⟩
                  go_wp2_with fail
                  go_at_call 46
                  refine (HMe.out _).mono ?_
                  rintro e w3 ⟨rfl, hb3⟩
                  obtain ⟨K, wv, iv, ov, outv, xs, hx⟩ := HS.out
                  have hx3 := hx.below hb3
                  have d2 : (w3.alloc (.cells #[.string ⟨(meanW u).toArray⟩] 9)).cell? ⟨w1.heap.size + 1, 2, none⟩ = some _ := Lib.cell_of_heap ((Lib.alloc_old w3 _ _ (by have := hx3.ltB; omega)).trans hx3.hC) 2
                  have f2 : (w3.alloc (.cells #[.string ⟨(meanW u).toArray⟩] 9)).frozen? ⟨w1.heap.size + 1, 2, none⟩ = false := Lib.frozen_of_heap ((Lib.alloc_old w3 _ _ (by have := hx3.ltB; omega)).trans hx3.hC) 2
                  have HS3 : Hid (RS w1.heap.size cmds { c with inn := some (meanW u) } bad ((w3.alloc (.cells #[.string ⟨(meanW u).toArray⟩] 9)).setCell ⟨w1.heap.size + 1, 2, none⟩ (.pointer (some ⟨w3.heap.size, 0, none⟩)))) := Lib.hid ⟨_, _, _, _, _, _, hx3.reads (by simp) (fun k hk => Lib.alloc_old w3 _ k hk) (heap_alloc_new w3 _)⟩
                  have HB3 : Hid (Below w.heap.size w ((w3.alloc (.cells #[.string ⟨(meanW u).toArray⟩] 9)).setCell ⟨w1.heap.size + 1, 2, none⟩ (.pointer (some ⟨w3.heap.size, 0, none⟩)))) := Lib.hid (((HB.out.trans (hb3.mono HB.out.size)).alloc (Nat.le_trans HB.out.size hb3.size) _).setCell (p := ⟨w1.heap.size + 1, 2, none⟩) (by have := HB1.out.size; show _ ≤ w1.heap.size + 1; omega) _)
                  have HV3 : Hid (StrsAt (fun k => w.heap.size ≤ k ∧ k < w1.heap.size) ((w3.alloc (.cells #[.string ⟨(meanW u).toArray⟩] 9)).setCell ⟨w1.heap.size + 1, 2, none⟩ (.pointer (some ⟨w3.heap.size, 0, none⟩))) (.slice a2 r.length (cap - 1 - 1)) r) := Lib.hid (SlAt.keep (SlAt.keep HT4.out (fun k hk hl => hb3.block k hl)) (fun k hk _ => by rw [Below.heap_setCell _ _ _ _ (by have := hk.2; show k ≠ w1.heap.size + 1; omega), Lib.alloc_old _ _ _ (by have := hk.2; have := hx.ltB; have := hb3.size; omega)]))
                  have HM3 : Hid (Small r cmds { c with inn := some (meanW u) }) := Lib.hid HM.out.tail.tail
                  clear hx hx3 hb3
                  go_wp2
                  go_roundw
                  case rel => first | exact ⟨r, _, _, _, _, rfl, HV3, HS3, HB3, HM3, HN⟩ | ((repeat apply Exists.intro); exact ⟨⟨r, _, _, _, _, rfl, HV3, HS3, HB3, HM3, HN⟩, rfl⟩)
                  case measure => simp [lenOf]; omega
            by_cases h7 : t = [62]
            · have h := h7
              clear h7
              subst h
              cases r with
              | nil =>
                have HQ : ∀ w', Hid (ReadQ w.heap.size s.data.toList (.slice none 0 0) 4 w') := fun w' => Lib.hid (by
                  unfold ReadQ ReadR
                  rw [hQ.out, HR.out, readGo_end _ _ _ _ (by simp)]
                  exact ⟨rfl, rfl, by decide⟩)
                go_wp2
                go_ret2
                exact ⟨_, _, rfl, (HQ _).out, HB.out⟩
              | cons u r =>
                have c1 := hc1 u r rfl
                obtain rfl := ha' (by simp)
                obtain ⟨g2, o2, cap2, hv2, hcap2, _, _, hd0, _, hT3⟩ := StrsAt.cons HT2.out
                injection hv2 with hv2 _ hcc
                injection hv2 with hv2
                injection hv2 with hg2 ho2 _
                subst hg2
                subst ho2
                subst hcc
                obtain ⟨a2, ha2, hsl2⟩ := slice_tail g (o + 1) r.length (cap - 1) hcap2
                have HT4 := Lib.hid (hT3 a2 (cap - 1 - 1) (fun h => ha2 (by simpa using h)) (by omega))
                have hune := (HM.out.1 u (by simp)).1
                have hul := (HM.out.1 u (by simp)).2
                have hus : (⟨u.toArray⟩ : ByteArray).size = u.length := by show u.toArray.size = _; simp
                have hup : 0 < (⟨u.toArray⟩ : ByteArray).size := by
                  rw [hus]
                  cases u with
                  | nil => exact absurd rfl hune
                  | cons _ _ => simp
                have HI : Hid (∀ w, Calls Tryz.prog 45 #[.string ⟨u.toArray⟩] w fun e w' => e = .returned (.bool (opB (u.getD 0 0))) ∧ w = w') := Lib.hid (fun w => isOp_any ⟨u.toArray⟩ hup w)
                have HMe : Hid (∀ w, Calls Tryz.prog 46 #[.string ⟨u.toArray⟩] w fun e w' => e = .returned (meanV u) ∧ Below w.heap.size w w') := Lib.hid (fun w => mean_any ⟨u.toArray⟩ (by rw [hus]; omega) w)
                obtain ⟨mk, hmk⟩ := meanV_word u
                rw [hmk] at HMe
                clear hT3 hc1 hus hup hune hul hmk
                cases hu : opB (u.getD 0 0) with
                | true =>
                  rw [hu] at HI
                  have HQ : ∀ w', Hid (ReadQ w.heap.size s.data.toList (.slice none 0 0) 4 w') := fun w' => Lib.hid (by
                    unfold ReadQ ReadR
                    rw [hQ.out, HR.out, readGo_op _ _ _ _ _ _ (by simp) hu]
                    exact ⟨rfl, rfl, by decide⟩)
                  clear hu
                  go_wp2_with fail
                  go_at_call 45
                  refine (HI.out _).mono ?_
                  rintro e w3 ⟨rfl, rfl⟩
                  go_wp2
                  go_ret2
                  exact ⟨_, _, rfl, (HQ _).out, HB.out⟩
                | false =>
                  rw [hu] at HI
                  have HN : Hid (readGo (t0 :: r0) [] (PCmd.fresh []) false = readGo r cmds { c with out := some (meanW u), add := false } bad) := Lib.hid (by rw [HR.out, readGo_out _ _ _ _ _ _ (by simp) hu]; rfl)
                  clear hu
                  go_wp2_with fail
                  go_at_call 45
                  refine (HI.out _).mono ?_
                  rintro e w3 ⟨rfl, rfl⟩
                  go_wp2_with fail
                  go_at_call 46
                  refine (HMe.out _).mono ?_
                  rintro e w3 ⟨rfl, hb3⟩
                  obtain ⟨K, wv, iv, ov, outv, xs, hx⟩ := HS.out
                  have hx3 := hx.below hb3
                  have d3 : (w3.alloc (.cells #[.string ⟨(meanW u).toArray⟩] 9)).cell? ⟨w1.heap.size + 1, 3, none⟩ = some _ := Lib.cell_of_heap ((Lib.alloc_old w3 _ _ (by have := hx3.ltB; omega)).trans hx3.hC) 3
                  have f3 : (w3.alloc (.cells #[.string ⟨(meanW u).toArray⟩] 9)).frozen? ⟨w1.heap.size + 1, 3, none⟩ = false := Lib.frozen_of_heap ((Lib.alloc_old w3 _ _ (by have := hx3.ltB; omega)).trans hx3.hC) 3
                  have d4 : (w3.alloc (.cells #[.string ⟨(meanW u).toArray⟩] 9)).cell? ⟨w1.heap.size + 1, 4, none⟩ = some _ := Lib.cell_of_heap ((Lib.alloc_old w3 _ _ (by have := hx3.ltB; omega)).trans hx3.hC) 4
                  have f4 : (w3.alloc (.cells #[.string ⟨(meanW u).toArray⟩] 9)).frozen? ⟨w1.heap.size + 1, 4, none⟩ = false := Lib.frozen_of_heap ((Lib.alloc_old w3 _ _ (by have := hx3.ltB; omega)).trans hx3.hC) 4
                  have HS3 : Hid (RS w1.heap.size cmds { c with out := some (meanW u), add := false } bad (((w3.alloc (.cells #[.string ⟨(meanW u).toArray⟩] 9)).setCell ⟨w1.heap.size + 1, 3, none⟩ (.pointer (some ⟨w3.heap.size, 0, none⟩))).setCell ⟨w1.heap.size + 1, 4, none⟩ (.bool false))) := Lib.hid ⟨_, _, _, _, _, _, hx3.writes (by simp) (fun k hk => Lib.alloc_old w3 _ k hk) (heap_alloc_new w3 _)⟩
                  have HB3 : Hid (Below w.heap.size w (((w3.alloc (.cells #[.string ⟨(meanW u).toArray⟩] 9)).setCell ⟨w1.heap.size + 1, 3, none⟩ (.pointer (some ⟨w3.heap.size, 0, none⟩))).setCell ⟨w1.heap.size + 1, 4, none⟩ (.bool false))) := Lib.hid ((((HB.out.trans (hb3.mono HB.out.size)).alloc (Nat.le_trans HB.out.size hb3.size) _).setCell (p := ⟨w1.heap.size + 1, 3, none⟩) (by have := HB1.out.size; show _ ≤ w1.heap.size + 1; omega) _).setCell (p := ⟨w1.heap.size + 1, 4, none⟩) (by have := HB1.out.size; show _ ≤ w1.heap.size + 1; omega) _)
                  have HV3 : Hid (StrsAt (fun k => w.heap.size ≤ k ∧ k < w1.heap.size) (((w3.alloc (.cells #[.string ⟨(meanW u).toArray⟩] 9)).setCell ⟨w1.heap.size + 1, 3, none⟩ (.pointer (some ⟨w3.heap.size, 0, none⟩))).setCell ⟨w1.heap.size + 1, 4, none⟩ (.bool false)) (.slice a2 r.length (cap - 1 - 1)) r) := Lib.hid (SlAt.keep (SlAt.keep HT4.out (fun k hk hl => hb3.block k hl)) (fun k hk _ => by rw [Below.heap_setCell _ _ _ _ (by have := hk.2; show k ≠ w1.heap.size + 1; omega), Below.heap_setCell _ _ _ _ (by have := hk.2; show k ≠ w1.heap.size + 1; omega), Lib.alloc_old _ _ _ (by have := hk.2; have := hx.ltB; have := hb3.size; omega)]))
                  have HM3 : Hid (Small r cmds { c with out := some (meanW u), add := false }) := Lib.hid HM.out.tail.tail
                  clear hx hx3 hb3
                  go_wp2
                  go_roundw
                  case rel => first | exact ⟨r, _, _, _, _, rfl, HV3, HS3, HB3, HM3, HN⟩ | ((repeat apply Exists.intro); exact ⟨⟨r, _, _, _, _, rfl, HV3, HS3, HB3, HM3, HN⟩, rfl⟩)
                  case measure => simp [lenOf]; omega
            by_cases h8 : t = [62, 62]
            · have h := h8
              clear h8
              subst h
              cases r with
              | nil =>
                have HQ : ∀ w', Hid (ReadQ w.heap.size s.data.toList (.slice none 0 0) 4 w') := fun w' => Lib.hid (by
                  unfold ReadQ ReadR
                  rw [hQ.out, HR.out, readGo_end _ _ _ _ (by simp)]
                  exact ⟨rfl, rfl, by decide⟩)
                go_wp2
                go_ret2
                exact ⟨_, _, rfl, (HQ _).out, HB.out⟩
              | cons u r =>
                have c1 := hc1 u r rfl
                obtain rfl := ha' (by simp)
                obtain ⟨g2, o2, cap2, hv2, hcap2, _, _, hd0, _, hT3⟩ := StrsAt.cons HT2.out
                injection hv2 with hv2 _ hcc
                injection hv2 with hv2
                injection hv2 with hg2 ho2 _
                subst hg2
                subst ho2
                subst hcc
                obtain ⟨a2, ha2, hsl2⟩ := slice_tail g (o + 1) r.length (cap - 1) hcap2
                have HT4 := Lib.hid (hT3 a2 (cap - 1 - 1) (fun h => ha2 (by simpa using h)) (by omega))
                have hune := (HM.out.1 u (by simp)).1
                have hul := (HM.out.1 u (by simp)).2
                have hus : (⟨u.toArray⟩ : ByteArray).size = u.length := by show u.toArray.size = _; simp
                have hup : 0 < (⟨u.toArray⟩ : ByteArray).size := by
                  rw [hus]
                  cases u with
                  | nil => exact absurd rfl hune
                  | cons _ _ => simp
                have HI : Hid (∀ w, Calls Tryz.prog 45 #[.string ⟨u.toArray⟩] w fun e w' => e = .returned (.bool (opB (u.getD 0 0))) ∧ w = w') := Lib.hid (fun w => isOp_any ⟨u.toArray⟩ hup w)
                have HMe : Hid (∀ w, Calls Tryz.prog 46 #[.string ⟨u.toArray⟩] w fun e w' => e = .returned (meanV u) ∧ Below w.heap.size w w') := Lib.hid (fun w => mean_any ⟨u.toArray⟩ (by rw [hus]; omega) w)
                obtain ⟨mk, hmk⟩ := meanV_word u
                rw [hmk] at HMe
                clear hT3 hc1 hus hup hune hul hmk
                cases hu : opB (u.getD 0 0) with
                | true =>
                  rw [hu] at HI
                  have HQ : ∀ w', Hid (ReadQ w.heap.size s.data.toList (.slice none 0 0) 4 w') := fun w' => Lib.hid (by
                    unfold ReadQ ReadR
                    rw [hQ.out, HR.out, readGo_op _ _ _ _ _ _ (by simp) hu]
                    exact ⟨rfl, rfl, by decide⟩)
                  clear hu
                  go_wp2_with fail
                  go_at_call 45
                  refine (HI.out _).mono ?_
                  rintro e w3 ⟨rfl, rfl⟩
                  go_wp2
                  go_ret2
                  exact ⟨_, _, rfl, (HQ _).out, HB.out⟩
                | false =>
                  rw [hu] at HI
                  have HN : Hid (readGo (t0 :: r0) [] (PCmd.fresh []) false = readGo r cmds { c with out := some (meanW u), add := true } bad) := Lib.hid (by rw [HR.out, readGo_out _ _ _ _ _ _ (by simp) hu]; rfl)
                  clear hu
                  go_wp2_with fail
                  go_at_call 45
                  refine (HI.out _).mono ?_
                  rintro e w3 ⟨rfl, rfl⟩
                  go_wp2_with fail
                  go_at_call 46
                  refine (HMe.out _).mono ?_
                  rintro e w3 ⟨rfl, hb3⟩
                  obtain ⟨K, wv, iv, ov, outv, xs, hx⟩ := HS.out
                  have hx3 := hx.below hb3
                  have d3 : (w3.alloc (.cells #[.string ⟨(meanW u).toArray⟩] 9)).cell? ⟨w1.heap.size + 1, 3, none⟩ = some _ := Lib.cell_of_heap ((Lib.alloc_old w3 _ _ (by have := hx3.ltB; omega)).trans hx3.hC) 3
                  have f3 : (w3.alloc (.cells #[.string ⟨(meanW u).toArray⟩] 9)).frozen? ⟨w1.heap.size + 1, 3, none⟩ = false := Lib.frozen_of_heap ((Lib.alloc_old w3 _ _ (by have := hx3.ltB; omega)).trans hx3.hC) 3
                  have d4 : (w3.alloc (.cells #[.string ⟨(meanW u).toArray⟩] 9)).cell? ⟨w1.heap.size + 1, 4, none⟩ = some _ := Lib.cell_of_heap ((Lib.alloc_old w3 _ _ (by have := hx3.ltB; omega)).trans hx3.hC) 4
                  have f4 : (w3.alloc (.cells #[.string ⟨(meanW u).toArray⟩] 9)).frozen? ⟨w1.heap.size + 1, 4, none⟩ = false := Lib.frozen_of_heap ((Lib.alloc_old w3 _ _ (by have := hx3.ltB; omega)).trans hx3.hC) 4
                  have HS3 : Hid (RS w1.heap.size cmds { c with out := some (meanW u), add := true } bad (((w3.alloc (.cells #[.string ⟨(meanW u).toArray⟩] 9)).setCell ⟨w1.heap.size + 1, 3, none⟩ (.pointer (some ⟨w3.heap.size, 0, none⟩))).setCell ⟨w1.heap.size + 1, 4, none⟩ (.bool true))) := Lib.hid ⟨_, _, _, _, _, _, hx3.writes (by simp) (fun k hk => Lib.alloc_old w3 _ k hk) (heap_alloc_new w3 _)⟩
                  have HB3 : Hid (Below w.heap.size w (((w3.alloc (.cells #[.string ⟨(meanW u).toArray⟩] 9)).setCell ⟨w1.heap.size + 1, 3, none⟩ (.pointer (some ⟨w3.heap.size, 0, none⟩))).setCell ⟨w1.heap.size + 1, 4, none⟩ (.bool true))) := Lib.hid ((((HB.out.trans (hb3.mono HB.out.size)).alloc (Nat.le_trans HB.out.size hb3.size) _).setCell (p := ⟨w1.heap.size + 1, 3, none⟩) (by have := HB1.out.size; show _ ≤ w1.heap.size + 1; omega) _).setCell (p := ⟨w1.heap.size + 1, 4, none⟩) (by have := HB1.out.size; show _ ≤ w1.heap.size + 1; omega) _)
                  have HV3 : Hid (StrsAt (fun k => w.heap.size ≤ k ∧ k < w1.heap.size) (((w3.alloc (.cells #[.string ⟨(meanW u).toArray⟩] 9)).setCell ⟨w1.heap.size + 1, 3, none⟩ (.pointer (some ⟨w3.heap.size, 0, none⟩))).setCell ⟨w1.heap.size + 1, 4, none⟩ (.bool true)) (.slice a2 r.length (cap - 1 - 1)) r) := Lib.hid (SlAt.keep (SlAt.keep HT4.out (fun k hk hl => hb3.block k hl)) (fun k hk _ => by rw [Below.heap_setCell _ _ _ _ (by have := hk.2; show k ≠ w1.heap.size + 1; omega), Below.heap_setCell _ _ _ _ (by have := hk.2; show k ≠ w1.heap.size + 1; omega), Lib.alloc_old _ _ _ (by have := hk.2; have := hx.ltB; have := hb3.size; omega)]))
                  have HM3 : Hid (Small r cmds { c with out := some (meanW u), add := true }) := Lib.hid HM.out.tail.tail
                  clear hx hx3 hb3
                  go_wp2
                  go_roundw
                  case rel => first | exact ⟨r, _, _, _, _, rfl, HV3, HS3, HB3, HM3, HN⟩ | ((repeat apply Exists.intro); exact ⟨⟨r, _, _, _, _, rfl, HV3, HS3, HB3, HM3, HN⟩, rfl⟩)
                  case measure => simp [lenOf]; omega
            have HN : Hid (readGo (t0 :: r0) [] (PCmd.fresh []) false = readGo r cmds { c with words := c.words ++ [meanW t] } bad) := Lib.hid (by rw [HR.out, readGo_word _ _ _ _ _ h1 h2 h3 h4 h5 h6 h7 h8])
            have b1 : (t == [59]) = false := beq_eq_false_iff_ne.2 h1
            have b2 : (t == [38, 38]) = false := beq_eq_false_iff_ne.2 h2
            have b3 : (t == [124, 124]) = false := beq_eq_false_iff_ne.2 h3
            have b4 : (t == [38]) = false := beq_eq_false_iff_ne.2 h4
            have b5 : (t == [124]) = false := beq_eq_false_iff_ne.2 h5
            have b6 : (t == [60]) = false := beq_eq_false_iff_ne.2 h6
            have b7 : (t == [62]) = false := beq_eq_false_iff_ne.2 h7
            have b8 : (t == [62, 62]) = false := beq_eq_false_iff_ne.2 h8
            have htl := (HM.out.1 t (by simp)).2
            have hts : (⟨t.toArray⟩ : ByteArray).size = t.length := by show t.toArray.size = _; simp
            have HMe : Hid (∀ w, Calls Tryz.prog 46 #[.string ⟨t.toArray⟩] w fun e w' => e = .returned (meanV t) ∧ Below w.heap.size w w') := Lib.hid (fun w => mean_any ⟨t.toArray⟩ (by rw [hts]; omega) w)
            obtain ⟨mk, hmk⟩ := meanV_word t
            rw [hmk] at HMe
            have HCL : Hid (c.words.length + 1 ≤ 65536) := Lib.hid (by have := HM.out.2.2; simp at this; omega)
            clear h1 h2 h3 h4 h5 h6 h7 h8 hts htl hmk
            go_wp2_with fail
            go_at_call 46
            refine (HMe.out _).mono ?_
            rintro e w3 ⟨rfl, hb3⟩
            obtain ⟨K, wv, iv, ov, outv, xs, hx⟩ := HS.out
            have hx3 := hx.below hb3
            have HX3 := Lib.hid hx3
            have HSz3 : Hid (w1.heap.size + 2 < w3.heap.size) := Lib.hid hx3.ltB
            have d1 : w3.cell? ⟨w1.heap.size + 1, 1, none⟩ = some _ := Lib.cell_of_heap hx3.hC 1
            have HB4 := Lib.hid (HB.out.trans (hb3.mono HB.out.size))
            have HV4 : Hid (StrsAt (fun k => w.heap.size ≤ k ∧ k < w1.heap.size) w3 (.slice a' r.length (cap - 1)) r) := Lib.hid (SlAt.keep HT2.out (fun k hk hl => hb3.block k hl))
            clear hx hx3 hb3 HT2
            go_wp2_with (at_builtin; refine wp_append_cells_from _ rfl _ _ 29 rfl 9 i0 (.string .empty) 1 16 Tryz.underlying29 hi0 hz0 hz1 hz2 rfl (by decide) _ _ _ rfl (HX3.out.wo.alloc _) ⟨w3.heap.size, 0, none⟩ 1 1 [.string ⟨(meanW t).toArray⟩] rfl rfl ?c1 ?c2 ?c3 ?c4 ?_)
            case c1 =>
              intro j y hj
              match j, hj with
              | 0, hj => simp at hj; subst hj; simp [Addr.add]
            case c2 => intro y hy; simp at hy; subst hy; rfl
            case c3 => have := HCL.out; unfold maxLen; omega
            case c4 => have := HCL.out; omega
            intro v' w4 hown' hgrow hfrom
            have hC4 : w4.heap[w1.heap.size + 1]? = some (.cells _ 90 (0, 0)) := (hgrow.block _ (by have := HSz3.out; simp; omega) (fun e => by have := (HX3.out.wn _ e.symm).1; omega)).trans ((Lib.alloc_old w3 _ _ (by have := HSz3.out; omega)).trans HX3.out.hC)
            have e1 : w4.cell? ⟨w1.heap.size + 1, 1, none⟩ = some _ := Lib.cell_of_heap hC4 1
            have f1 : w4.frozen? ⟨w1.heap.size + 1, 1, none⟩ = false := Lib.frozen_of_heap hC4 1
            have HS5 : Hid (RS w1.heap.size cmds { c with words := c.words ++ [meanW t] } bad (w4.setCell ⟨w1.heap.size + 1, 1, none⟩ v')) := Lib.hid ⟨_, _, _, _, _, _, HX3.out.word hown' hgrow hfrom⟩
            have HB5 : Hid (Below w.heap.size w (w4.setCell ⟨w1.heap.size + 1, 1, none⟩ v')) := Lib.hid (((HB4.out.alloc HB4.out.size _).grown hgrow (by have := HB4.out.size; simp; omega) (fun k e => by have := (HX3.out.wn k e).1; have := HB1.out.size; omega)).setCell (p := ⟨w1.heap.size + 1, 1, none⟩) (by have := HB1.out.size; show _ ≤ w1.heap.size + 1; omega) _)
            have HV5 : Hid (StrsAt (fun k => w.heap.size ≤ k ∧ k < w1.heap.size) (w4.setCell ⟨w1.heap.size + 1, 1, none⟩ v') (.slice a' r.length (cap - 1)) r) := Lib.hid (SlAt.keep HV4.out (fun k hk hl => by rw [Below.heap_setCell _ _ _ _ (by have := hk.2; show k ≠ w1.heap.size + 1; omega), hgrow.block k (by simp; omega) (fun e => by have := (HX3.out.wn k e.symm).1; have := hk.2; omega), Lib.alloc_old w3 _ k hl]))
            have HM5 : Hid (Small r cmds { c with words := c.words ++ [meanW t] }) := Lib.hid HM.out.word
            obtain ⟨ao, mo, rfl⟩ := own_slice hown'
            clear hown' hgrow hfrom hC4 HB4 HV4
            go_wp2
            go_roundw
            case rel => first | exact ⟨r, _, _, _, _, rfl, HV5, HS5, HB5, HM5, HN⟩ | ((repeat apply Exists.intro); exact ⟨⟨r, _, _, _, _, rfl, HV5, HS5, HB5, HM5, HN⟩, rfl⟩)
            case measure => simp [lenOf]

/-- what is wrong with a line -/
def errS (l : List UInt8) : Nat := match readS l with | .error n => n | .ok _ => 0

set_option maxHeartbeats 1000000 in
set_option maxRecDepth 100000 in
theorem check_any (s : ByteArray) (hs : s.size ≤ 140737488351232) (w : World) :
    Calls Tryz.prog 7 #[.string s] w fun e w' => e = .returned (.int .i64 (errS s.data.toList)) ∧ Below w.heap.size w w' := by
  have HR := Lib.hid (read_any s hs w)
  go_enter Tryz.func7, Tryz.ntmps7
  go_wp2_with fail
  go_at_call 23
  refine HR.out.mono ?_
  rintro e w1 ⟨v, k, rfl, hq, hb⟩
  have hk : k = (errS s.data.toList : Int) := by
    unfold ReadQ ReadR at hq
    unfold errS
    cases h : readS s.data.toList with
    | error n => rw [h] at hq; exact hq.2.1
    | ok cs => rw [h] at hq; exact hq.1
  have HB := Lib.hid hb
  subst hk
  clear hq hb
  go_wp2
  go_ret
  exact ⟨rfl, HB.out⟩
end Go.Proofs.YtmagggflamdahaaGreatDoor
