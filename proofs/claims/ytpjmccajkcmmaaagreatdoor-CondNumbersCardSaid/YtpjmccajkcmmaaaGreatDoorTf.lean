/- bobstayref02.rooted, last, Dir: that they end, and what bounds what they hand back. bobstayref02.split. bobstayref02.join. bobstayref02.Parts. Printed by wip/genrefparts.py. bobstayref02.Clean, bobstayref03.Where. -/
import Derived.Test.YtpjmccajkcmmaaaGreatDoorTb
import Derived.StillTailTactics
namespace Go.Proofs.YtpjmccajkcmmaaaGreatDoor
open Go.RowKit

/-- it ends with a truth, a number between, a text; all stands as it stood -/
def BoolQ (w : World) (e : Ending) (w' : World) : Prop := ∃ b : Bool, e = .returned (.bool b) ∧ w = w'
def IntQ (a b : Int) (w : World) (e : Ending) (w' : World) : Prop := ∃ i : Int, e = .returned (.int .i64 i) ∧ a ≤ i ∧ i < b ∧ w = w'
def StrQ (n : Nat) (w : World) (e : Ending) (w' : World) : Prop := ∃ t : ByteArray, e = .returned (.string t) ∧ t.size ≤ n ∧ Below w.heap.size w w'

set_option maxHeartbeats 1000000 in
set_option maxRecDepth 100000 in
theorem refRooted_any (s : ByteArray) (w : World) : Calls Tryz.prog 68 #[.string s] w (BoolQ w) := by
  by_cases h : 0 < s.size
  · have h1 : 0 < (s.size : Int) := by omega
    have hb := byte_at s 0 h
    go_enter Tryz.func68, Tryz.ntmps68
    go_wp2
    go_ret
    exact ⟨_, rfl, rfl⟩
  · have h1 : ¬ 0 < (s.size : Int) := by omega
    go_enter Tryz.func68, Tryz.ntmps68
    go_wp2
    go_ret
    exact ⟨_, rfl, rfl⟩

set_option maxHeartbeats 1000000 in
set_option maxRecDepth 100000 in
theorem refLast_any (s : ByteArray) (c : Int) (hs : s.size ≤ 140737488355328) (w : World) : Calls Tryz.prog 70 #[.string s, .int .u8 c] w (IntQ (-1) s.size w) := by
  have hwr : IntKind.i64.wrap ((s.size : Int) - 1) = (s.size : Int) - 1 := by rw [IntKind.wrap_i64]; omega
  go_enter Tryz.func70, Tryz.ntmps70
  go_wp2
  go_loop [5] (fun v5 => ∃ i : Int, v5 = .int .i64 i ∧ -1 ≤ i ∧ i < s.size) (fun v5 => (intOf v5 + 1).toNat)
  case atStart => exact ⟨(s.size : Int) - 1, rfl, by omega, by omega⟩
  case round =>
    obtain ⟨i, rfl, h1, h2⟩ := hrel
    by_cases hi : 0 ≤ i
    · obtain ⟨k, rfl⟩ : ∃ k : Nat, i = k := ⟨i.toNat, by omega⟩
      have hk : k < s.size := by omega
      cases hq : (((s[k]'hk).toNat : Int) == c) with
      | true =>
        go_wp2
        go_ret
        exact ⟨_, rfl, by omega, by omega, rfl⟩
      | false =>
        have hw1 : IntKind.i64.wrap ((k : Int) - 1) = (k : Int) - 1 := by rw [IntKind.wrap_i64]; omega
        go_wp2
        go_round
        case rel => exact ⟨(k : Int) - 1, rfl, by omega, by omega⟩
        case measure => simp [intOf]
    · go_wp2
      go_ret
      exact ⟨_, rfl, by omega, by omega, rfl⟩

set_option maxHeartbeats 1000000 in
set_option maxRecDepth 100000 in
theorem refDir_any (s : ByteArray) (hs : s.size ≤ 140737488355328) (w : World) : Calls Tryz.prog 50 #[.string s] w (StrQ (s.size + 1) w) := by
  have HL := Lib.hid (refLast_any s 47 hs w)
  go_enter Tryz.func50, Tryz.ntmps50
  go_wp2_with fail
  go_at_call 70
  refine HL.out.mono ?_
  rintro e w1 ⟨i, rfl, h1, h2, rfl⟩
  by_cases h0 : i < 0
  · go_wp2
    go_ret
    exact ⟨_, rfl, by first | (show 1 ≤ _; omega) | (rw [ByteArray.size_extract]; omega), Below.refl _ _⟩
  · cases h3 : (i == 0) with
    | true =>
      go_wp2
      go_ret
      exact ⟨_, rfl, by first | (show 1 ≤ _; omega) | (rw [ByteArray.size_extract]; omega), Below.refl _ _⟩
    | false =>
      have hsl : ∀ W : World, (Instr.slice 9 (.string s) none (some (.int .i64 i)) none).run Tryz.prog W = .ok (.string (s.extract 0 i.toNat)) W := fun W => run_slice_string_h W 9 s Tryz.underlying9 .i64 i (by omega) (by omega)
      go_wp2
      go_ret
      exact ⟨_, rfl, by first | (show 1 ≤ _; omega) | (rw [ByteArray.size_extract]; omega), Below.refl _ _⟩
end Go.Proofs.YtpjmccajkcmmaaaGreatDoor

namespace Go.Proofs.YtpjmccajkcmmaaaGreatDoor
open Go.RowKit

/-- how much texts are, with one for each -/
def totS (L : List (List UInt8)) : Nat := (L.map (fun x => x.length + 1)).sum
theorem totS_append (L M : List (List UInt8)) : totS (L ++ M) = totS L + totS M := by simp [totS]
theorem totS_one (x : List UInt8) : totS [x] = x.length + 1 := by simp [totS]
theorem totS_len (L : List (List UInt8)) : L.length ≤ totS L := by
  induction L with
  | nil => simp [totS]
  | cons x l ih => simp only [totS, List.map_cons, List.sum_cons, List.length_cons] at ih ⊢; omega
theorem totS_mem {L : List (List UInt8)} {x : List UInt8} (h : x ∈ L) : x.length + 1 ≤ totS L := by
  induction L with
  | nil => cases h
  | cons y l ih =>
    simp only [totS, List.map_cons, List.sum_cons] at ih ⊢
    rcases List.mem_cons.1 h with rfl | h
    · omega
    · have := ih h; omega
/-- it ends with a slice of texts of the caller's own, of no more than m in all -/
def StrsQ (m : Nat) (w : World) (e : Ending) (w' : World) : Prop := ∃ (v : Value) (L : List (List UInt8)), e = .returned v ∧ totS L ≤ m ∧ w'.ownsRow w.heap.size 9 1 v L.length (L.map strV) ∧ Below w.heap.size w w'

theorem ownsRow_heap {w w' : World} {B : Nat} {e : TypeId} {size : Nat} {v : Value} {n : Nat} {xs : List Value} (h : w.ownsRow B e size v n xs) (hk : ∀ k, v.ownBlock = some k → w'.heap[k]? = w.heap[k]?) : w'.ownsRow B e size v n xs := by
  refine ⟨h.1, ?_⟩
  rcases h.2 with h | ⟨g, cap, cur, a, b, hg, r⟩
  · exact .inl h
  · refine .inr ⟨g, cap, cur, a, b, ?_, r⟩
    rw [hk g (by rw [a]; rfl)]
    exact hg
theorem ownsRow_ne0 {w : World} {B : Nat} {e : TypeId} {size : Nat} {v : Value} {n : Nat} {xs : List Value} (h : w.ownsRow B e size v n xs) (hn : n ≠ 0) : ∃ g cap, v = .slice (some ⟨g, 0, none⟩) n cap ∧ B ≤ g ∧ g < w.heap.size ∧ n ≤ cap := by
  rcases h.2 with ⟨_, h⟩ | ⟨g, cap, cur, a, b, hg, hnc, _⟩
  · exact absurd h hn
  · exact ⟨g, cap, a, b, (Array.getElem?_eq_some_iff.1 hg).1, hnc⟩

set_option maxHeartbeats 4000000 in
set_option maxRecDepth 100000 in
theorem refSplit_any (s : ByteArray) (c : Int) (hs : s.size ≤ 1073741824) (w : World) : Calls Tryz.prog 69 #[.string s, .int .u8 c] w (StrsQ (s.size + 1) w) := by
  obtain ⟨i0, hi, hz0, hz1, hz2⟩ := info_parts strInfo
  go_enter Tryz.func69, Tryz.ntmps69
  go_wp2
  go_loopw [5, 6] (fun v5 v6 wr => ∃ (i : Nat) (L : List (List UInt8)) (x : List UInt8) (v : Value), v = v5 ∧ v6 = .int .i64 i ∧ i ≤ s.size ∧ Hid (totS L + x.length ≤ i) ∧ Hid (L.length ≤ i) ∧ Hid (wr.ownsRow w.heap.size 9 1 v (L.length + 1) (L.map strV ++ [strV x])) ∧ Hid (Below w.heap.size w wr)) (fun _ v6 _ => s.size + 1 - (intOf v6).toNat)
  case atStart => exact ⟨0, [], [], _, rfl, rfl, by omega, Lib.hid (by simp [totS]), Lib.hid (by simp), Lib.hid (World.ownsRow_lit w #[.string ⟨#[]⟩] 1 (Nat.le_refl _) (by unfold maxLen; omega) rfl), Lib.hid ((Below.refl _ _).alloc (Nat.le_refl _) _)⟩
  case round =>
    obtain ⟨i, L, x, v, rfl, rfl, hi2, HM, HL, HO, HB⟩ := hrel
    by_cases hlt : i < s.size
    · obtain ⟨g, cap, rfl, hg, hgl, hcap⟩ := ownsRow_ne0 HO.out (by omega)
      cases hq : (((s[i]'hlt).toNat : Int) == c) with
      | true =>
        go_wp2_with (at_builtin; refine wpList_append_own _ rfl _ _ 23 rfl w.heap.size 9 i0 (.string .empty) 1 16 Tryz.underlying23 hi hz0 hz1 hz2 rfl (by decide) _ _ _ rfl (HO.out.alloc _) ⟨wr.heap.size, 0, none⟩ 1 1 [.string ⟨#[]⟩] rfl rfl ?c1 ?c2 ?c3 ?c4 ?c5 ?_)
        case c1 =>
          intro j y hj
          match j, hj with
          | 0, hj => simp at hj; subst hj; simp [Addr.add]
        case c2 => intro y hy; simp at hy; subst hy; rfl
        case c3 => have := HL.out; unfold maxLen; omega
        case c4 => have := HL.out; omega
        case c5 => have := HB.out.size; simp; omega
        intro v' w3 hown' hgrow _
        have HB3 := Lib.hid ((HB.out.alloc HB.out.size (.cells #[.string ⟨#[]⟩] 9)).grown hgrow (by have := HB.out.size; simp; omega) (fun k hk => (HO.out.lt k hk).1))
        have HO3 : Hid (w3.ownsRow w.heap.size 9 1 v' ((L ++ [x]).length + 1) ((L ++ [x]).map strV ++ [strV []])) := Lib.hid (by
          rw [List.length_append, List.map_append, List.map_singleton]
          simpa [strV] using hown')
        clear hown' hgrow
        go_wp2
        go_roundw
        case rel => exact ⟨i + 1, L ++ [x], [], _, rfl, by go_num, by omega, Lib.hid (by have := HM.out; rw [totS_append, totS_one]; simp only [List.length_nil]; omega), Lib.hid (by have := HL.out; simp; omega), HO3, HB3⟩
        case measure => simp [intOf]; omega
      | false =>
        have hc0 : wr.cell? ⟨g, L.length, none⟩ = some (strV x) := by
          rw [HO.out.cellAt _ (by omega)]
          simp
        unfold strV at hc0
        have hfz : wr.frozen? ⟨g, L.length, none⟩ = false := HO.out.frozenAt _
        have hLl := HL.out
        have hsl : ∀ W : World, (Instr.slice 9 (.string s) (some (.int .i64 i)) (some (.int .i64 ((i : Int) + 1))) none).run Tryz.prog W = .ok (.string (s.extract i (i + 1))) W := fun W => run_slice_string W 9 s .i64 .i64 i ((i : Int) + 1) Tryz.underlying9 (by omega) (by omega) (by omega)
        have hxl : x.length ≤ i := by have := HM.out; omega
        have hst := HO.out.stored L.length (.string (⟨x.toArray⟩ ++ s.extract i (i + 1)))
        have hxe : (⟨x.toArray⟩ ++ s.extract i (i + 1) : ByteArray) = ⟨(x ++ (s.data.toList.drop i).take 1).toArray⟩ := by
          apply bs_ext
          simp
        have hwa : IntKind.i64.wrap ((L.length : Int)) = (L.length : Int) := by rw [IntKind.wrap_i64]; omega
        have hwb : IntKind.i64.wrap ((L.length : Int) + 1 - 1) = (L.length : Int) := by rw [IntKind.wrap_i64]; omega
        have hwc : IntKind.i64.wrap ((i : Int) + 1) = (i : Int) + 1 := by rw [IntKind.wrap_i64]; omega
        have hlt2 : (L.length : Int) < (L.length : Int) + 1 := by omega
        have hnl : ¬ 9223372036854775807 < x.length + 1 := by omega
        have hxs : (s.extract i (i + 1)).size = 1 := by rw [ByteArray.size_extract]; omega
        go_wp2
        go_still_tail 13, (by kernel_rfl)
        have HSt := Lib.hid hst
        have HXl := Lib.hid hxl
        rw [hxe] at HSt
        clear hst
        generalize hX : x ++ (s.data.toList.drop i).take 1 = x' at hxe HSt
        have HX' : Hid (x'.length ≤ x.length + 1) := Lib.hid (by
          rw [← hX, List.length_append, List.length_take]
          omega)
        clear hX
        change wpList _ _ _ _ _ wr.drew
        go_wp2
        go_roundw
        case rel =>
          refine ⟨i + 1, L, x', _, rfl, by go_num, by omega, Lib.hid (by have := HM.out; have := HX'.out; omega), Lib.hid (by have := HL.out; omega), Lib.hid ?_, Lib.hid ?_⟩
          · have := HSt.out.1
            rw [List.set_append_right _ _ (by simp)] at this
            simpa [strV] using this.drew
          · exact (HB.out.grown (HSt.out.2) HB.out.size (fun k hk => by injection hk with hk; omega)).drew
        case measure => simp [intOf]; omega
    · go_wp2
      go_ret
      refine ⟨_, L ++ [x], rfl, ?_, ?_, HB.out⟩
      · have := HM.out; rw [totS_append, totS_one]; omega
      · simpa using HO.out
end Go.Proofs.YtpjmccajkcmmaaaGreatDoor

namespace Go.Proofs.YtpjmccajkcmmaaaGreatDoor
open Go.RowKit

theorem totS_take_succ (L : List (List UInt8)) (i : Nat) (x : List UInt8) (h : L[i]? = some x) : totS (L.take (i + 1)) = totS (L.take i) + (x.length + 1) := by
  rw [List.take_add_one, h]
  simp [totS_append, totS_one]
theorem totS_take_le (L : List (List UInt8)) (i : Nat) : totS (L.take i) ≤ totS L := by
  have := totS_append (L.take i) (L.drop i)
  rw [List.take_append_drop] at this
  omega

set_option maxHeartbeats 4000000 in
set_option maxRecDepth 100000 in
theorem refJoin_any {B : Nat} {v : Value} {L : List (List UInt8)} (sep : ByteArray) (hsep : sep.size = 1) (hL : totS L ≤ 1073741824) (w : World) (h : w.ownsRow B 9 1 v L.length (L.map strV)) :
    Calls Tryz.prog 67 #[v, .string sep] w (StrQ (totS L) w) := by
  have hn := totS_len L
  have HX : Hid (∀ i x, L[i]? = some x → ∃ g cap, v = .slice (some ⟨g, 0, none⟩) L.length cap ∧ w.cell? ⟨g, i, none⟩ = some (.string ⟨x.toArray⟩)) := Lib.hid (fun i x hx => by
    have hi : i < L.length := (List.getElem?_eq_some_iff.1 hx).1
    obtain ⟨g, cap, rfl, hg, hgl, hcap⟩ := ownsRow_ne0 h (by omega)
    refine ⟨g, cap, rfl, ?_⟩
    rw [h.cellAt i (by omega), List.getElem?_map, hx]
    rfl)
  obtain ⟨a, cap, rfl⟩ : ∃ a cap, v = .slice a L.length cap := by
    rcases h.2 with ⟨rfl, h0⟩ | ⟨g, cap, cur, rfl, _⟩
    · exact ⟨_, _, by rw [h0]⟩
    · exact ⟨_, _, rfl⟩
  clear h
  go_enter Tryz.func67, Tryz.ntmps67
  go_wp2
  go_loop [5, 6] (fun v5 v6 => ∃ (i : Nat) (t : ByteArray), v5 = .string t ∧ v6 = .int .i64 i ∧ i ≤ L.length ∧ t.size ≤ totS (L.take i) ∧ (0 < i → t.size + 1 ≤ totS (L.take i))) (fun _ v6 => L.length + 1 - (intOf v6).toNat)
  case atStart => exact ⟨0, ⟨#[]⟩, rfl, rfl, by omega, Nat.zero_le _, by omega⟩
  case round =>
    obtain ⟨i, t, rfl, rfl, hi, ht, ht0⟩ := hrel
    have htl := totS_take_le L i
    by_cases hlt : i < L.length
    · obtain ⟨x, hx⟩ : ∃ x, L[i]? = some x := ⟨L[i], List.getElem?_eq_getElem hlt⟩
      obtain ⟨g, cap', he, hc⟩ := HX.out i x hx
      simp only [Value.slice.injEq] at he
      obtain ⟨rfl, -, rfl⟩ := he
      have htk := totS_take_succ L i x hx
      have htl2 := totS_take_le L (i + 1)
      have hxl : x.length ≤ 1073741824 := by omega
      by_cases h0 : 0 < i
      · have h00 : 0 < (i : Int) := by omega
        have hs1 : (t ++ sep).size = t.size + 1 := by rw [ByteArray.size_append, hsep]
        have hs2 : ((t ++ sep) ++ (⟨x.toArray⟩ : ByteArray)).size = t.size + 1 + x.length := by rw [ByteArray.size_append, hs1]; rfl
        generalize hT : (t ++ sep) ++ (⟨x.toArray⟩ : ByteArray) = T at hs2
        generalize hU : t ++ sep = U at hs1 hT
        have hu1 : ¬ 9223372036854775807 < t.size + 1 := by omega
        have hu2 : ¬ 9223372036854775807 < U.size + x.length := by omega
        have hr : T.size ≤ totS (L.take (i + 1)) ∧ (0 < i + 1 → T.size + 1 ≤ totS (L.take (i + 1))) := by have := ht0 h0; omega
        clear htk htl2
        go_wp2
        go_round
        case rel => exact ⟨i + 1, _, rfl, by go_num, by omega, hr⟩
        case measure => simp [intOf]; omega
      · obtain rfl : i = 0 := by omega
        have hs2 : (t ++ (⟨x.toArray⟩ : ByteArray)).size = t.size + x.length := by rw [ByteArray.size_append]; rfl
        have ht00 : t.size = 0 := by simpa [totS] using ht
        generalize hT : t ++ (⟨x.toArray⟩ : ByteArray) = T at hs2
        have hu2 : ¬ 9223372036854775807 < t.size + x.length := by omega
        have hr : T.size ≤ totS (L.take (0 + 1)) ∧ (0 < 0 + 1 → T.size + 1 ≤ totS (L.take (0 + 1))) := by omega
        clear htk htl2
        go_wp2
        go_round
        case rel => exact ⟨0 + 1, _, rfl, by go_num, by omega, hr⟩
        case measure => simp [intOf]
    · go_wp2
      go_ret
      exact ⟨_, rfl, by omega, Below.refl _ _⟩
end Go.Proofs.YtpjmccajkcmmaaaGreatDoor

namespace Go.Proofs.YtpjmccajkcmmaaaGreatDoor
open Go.RowKit

theorem ownsRow_base {w : World} {B B' : Nat} {e : TypeId} {size : Nat} {v : Value} {n : Nat} {xs : List Value} (h : w.ownsRow B e size v n xs) (hB : B' ≤ B) : w.ownsRow B' e size v n xs := by
  refine ⟨h.1, ?_⟩
  rcases h.2 with h | ⟨g, cap, cur, a, b, r⟩
  · exact .inl h
  · exact .inr ⟨g, cap, cur, a, Nat.le_trans hB b, r⟩
theorem ownsRow_slice {w : World} {B : Nat} {e : TypeId} {size : Nat} {v : Value} {n : Nat} {xs : List Value} (h : w.ownsRow B e size v n xs) : ∃ a c, v = .slice a n c := by
  rcases h.2 with ⟨rfl, h0⟩ | ⟨g, cap, cur, rfl, _⟩
  · exact ⟨_, _, by rw [h0]⟩
  · exact ⟨_, _, rfl⟩

set_option maxHeartbeats 16000000 in
set_option maxRecDepth 100000 in
theorem refParts_any (s : ByteArray) (hs : s.size ≤ 1073741000) (w : World) : Calls Tryz.prog 49 #[.string s] w (StrsQ (s.size + 1) w) := by
  obtain ⟨i0, hi0, hz0, hz1, hz2⟩ := info_parts strInfo
  have HSp := Lib.hid (refSplit_any s 47 (by omega) w)
  have HRt := Lib.hid (fun w => refRooted_any s w)
  go_enter Tryz.func49, Tryz.ntmps49
  go_wp2_with fail
  go_at_call 69
  refine HSp.out.mono ?_
  rintro e w1 ⟨vl, L, rfl, htot, hrow, hb⟩
  have hlen := totS_len L
  have HTot := Lib.hid htot
  have hL30 : L.length ≤ 1073741824 := by omega
  have HX : Hid (∀ i x, L[i]? = some x → ∃ g cap, vl = .slice (some ⟨g, 0, none⟩) L.length cap ∧ g < w1.heap.size ∧ w1.cell? ⟨g, i, none⟩ = some (.string ⟨x.toArray⟩)) := Lib.hid (fun i x hx => by
    have hi : i < L.length := (List.getElem?_eq_some_iff.1 hx).1
    obtain ⟨g, cap, rfl, hg, hgl, hcap⟩ := ownsRow_ne0 hrow (by omega)
    refine ⟨g, cap, rfl, hgl, ?_⟩
    rw [hrow.cellAt i (by omega), List.getElem?_map, hx]
    rfl)
  obtain ⟨al, cl, rfl⟩ := ownsRow_slice hrow
  have HBw := Lib.hid hb
  clear hrow hb hlen htot
  go_wp2
  go_loopw [3, 5] (fun v3 v5 wr => ∃ (i : Nat) (O : List (List UInt8)) (v : Value), v = v3 ∧ v5 = .int .i64 i ∧ i ≤ L.length ∧ Hid (totS O ≤ totS (L.take i)) ∧ Hid (wr.ownsRow w1.heap.size 9 1 v O.length (O.map strV)) ∧ Hid (Below w1.heap.size w1 wr)) (fun _ v5 _ => L.length + 1 - (intOf v5).toNat)
  case atStart => exact ⟨0, [], _, rfl, rfl, by omega, Lib.hid (by simp [totS]), Lib.hid ⟨rfl, .inl ⟨rfl, rfl⟩⟩, Lib.hid (Below.refl _ _)⟩
  case round =>
    obtain ⟨i, O, v3, rfl, rfl, hi, HT, HO, HB⟩ := hrel
    have HOl : Hid (O.length ≤ 1073741824) := Lib.hid (by
      have h1 := totS_len O
      have h2 := HT.out
      have h3 := totS_take_le L i
      have h4 := HTot.out
      omega)
    by_cases hlt : i < L.length
    · obtain ⟨x, hx⟩ : ∃ x, L[i]? = some x := ⟨L[i], List.getElem?_eq_getElem hlt⟩
      obtain ⟨g, cap, he, hg, hc1⟩ := HX.out i x hx
      simp only [Value.slice.injEq] at he
      obtain ⟨rfl, -, rfl⟩ := he
      have hc : wr.cell? ⟨g, i, none⟩ = some (.string ⟨x.toArray⟩) := (World.cell?_of_block (w := w1) (HB.out.block g hg)).trans hc1
      have HTK := Lib.hid (totS_take_succ L i x hx)
      have hO3 := HOl.out
      obtain ⟨ao, co, rfl⟩ := ownsRow_slice HO.out
      clear hc1 hx
      cases hx0 : x.isEmpty with
      | true =>
        go_wp2
        go_roundw
        case rel => exact ⟨i + 1, O, _, rfl, by go_num, by omega, Lib.hid (by have := HT.out; have := HTK.out; omega), HO, HB⟩
        case measure => simp [intOf]; omega
      | false =>
        cases hx1 : (x == [46]) with
        | true =>
          go_wp2
          go_roundw
          case rel => exact ⟨i + 1, O, _, rfl, by go_num, by omega, Lib.hid (by have := HT.out; have := HTK.out; omega), HO, HB⟩
          case measure => simp [intOf]; omega
        | false =>
          cases hx2 : (x == [46, 46]) with
          | false =>
            go_wp2_with (at_builtin; refine wpList_append_own _ rfl _ _ 23 rfl w1.heap.size 9 i0 (.string .empty) 1 16 Tryz.underlying23 hi0 hz0 hz1 hz2 rfl (by decide) _ _ _ rfl (HO.out.alloc _) ⟨wr.heap.size, 0, none⟩ 1 1 [.string ⟨x.toArray⟩] rfl rfl ?c1 ?c2 ?c3 ?c4 ?c5 ?_)
            case c1 =>
              intro j y hj
              match j, hj with
              | 0, hj => simp at hj; subst hj; simp [Addr.add]
            case c2 => intro y hy; simp at hy; subst hy; rfl
            case c3 => have := HOl.out; unfold maxLen; omega
            case c4 => have := HOl.out; omega
            case c5 => have := HB.out.size; simp; omega
            intro v' w3 hown' hgrow _
            have HB3 := Lib.hid ((HB.out.alloc HB.out.size (.cells #[.string ⟨x.toArray⟩] 9)).grown hgrow (by have := HB.out.size; simp; omega) (fun k hk => (HO.out.lt k hk).1))
            have HO3 : Hid (w3.ownsRow w1.heap.size 9 1 v' (O ++ [x]).length ((O ++ [x]).map strV)) := Lib.hid (by
              rw [List.length_append, List.map_append, List.map_singleton]
              first | exact hown' | simpa [strV] using hown')
            clear hown' hgrow
            go_wp2
            go_roundw
            case rel => exact ⟨i + 1, O ++ [x], _, rfl, by go_num, by omega, Lib.hid (by rw [totS_append, totS_one]; have := HT.out; have := HTK.out; omega), HO3, HB3⟩
            case measure => simp [intOf]; omega
          | true =>
            rcases List.eq_nil_or_concat O with rfl | ⟨O0, y, rfl⟩
            · simp only [List.length_nil] at HO ⊢
              go_wp2_with fail
              go_at_call 68
              refine (HRt.out _).mono ?_
              rintro e w2 ⟨b, rfl, rfl⟩
              cases b with
              | true =>
                go_wp2
                go_roundw
                case rel => exact ⟨i + 1, [], _, rfl, by go_num, by omega, Lib.hid (by have := HT.out; have := HTK.out; omega), HO, HB⟩
                case measure => simp [intOf]; omega
              | false =>
                go_wp2_with (at_builtin; refine wpList_append_own _ rfl _ _ 23 rfl w1.heap.size 9 i0 (.string .empty) 1 16 Tryz.underlying23 hi0 hz0 hz1 hz2 rfl (by decide) _ _ _ rfl (HO.out.alloc _) ⟨wr.heap.size, 0, none⟩ 1 1 [.string ⟨x.toArray⟩] rfl rfl ?c1 ?c2 ?c3 ?c4 ?c5 ?_)
                case c1 =>
                  intro j y hj
                  match j, hj with
                  | 0, hj => simp at hj; subst hj; simp [Addr.add]
                case c2 => intro y hy; simp at hy; subst hy; rfl
                case c3 => have := HOl.out; unfold maxLen; omega
                case c4 => have := HOl.out; omega
                case c5 => have := HB.out.size; simp; omega
                intro v' w3 hown' hgrow _
                have HB3 := Lib.hid ((HB.out.alloc HB.out.size (.cells #[.string ⟨x.toArray⟩] 9)).grown hgrow (by have := HB.out.size; simp; omega) (fun k hk => (HO.out.lt k hk).1))
                have HO3 : Hid (w3.ownsRow w1.heap.size 9 1 v' ([] ++ [x]).length (([] ++ [x]).map strV)) := Lib.hid (by
                  rw [List.length_append, List.map_append, List.map_singleton]
                  first | exact hown' | simpa [strV] using hown')
                clear hown' hgrow
                go_wp2
                go_roundw
                case rel => exact ⟨i + 1, [] ++ [x], _, rfl, by go_num, by omega, Lib.hid (by rw [totS_append, totS_one]; have := HT.out; have := HTK.out; omega), HO3, HB3⟩
                case measure => simp [intOf]; omega
            · rw [List.concat_eq_append] at *
              obtain ⟨go, capo, he, hgo, hgol, hcapo⟩ := ownsRow_ne0 HO.out (by simp)
              simp only [Value.slice.injEq] at he
              obtain ⟨rfl, -, rfl⟩ := he
              have hcy : wr.cell? ⟨go, O0.length, none⟩ = some (.string ⟨y.toArray⟩) := by
                rw [HO.out.cellAt _ (by simp)]
                simp [strV]
              have hpos : 0 < (O0.length : Int) + 1 := by omega
              have hwb : IntKind.i64.wrap ((O0.length : Int) + 1 - 1) = (O0.length : Int) := by rw [IntKind.wrap_i64]; simp at hO3; omega
              have hwa : IntKind.i64.wrap (O0.length : Int) = (O0.length : Int) := by rw [IntKind.wrap_i64]; simp at hO3; omega
              have hlt2 : (O0.length : Int) < (O0.length : Int) + 1 := by omega
              have hO4 : O0.length ≤ 1073741824 := by simp at hO3; omega
              have hlc : (O0 ++ [y]).length = O0.length + 1 := by simp
              rw [hlc] at hcapo ⊢
              replace HO : Hid (wr.ownsRow w1.heap.size 9 1 (.slice (some ⟨go, 0, none⟩) (O0.length + 1) co) (O0 ++ [y]).length ((O0 ++ [y]).map strV)) := Lib.hid (by rw [← hlc]; exact HO.out)
              cases hy : (y == [46, 46]) with
              | true =>
                go_wp2_with fail
                go_at_call 68
                refine (HRt.out _).mono ?_
                rintro e w2 ⟨b, rfl, rfl⟩
                cases b with
                | true =>
                  go_wp2
                  go_roundw
                  case rel => exact ⟨i + 1, (O0 ++ [y]), _, rfl, by go_num, by omega, Lib.hid (by have := HT.out; have := HTK.out; omega), HO, HB⟩
                  case measure => simp [intOf]; omega
                | false =>
                  go_wp2_with (at_builtin; refine wpList_append_own _ rfl _ _ 23 rfl w1.heap.size 9 i0 (.string .empty) 1 16 Tryz.underlying23 hi0 hz0 hz1 hz2 rfl (by decide) _ _ _ rfl (HO.out.alloc _) ⟨wr.heap.size, 0, none⟩ 1 1 [.string ⟨x.toArray⟩] rfl rfl ?c1 ?c2 ?c3 ?c4 ?c5 ?_)
                  case c1 =>
                    intro j y hj
                    match j, hj with
                    | 0, hj => simp at hj; subst hj; simp [Addr.add]
                  case c2 => intro y hy; simp at hy; subst hy; rfl
                  case c3 => have := HOl.out; unfold maxLen; omega
                  case c4 => have := HOl.out; omega
                  case c5 => have := HB.out.size; simp; omega
                  intro v' w3 hown' hgrow _
                  have HB3 := Lib.hid ((HB.out.alloc HB.out.size (.cells #[.string ⟨x.toArray⟩] 9)).grown hgrow (by have := HB.out.size; simp; omega) (fun k hk => (HO.out.lt k hk).1))
                  have HO3 : Hid (w3.ownsRow w1.heap.size 9 1 v' ((O0 ++ [y]) ++ [x]).length (((O0 ++ [y]) ++ [x]).map strV)) := Lib.hid (by
                    rw [List.length_append, List.map_append, List.map_singleton]
                    first | exact hown' | simpa [strV] using hown')
                  clear hown' hgrow
                  go_wp2
                  go_roundw
                  case rel => exact ⟨i + 1, (O0 ++ [y]) ++ [x], _, rfl, by go_num, by omega, Lib.hid (by rw [totS_append, totS_one]; have := HT.out; have := HTK.out; omega), HO3, HB3⟩
                  case measure => simp [intOf]; omega
              | false =>
                have hsl : ∀ W, (Instr.slice 23 (.slice (some ⟨go, 0, none⟩) (O0.length + 1) co) none (some (.int .i64 (O0.length : Int))) none).run Tryz.prog W = .ok (.slice (some ⟨go, 0, none⟩) O0.length co) W := by
                  have he : Tryz.prog.elem 23 = 9 := by kernel_rfl
                  intro W
                  rw [run_slice_h W 23 (some ⟨go, 0, none⟩) (O0.length + 1) co (by rw [he]; exact Tryz.underlying23) .i64 (O0.length : Int) (by omega) (by omega), he, Tryz.sizeOf9 W]
                  simp [Result.andThen, sliced, Addr.add]
                go_wp2_with (at_builtin; refine wpList_append_own _ rfl _ _ 23 rfl w1.heap.size 9 i0 (.string .empty) 1 16 Tryz.underlying23 hi0 hz0 hz1 hz2 rfl (by decide) (.slice none 0 0) 0 [] rfl ⟨rfl, .inl ⟨rfl, rfl⟩⟩ ⟨go, 0, none⟩ O0.length co (O0.map strV) rfl (by simp) ?c1 ?c2 ?c3 ?c4 ?c5 ?_)
                case c1 =>
                  intro j u hj
                  have hj2 : j < O0.length := by
                    have := (List.getElem?_eq_some_iff.1 hj).1
                    simpa using this
                  have h5 := HO.out
                  rw [hlc] at h5
                  have := h5.cellAt j (by omega)
                  rw [List.map_append, List.getElem?_append_left (by simpa using hj2), hj] at this
                  have ha : (⟨go, 0, none⟩ : Addr).add j = ⟨go, j, none⟩ := by unfold Addr.add; split <;> simp_all
                  rw [ha]
                  exact this
                case c2 =>
                  intro u hu
                  obtain ⟨y, -, rfl⟩ := List.mem_map.1 hu
                  rfl
                case c3 => have := HOl.out; simp at this; unfold maxLen; omega
                case c4 => have := HOl.out; simp at this; omega
                case c5 => have := HB.out.size; omega
                intro v' w3 hown' hgrow _
                have HB3 := Lib.hid (HB.out.grown hgrow HB.out.size (fun k hk => by simp [Value.ownBlock] at hk))
                have HO3 : Hid (w3.ownsRow w1.heap.size 9 1 v' O0.length (O0.map strV)) := Lib.hid (by simpa using hown')
                clear hown' hgrow
                go_wp2
                go_roundw
                case rel => exact ⟨i + 1, O0, _, rfl, by go_num, by omega, Lib.hid (by have h1 := HT.out; have := HTK.out; rw [totS_append] at h1; omega), HO3, HB3⟩
                case measure => simp [intOf]; omega
    · have HF := Lib.hid (totS_take_le L i)
      go_wp2
      go_ret
      exact ⟨_, O, rfl, by have := HF.out; have := HT.out; have := HTot.out; omega, ownsRow_base HO.out HBw.out.size, HBw.out.trans (HB.out.mono HBw.out.size)⟩
end Go.Proofs.YtpjmccajkcmmaaaGreatDoor

namespace Go.Proofs.YtpjmccajkcmmaaaGreatDoor
open Go.RowKit

set_option maxHeartbeats 4000000 in
set_option maxRecDepth 100000 in
theorem refClean_any (s : ByteArray) (hs : s.size ≤ 1073741000) (w : World) : Calls Tryz.prog 48 #[.string s] w (StrQ (s.size + 2) w) := by
  have HP := Lib.hid (refParts_any s hs w)
  have HRt := Lib.hid (fun w => refRooted_any s w)
  go_enter Tryz.func48, Tryz.ntmps48
  go_wp2_with fail
  go_at_call 49
  refine HP.out.mono ?_
  rintro e w1 ⟨vl, L, rfl, htot, hrow, hb⟩
  have HJ := Lib.hid (refJoin_any (L := L) ⟨#[47]⟩ rfl (by omega) w1 hrow)
  have HB := Lib.hid hb
  clear hrow hb
  go_wp2_with fail
  go_at_call 67
  refine HJ.out.mono ?_
  rintro e w2 ⟨t, rfl, ht, hb2⟩
  have HB2 := Lib.hid (HB.out.trans (hb2.mono HB.out.size))
  clear hb2
  go_wp2_with fail
  go_at_call 68
  refine (HRt.out _).mono ?_
  rintro e w3 ⟨b, rfl, rfl⟩
  cases b with
  | true =>
    have hsz : ((⟨#[47]⟩ : ByteArray) ++ t).size = t.size + 1 := by rw [ByteArray.size_append]; show 1 + t.size = _; omega
    generalize hu : (⟨#[47]⟩ : ByteArray) ++ t = u at hsz
    go_wp2
    go_ret
    exact ⟨_, rfl, by omega, HB2.out⟩
  | false =>
    cases he : (t.toList.isEmpty) with
    | true =>
      go_wp2
      go_ret
      exact ⟨_, rfl, by show 1 ≤ _; omega, HB2.out⟩
    | false =>
      go_wp2
      go_ret
      exact ⟨_, rfl, by omega, HB2.out⟩

/-- it ends with a text and a truth -/
def WhereQ (n : Nat) (w : World) (e : Ending) (w' : World) : Prop := ∃ (t : ByteArray) (b : Bool), e = .returned (.tuple #[.string t, .bool b]) ∧ t.size ≤ n ∧ Below w.heap.size w w'

set_option maxHeartbeats 4000000 in
set_option maxRecDepth 100000 in
theorem refWhere_any (s : ByteArray) (hs : s.size ≤ 1073740000) (w : World) : Calls Tryz.prog 32 #[.string s] w (WhereQ (s.size + 3) w) := by
  have hsz : ((⟨#[47]⟩ : ByteArray) ++ s).size = s.size + 1 := by rw [ByteArray.size_append]; show 1 + s.size = _; omega
  generalize hu : (⟨#[47]⟩ : ByteArray) ++ s = u at hsz
  have HC := Lib.hid (refClean_any u (by omega) w)
  have HPt := Lib.hid (fun (t : ByteArray) (ht : t.size ≤ s.size + 3) (w : World) => refParts_any t (by omega) w)
  go_enter Tryz.func32, Tryz.ntmps32
  go_wp2_with fail
  go_at_call 48
  refine HC.out.mono ?_
  rintro e w1 ⟨t, rfl, ht, hb⟩
  have HB := Lib.hid hb
  have HT : Hid (t.size ≤ s.size + 3) := Lib.hid (by omega)
  have HP := Lib.hid (HPt.out t (by omega) w1)
  clear hb ht
  go_wp2_with fail
  go_at_call 49
  refine HP.out.mono ?_
  rintro e w2 ⟨vl, L, rfl, htot, hrow, hb2⟩
  have hlen : L.length ≤ 1073741824 := by have := totS_len L; have := HT.out; omega
  have HX : Hid (∀ i x, L[i]? = some x → x.length ≤ 1073741824 ∧ ∃ g cap, vl = .slice (some ⟨g, 0, none⟩) L.length cap ∧ w2.cell? ⟨g, i, none⟩ = some (.string ⟨x.toArray⟩)) := Lib.hid (fun i x hx => by
    have hi : i < L.length := (List.getElem?_eq_some_iff.1 hx).1
    obtain ⟨g, cap, rfl, hg, hgl, hcap⟩ := ownsRow_ne0 hrow (by omega)
    refine ⟨by have := totS_mem (List.mem_of_getElem? hx); have := HT.out; omega, g, cap, rfl, ?_⟩
    rw [hrow.cellAt i (by omega), List.getElem?_map, hx]
    rfl)
  obtain ⟨al, cl, rfl⟩ := ownsRow_slice hrow
  have HB2 := Lib.hid (HB.out.trans (hb2.mono HB.out.size))
  clear hrow hb2 htot
  go_wp2
  go_loop [5] (fun v5 => ∃ i : Nat, v5 = .int .i64 i ∧ i ≤ L.length) (fun v5 => L.length + 1 - (intOf v5).toNat)
  case atStart => exact ⟨0, rfl, by omega⟩
  case round =>
    obtain ⟨i, rfl, hi⟩ := hrel
    by_cases hlt : i < L.length
    · obtain ⟨x, hx⟩ : ∃ x, L[i]? = some x := ⟨L[i], List.getElem?_eq_getElem hlt⟩
      obtain ⟨hxl, g, cap, he, hc⟩ := HX.out i x hx
      simp only [Value.slice.injEq] at he
      obtain ⟨rfl, -, rfl⟩ := he
      clear hx
      by_cases h255 : 255 < (x.length : Int)
      · go_wp2
        go_ret2
        exact ⟨_, _, rfl, Nat.zero_le _, HB2.out⟩
      · go_wp2
        go_round
        case rel => exact ⟨i + 1, by go_num, by omega⟩
        case measure => simp [intOf]; omega
    · go_wp2
      go_ret2
      exact ⟨_, _, rfl, HT.out, HB2.out⟩
end Go.Proofs.YtpjmccajkcmmaaaGreatDoor
