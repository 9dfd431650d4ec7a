/- expand: what a text means, as a contract; meaning. expand.use. -/
import Derived.Test.YtpjmccajkcmmaaaGreatDoorTo
import Derived.Test.YtpjmccajkcmmaaaGreatDoorTf
namespace Go.Proofs.YtpjmccajkcmmaaaGreatDoor
open Go.RowKit

theorem ExK.trans {xb : Nat} {sl sl1 : Value} {w w1 w2 : World} (h : ExK xb sl w w1) (hr : RowFrom w.heap.size sl sl1) (k : ExK xb sl1 w1 w2) : ExK xb sl w w2 :=
  Keeps.trans h (k.mono h.size (fun k hk e => by
    rcases e with e | e
    · exact .inl e
    · rcases hr k e with h' | h'
      · exact .inr h'
      · omega))
theorem IsEx.drew {B xb vb : Nat} {mb : Nat → Nat} {vs : Nat → TMap} {sl : Value} {inn : List (List UInt8)} {fuel : Int} {w : World} (h : IsEx B xb vb mb vs sl inn fuel w) : IsEx B xb vb mb vs sl inn fuel w.drew := h.keepAll ⟨rfl, rfl, rfl, Nat.le_refl _, fun _ _ => rfl⟩
/-- what an expansion ends with -/
def ExQ (B xb vb : Nat) (mb : Nat → Nat) (vs : Nat → TMap) (inn : List (List UInt8)) (sl : Value) (w : World) (r : Except Int (List UInt8 × Int)) (e : Ending) (w' : World) : Prop :=
  match r with
  | .ok (t, f) => e = .returned (.string ⟨t.toArray⟩) ∧ t.length ≤ 65536 ∧ ∃ sl', IsEx B xb vb mb vs sl' inn f w' ∧ RowFrom w.heap.size sl sl' ∧ ExK xb sl w w'
  | .error k => e = .panicked [stopV k] ∧ ExK xb sl w w'
def TextOK (E : XEnv) (n : Nat) : Prop := ∀ (B xb vb : Nat) (mb : Nat → Nat) (vs : Nat → TMap) (sl : Value) (inn : List (List UInt8)) (fuel : Int) (w : World) (s : List UInt8) (r : Except Int (List UInt8 × Int)),
  IsEx B xb vb mb vs sl inn fuel w → E.get = getS vs → s.length ≤ 70368744177664 → textE E n inn [] fuel s = some r → Calls Tryz.prog 103 #[.pointer (some ⟨xb, 0, none⟩), .string ⟨s.toArray⟩] w (ExQ B xb vb mb vs inn sl w r)
def MeanOK (E : XEnv) (n : Nat) : Prop := ∀ (B xb vb : Nat) (mb : Nat → Nat) (vs : Nat → TMap) (sl : Value) (inn : List (List UInt8)) (fuel : Int) (w : World) (s : List UInt8) (r : Except Int (List UInt8 × Int)),
  IsEx B xb vb mb vs sl inn fuel w → E.get = getS vs → meanE E n inn fuel s = some r → Calls Tryz.prog 132 #[.pointer (some ⟨xb, 0, none⟩), .string ⟨s.toArray⟩] w (ExQ B xb vb mb vs inn sl w r)
def UseOK (E : XEnv) (n : Nat) : Prop := ∀ (B xb vb : Nat) (mb : Nat → Nat) (vs : Nat → TMap) (sl : Value) (inn : List (List UInt8)) (fuel : Int) (w : World) (s : List UInt8) (r : Except Int (List UInt8 × Int)),
  IsEx B xb vb mb vs sl inn fuel w → E.get = getS vs → s.length ≤ 70368744177664 → useE E n inn fuel s = some r → Calls Tryz.prog 131 #[.pointer (some ⟨xb, 0, none⟩), .string ⟨s.toArray⟩] w (ExQ B xb vb mb vs inn sl w r)

theorem IsEx.push {B xb vb : Nat} {mb : Nat → Nat} {vs : Nat → TMap} {sl v' : Value} {inn : List (List UInt8)} {fuel : Int} {w w2 : World} {o : Obj} (x : List UInt8) (h : IsEx B xb vb mb vs sl inn fuel w) (hd : inn.length < 32)
    (hown : w2.ownsRow B 9 1 v' (inn.length + 1) (inn.map strV ++ [strV x])) (hg : (w.alloc o).grownBy w2 sl.ownBlock) (hat : v'.ownBlock = sl.ownBlock ∨ v'.ownBlock = some (w.alloc o).heap.size) :
    IsEx B xb vb mb vs v' (inn ++ [x]) fuel (w2.setCell ⟨xb, 2, none⟩ v') ∧ ExK xb sl w (w2.setCell ⟨xb, 2, none⟩ v') ∧ RowFrom w.heap.size sl v' := by
  have hlt := h.lt
  have hk2 : ExK xb sl w w2 := ((Keeps.refl w.heap.size _ w).alloc (Nat.le_refl _) o).grown hg (by simp) (fun k e => .inr (.inr e))
  have hk3 : ExK xb sl w (w2.setCell ⟨xb, 2, none⟩ v') := Keeps.setCell hk2 (p := ⟨xb, 2, none⟩) (.inr (.inl rfl)) _
  have hx2 : w2.heap[xb]? = w.heap[xb]? := (hg.block xb (by simp; omega) (fun e => h.apart e.symm)).trans (heap_alloc_old w o xb hlt)
  have hne : v'.ownBlock ≠ some xb := by
    rcases hat with e | e
    · rw [e]; exact h.apart
    · rw [e]; simp; omega
  refine ⟨⟨heap_set (hx2.trans h.cells) 2 _, ?_, by simp; omega, h.fuel0, h.fuelMax, h.lo, h.varsK hk3, h.vlt, h.mlt⟩, hk3, ?_⟩
  · rw [List.length_append, List.map_append]
    exact ownsRow_heap hown (fun k hk => Below.heap_setCell _ _ _ _ (fun e => hne (by rw [hk]; exact congrArg some e)))
  · intro k hk
    rcases hat with e | e
    · left; rw [← e]; exact hk
    · right
      rw [e] at hk
      have := Option.some.inj hk
      simp at this
      omega
theorem IsEx.pop {B xb vb : Nat} {mb : Nat → Nat} {vs : Nat → TMap} {inn : List (List UInt8)} {x : List UInt8} {fuel : Int} {w : World} {sl : Value} (h : IsEx B xb vb mb vs sl (inn ++ [x]) fuel w) :
    ∃ g cap, sl = .slice (some ⟨g, 0, none⟩) (inn.length + 1) cap ∧ inn.length + 1 ≤ cap ∧ cap ≤ maxLen ∧ IsEx B xb vb mb vs (.slice (some ⟨g, 0, none⟩) inn.length cap) inn fuel (w.setCell ⟨xb, 2, none⟩ (.slice (some ⟨g, 0, none⟩) inn.length cap)) := by
  have hrow := h.row
  have hd := h.deep
  rw [List.length_append] at hrow hd
  rcases hrow.2 with ⟨_, h0⟩ | ⟨g, cap, cur, rfl, hb, hg, hn, hm, hcs, ht⟩
  · simp at h0
  · have hne : g ≠ xb := fun e => h.apart (by rw [← e]; rfl)
    refine ⟨g, cap, rfl, hn, hm, heap_set h.cells 2 _, ?_, by simp at hd; omega, h.fuel0, h.fuelMax, h.lo, ?_, h.vlt, h.mlt⟩
    · refine ⟨by simp, .inr ⟨g, cap, cur, rfl, hb, ?_, ?_, hm, hcs, ?_⟩⟩
      · exact (Below.heap_setCell w ⟨xb, 2, none⟩ _ g (by show g ≠ xb; exact hne)).trans hg
      · simp at hn; omega
      · rw [List.map_append] at ht
        simp only [Nat.mul_one, List.length_singleton] at ht ⊢
        have := congrArg (List.take inn.length) ht
        rw [List.take_take, Nat.min_eq_left (by omega), List.take_append_of_le_length (by simp), show (inn.map strV).take inn.length = inn.map strV from List.take_of_length_le (by simp)] at this
        exact this
    · have hk : ExK xb (.slice (some ⟨g, 0, none⟩) (inn.length + 1) cap) w (w.setCell ⟨xb, 2, none⟩ (.slice (some ⟨g, 0, none⟩) inn.length cap)) := (Keeps.refl w.heap.size _ w).setCell (p := ⟨xb, 2, none⟩) (.inr (.inl rfl)) _
      exact h.varsK hk

set_option maxHeartbeats 4000000 in
set_option maxRecDepth 100000 in
theorem mean_none {B xb vb : Nat} {mb : Nat → Nat} {vs : Nat → TMap} {sl : Value} {inn : List (List UInt8)} {fuel : Int} (x : List UInt8) (w : World) (h : IsEx B xb vb mb vs sl inn fuel w) (hx : getS vs x = none) :
    Calls Tryz.prog 132 #[.pointer (some ⟨xb, 0, none⟩), .string ⟨x.toArray⟩] w (ExQ B xb vb mb vs inn sl w (.ok ([], fuel))) := by
  have c0 : w.cell? ⟨xb, 0, none⟩ = some (.pointer (some ⟨vb, 0, none⟩)) := Lib.cell_of_heap h.cells 0
  have HG := Lib.hid (get_any x w h.vars)
  unfold GetQ at HG
  rw [hx] at HG
  replace HG : Hid (Calls Tryz.prog 56 #[.pointer (some ⟨vb, 0, none⟩), .string ⟨x.toArray⟩] w fun e w' => e = .returned (.tuple #[.string ⟨#[]⟩, .bool false]) ∧ w = w') := HG
  have H := Lib.hid h
  unfold ExQ
  clear h hx
  go_enter Tryz.func132, Tryz.ntmps132
  go_wp2_with fail
  go_at_call 56
  refine HG.out.mono ?_
  rintro e w1 ⟨rfl, rfl⟩
  go_wp2
  go_ret
  exact ⟨rfl, Nat.zero_le _, sl, H.out, RowFrom.refl _ _, Keeps.refl _ _ _⟩

set_option maxHeartbeats 4000000 in
set_option maxRecDepth 100000 in
theorem mean_loop {B xb vb : Nat} {mb : Nat → Nat} {vs : Nat → TMap} {sl : Value} {inn : List (List UInt8)} {fuel : Int} (x v : List UInt8) (w : World) (h : IsEx B xb vb mb vs sl inn fuel w) (hx : getS vs x = some v) (hl : inn.contains x = true ∨ inn.length = 32) :
    Calls Tryz.prog 132 #[.pointer (some ⟨xb, 0, none⟩), .string ⟨x.toArray⟩] w (ExQ B xb vb mb vs inn sl w (.error 11)) := by
  have c0 : w.cell? ⟨xb, 0, none⟩ = some (.pointer (some ⟨vb, 0, none⟩)) := Lib.cell_of_heap h.cells 0
  have c2 : w.cell? ⟨xb, 2, none⟩ = some sl := Lib.cell_of_heap h.cells 2
  have HG := Lib.hid (get_any x w h.vars)
  unfold GetQ at HG
  rw [hx] at HG
  replace HG : Hid (Calls Tryz.prog 56 #[.pointer (some ⟨vb, 0, none⟩), .string ⟨x.toArray⟩] w fun e w' => e = .returned (.tuple #[.string ⟨v.toArray⟩, .bool true]) ∧ w = w') := HG
  have HC := Lib.hid (inHas_any x w h)
  have HF := Lib.hid (fun W => fail_any 11 W)
  obtain ⟨sa, sc, hsl⟩ := ownsRow_slice h.row
  subst hsl
  have hl2 : inn.contains x = true ∨ (inn.contains x = false ∧ inn.length = 32) := by
    cases hc : inn.contains x with
    | true => exact .inl rfl
    | false => rw [hc] at hl; exact .inr ⟨rfl, by simpa using hl⟩
  unfold ExQ
  generalize inn.contains x = b at HC hl2
  clear h hx hl
  go_enter Tryz.func132, Tryz.ntmps132
  go_wp2_with fail
  go_at_call 56
  refine HG.out.mono ?_
  rintro e w1 ⟨rfl, rfl⟩
  go_wp2_with fail
  go_at_call 58
  refine HC.out.mono ?_
  rintro e w1 ⟨rfl, rfl⟩
  rcases hl2 with rfl | ⟨rfl, hl3⟩
  · go_wp2_with fail
    go_at_call 126
    refine (HF.out _).mono ?_
    rintro e w1 ⟨rfl, rfl⟩
    exact ⟨rfl, rfl, Keeps.refl _ _ _⟩
  · have hl4 : ((inn.length : Int) == 32) = true := by rw [hl3]; rfl
    have hl5 : (inn.length : Int) = 32 := by omega
    go_wp2_with fail
    go_at_call 126
    refine (HF.out _).mono ?_
    rintro e w1 ⟨rfl, rfl⟩
    exact ⟨rfl, rfl, Keeps.refl _ _ _⟩
set_option maxHeartbeats 4000000 in
set_option maxRecDepth 100000 in
theorem mean_out {B xb vb : Nat} {mb : Nat → Nat} {vs : Nat → TMap} {sl : Value} {inn : List (List UInt8)} {fuel : Int} (x v : List UInt8) (w : World) (h : IsEx B xb vb mb vs sl inn fuel w) (hx : getS vs x = some v) (hl : ¬ (inn.contains x = true ∨ inn.length = 32)) (hf : fuel < (v.length : Int)) :
    Calls Tryz.prog 132 #[.pointer (some ⟨xb, 0, none⟩), .string ⟨x.toArray⟩] w (ExQ B xb vb mb vs inn sl w (.error 10)) := by
  have c0 : w.cell? ⟨xb, 0, none⟩ = some (.pointer (some ⟨vb, 0, none⟩)) := Lib.cell_of_heap h.cells 0
  have c2 : w.cell? ⟨xb, 2, none⟩ = some sl := Lib.cell_of_heap h.cells 2
  have HG := Lib.hid (get_any x w h.vars)
  unfold GetQ at HG
  rw [hx] at HG
  replace HG : Hid (Calls Tryz.prog 56 #[.pointer (some ⟨vb, 0, none⟩), .string ⟨x.toArray⟩] w fun e w' => e = .returned (.tuple #[.string ⟨v.toArray⟩, .bool true]) ∧ w = w') := HG
  have HC := Lib.hid (inHas_any x w h)
  have HF := Lib.hid (fuel_out v.length hf w h)
  obtain ⟨sa, sc, hsl⟩ := ownsRow_slice h.row
  subst hsl
  have hl1 : inn.contains x = false := by
    cases hc : inn.contains x with
    | true => exact absurd (.inl hc) hl
    | false => rfl
  have hl3 : inn.length ≠ 32 := fun e => hl (.inr e)
  have hl4 : ((inn.length : Int) == 32) = false := beq_eq_false_iff_ne.2 (by omega)
  rw [hl1] at HC
  have hl5 : ¬ (inn.length : Int) = 32 := by omega
  unfold ExQ
  clear h hx hl hl1 hl3 hf
  go_enter Tryz.func132, Tryz.ntmps132
  go_wp2_with fail
  go_at_call 56
  refine HG.out.mono ?_
  rintro e w1 ⟨rfl, rfl⟩
  go_wp2_with fail
  go_at_call 58
  refine HC.out.mono ?_
  rintro e w1 ⟨rfl, rfl⟩
  go_wp2_with fail
  go_at_call 130
  refine HF.out.mono ?_
  rintro e w1 ⟨rfl, rfl⟩
  exact ⟨rfl, rfl, Keeps.refl _ _ _⟩

set_option maxHeartbeats 4000000 in
set_option maxRecDepth 100000 in
theorem mean_go {B xb vb : Nat} {mb : Nat → Nat} {vs : Nat → TMap} {sl : Value} {inn : List (List UInt8)} {fuel : Int} (x v : List UInt8) (w : World) (h : IsEx B xb vb mb vs sl inn fuel w) (hx : getS vs x = some v) (hl : ¬ (inn.contains x = true ∨ inn.length = 32)) (hf : ¬ fuel < (v.length : Int)) (r : Except Int (List UInt8 × Int)) (E : XEnv) (n : Nat) (HT : TextOK E n) (hE : E.get = getS vs) (hr : textE E n (inn ++ [x]) [] (fuel - v.length) v = some r) :
    Calls Tryz.prog 132 #[.pointer (some ⟨xb, 0, none⟩), .string ⟨x.toArray⟩] w (ExQ B xb vb mb vs inn sl w r) := by
  have c0 : w.cell? ⟨xb, 0, none⟩ = some (.pointer (some ⟨vb, 0, none⟩)) := Lib.cell_of_heap h.cells 0
  have c2 : w.cell? ⟨xb, 2, none⟩ = some sl := Lib.cell_of_heap h.cells 2
  have HG := Lib.hid (get_any x w h.vars)
  unfold GetQ at HG
  rw [hx] at HG
  replace HG : Hid (Calls Tryz.prog 56 #[.pointer (some ⟨vb, 0, none⟩), .string ⟨x.toArray⟩] w fun e w' => e = .returned (.tuple #[.string ⟨v.toArray⟩, .bool true]) ∧ w = w') := HG
  have HC := Lib.hid (inHas_any x w h)
  have HF := Lib.hid (fuel_any v.length (by omega) w h)
  obtain ⟨sa, sc, hsl⟩ := ownsRow_slice h.row
  subst hsl
  have hl1 : inn.contains x = false := by
    cases hc : inn.contains x with
    | true => exact absurd (.inl hc) hl
    | false => rfl
  have hl3 : inn.length ≠ 32 := fun e => hl (.inr e)
  have hl4 : ((inn.length : Int) == 32) = false := beq_eq_false_iff_ne.2 (by omega)
  rw [hl1] at HC
  have hl5 : ¬ (inn.length : Int) = 32 := by omega
  obtain ⟨i0, hi0, hz0, hz1, hz2⟩ := info_parts strInfo
  have HV : Hid (v.length ≤ 70368744177664) := Lib.hid (by have := h.fuelMax; have := h.fuel0; omega)
  have HD : Hid (inn.length < 32) := Lib.hid (by have := h.deep; omega)
  have HTx := Lib.hid (fun W sl' (h : IsEx B xb vb mb vs sl' (inn ++ [x]) (fuel - v.length) W) => HT B xb vb mb vs sl' (inn ++ [x]) (fuel - v.length) W v r h hE HV.out hr)
  clear h hx hl hl1 hl3 hf
  go_enter Tryz.func132, Tryz.ntmps132
  go_wp2_with fail
  go_at_call 56
  refine HG.out.mono ?_
  rintro e wa ⟨rfl, hwa⟩
  subst hwa
  go_wp2_with fail
  go_at_call 58
  refine HC.out.mono ?_
  rintro e wa ⟨rfl, hwa⟩
  rw [hwa]
  clear hwa wa
  go_wp2_with fail
  go_at_call 130
  refine HF.out.mono ?_
  rintro e w2 ⟨rfl, h2, hk2⟩
  have c22 : w2.cell? ⟨xb, 2, none⟩ = some (.slice sa inn.length sc) := Lib.cell_of_heap h2.cells 2
  have H2 := Lib.hid h2
  have HK2 := Lib.hid hk2
  clear h2 hk2
  have HB2 : Hid (B ≤ w2.heap.size) := Lib.hid (by have := H2.out.lo; have := H2.out.lt; omega)
  go_wp2_with (at_builtin; refine wpList_append_own_at _ rfl _ _ 23 rfl B 9 i0 (.string .empty) 1 16 Tryz.underlying23 hi0 hz0 hz1 hz2 rfl (by decide) _ _ _ rfl (H2.out.row.alloc _) ⟨w2.heap.size, 0, none⟩ 1 1 [.string ⟨x.toArray⟩] rfl rfl ?a1 ?b1 ?c1 ?d1 ?e1 ?_)
  try case a1 =>
    intro j y hj
    match j, hj with
    | 0, hj => simp at hj; subst hj; exact Lib.cell_of_heap (heap_alloc_new _ _) 0
  try case b1 => first | rfl | (intro y hy; simp at hy; subst hy; rfl)
  try case c1 => unfold maxLen; have := HD.out; omega
  try case d1 => have := HD.out; omega
  try case e1 => exact Nat.le_trans HB2.out (by simp)
  intro v' w3 hown' hgrow _ hat
  obtain ⟨hp1, hp2, hp3⟩ := H2.out.push x HD.out hown' hgrow (hat.imp id (fun e => by rw [e]; simp))
  obtain ⟨sa', sc', hv'⟩ := ownsRow_slice hown'
  have HX3 : Hid (w3.heap[xb]? = w2.heap[xb]?) := Lib.hid ((hgrow.block xb (by have := H2.out.lt; simp; omega) (fun e => H2.out.apart e.symm)).trans (heap_alloc_old w2 _ xb H2.out.lt))
  have c32 : w3.cell? ⟨xb, 2, none⟩ = some (.slice sa inn.length sc) := Lib.cell_of_heap (HX3.out.trans H2.out.cells) 2
  have f32 : w3.frozen? ⟨xb, 2, none⟩ = false := Lib.frozen_of_heap (HX3.out.trans H2.out.cells) 2
  have HK3 : Hid (ExK xb (.slice sa inn.length sc) w (w3.setCell ⟨xb, 2, none⟩ v')) := Lib.hid (HK2.out.trans (RowFrom.refl _ _) hp2)
  have HR3 : Hid (RowFrom w.heap.size (.slice sa inn.length sc) v') := Lib.hid (hp3.mono HK2.out.size)
  have HT3 := Lib.hid (HTx.out _ v' hp1)
  clear hown' hgrow hat hp1 hp2 hp3
  subst hv'
  go_wp2_with fail
  go_at_call 103
  refine HT3.out.mono ?_
  cases r with
  | error k =>
    rintro e w4 ⟨rfl, hk4⟩
    exact ⟨rfl, rfl, HK3.out.trans HR3.out hk4⟩
  | ok q =>
    obtain ⟨t, f⟩ := q
    rintro e w4 ⟨rfl, htl, sl4, h4, hr4, hk4⟩
    obtain ⟨g, cap, rfl, hn4, hm4, hpop⟩ := h4.pop
    have c42 : w4.drew.cell? ⟨xb, 2, none⟩ = some (.slice (some ⟨g, 0, none⟩) (inn.length + 1) cap) := by have := Lib.cell_of_heap (w := w4.drew) h4.cells 2; simpa using this
    have f42 : w4.drew.frozen? ⟨xb, 2, none⟩ = false := Lib.frozen_of_heap (w := w4.drew) h4.cells 2
    have c42' : w4.cell? ⟨xb, 2, none⟩ = some (.slice (some ⟨g, 0, none⟩) (inn.length + 1) cap) := c42
    have f42' : w4.frozen? ⟨xb, 2, none⟩ = false := f42
    have hwr : IntKind.i64.wrap ((inn.length : Nat) : Int) = ((inn.length : Nat) : Int) := by rw [IntKind.wrap_i64]; have := HD.out; omega
    have hb4 : (0 : Int) ≤ ((inn.length : Nat) : Int) ∧ ((inn.length : Nat) : Int) ≤ (cap : Int) := ⟨by omega, by omega⟩
    have hb5 : ((inn.length : Nat) : Int) ≤ (cap : Int) := hb4.2
    have HF4 : Hid (IsEx B xb vb mb vs (.slice (some ⟨g, 0, none⟩) inn.length cap) inn f (w4.setCell ⟨xb, 2, none⟩ (.slice (some ⟨g, 0, none⟩) inn.length cap)) ∧ RowFrom w.heap.size (.slice sa inn.length sc) (.slice (some ⟨g, 0, none⟩) inn.length cap) ∧ ExK xb (.slice sa inn.length sc) w (w4.setCell ⟨xb, 2, none⟩ (.slice (some ⟨g, 0, none⟩) inn.length cap))) := Lib.hid (by
      refine ⟨hpop, HR3.out.trans (hr4.mono ?_), Keeps.setCell (HK3.out.trans HR3.out hk4) (p := ⟨xb, 2, none⟩) (.inr (.inl rfl)) _⟩
      exact HK3.out.size)
    have HTL := Lib.hid htl
    clear hn4 hm4 hpop h4 hr4 hk4 htl
    go_wp2
    go_region
    all_goals
      go_wp2
      go_ret
      exact ⟨rfl, HTL.out, _, HF4.out.1.drew, HF4.out.2.1, Keeps.drew HF4.out.2.2⟩

theorem mean_of (E : XEnv) (n : Nat) (HT : TextOK E n) : MeanOK E (n + 1) := by
  intro B xb vb mb vs sl inn fuel w x r h hE hr
  unfold meanE at hr
  rw [hE] at hr
  cases hx : getS vs x with
  | none =>
    rw [hx] at hr
    cases hr
    exact mean_none x w h hx
  | some v =>
    rw [hx] at hr
    simp only at hr
    by_cases hl : inn.contains x = true ∨ inn.length = 32
    · rw [if_pos hl] at hr
      cases hr
      exact mean_loop x v w h hx hl
    · rw [if_neg hl] at hr
      by_cases hf : fuel < (v.length : Int)
      · rw [if_pos hf] at hr
        cases hr
        exact mean_out x v w h hx hl hf
      · rw [if_neg hf] at hr
        exact mean_go x v w h hx hl hf r E n HT hE hr
end Go.Proofs.YtpjmccajkcmmaaaGreatDoor

namespace Go.Proofs.YtpjmccajkcmmaaaGreatDoor
open Go.RowKit

/-- an expansion on its way, since w0 -/
structure ExJ (B xb vb : Nat) (mb : Nat → Nat) (vs : Nat → TMap) (inn : List (List UInt8)) (sl0 : Value) (w0 : World) (sl : Value) (f : Int) (W : World) : Prop where
  ex : IsEx B xb vb mb vs sl inn f W
  row : RowFrom w0.heap.size sl0 sl
  keeps : ExK xb sl0 w0 W
theorem ExJ.start {B xb vb : Nat} {mb : Nat → Nat} {vs : Nat → TMap} {inn : List (List UInt8)} {sl : Value} {f : Int} {w : World} (h : IsEx B xb vb mb vs sl inn f w) : ExJ B xb vb mb vs inn sl w sl f w := ⟨h, RowFrom.refl _ _, Keeps.refl _ _ _⟩
theorem ExJ.step {B xb vb : Nat} {mb : Nat → Nat} {vs : Nat → TMap} {inn : List (List UInt8)} {sl0 sl sl' : Value} {f f' : Int} {w0 W W' : World} (h : ExJ B xb vb mb vs inn sl0 w0 sl f W) (hx : IsEx B xb vb mb vs sl' inn f' W') (hr : RowFrom W.heap.size sl sl') (hk : ExK xb sl W W') : ExJ B xb vb mb vs inn sl0 w0 sl' f' W' :=
  ⟨hx, h.row.trans (hr.mono h.keeps.size), h.keeps.trans h.row hk⟩
theorem ExJ.below {B xb vb : Nat} {mb : Nat → Nat} {vs : Nat → TMap} {inn : List (List UInt8)} {sl0 sl : Value} {f : Int} {w0 W W' : World} (h : ExJ B xb vb mb vs inn sl0 w0 sl f W) (hb : Below W.heap.size W W') : ExJ B xb vb mb vs inn sl0 w0 sl f W' :=
  h.step (h.ex.keepAll hb) (RowFrom.refl _ _) (Keeps.of hb _)
theorem ExJ.out {B xb vb : Nat} {mb : Nat → Nat} {vs : Nat → TMap} {inn : List (List UInt8)} {sl0 sl : Value} {f : Int} {w0 W : World} (h : ExJ B xb vb mb vs inn sl0 w0 sl f W) (t : List UInt8) (ht : t.length ≤ 65536) (e : Ending) (he : e = .returned (.string ⟨t.toArray⟩)) : ExQ B xb vb mb vs inn sl0 w0 (.ok (t, f)) e W := ⟨he, ht, sl, h.ex, h.row, h.keeps⟩

theorem head_is (x : List UInt8) (c : UInt8) : Lib.hasPrefix x [c] = (x.head? == some c) := by
  cases x with
  | nil => rfl
  | cons d r =>
    by_cases h : d = c
    · subst h
      show ((d == d) && _) = _
      simp
    · have e1 : (c == d) = false := beq_eq_false_iff_ne.2 (Ne.symm h)
      have e2 : ((d :: r).head? == some c) = false := beq_eq_false_iff_ne.2 (fun e => h (Option.some.inj e))
      rw [e2]
      show ((c == d) && _) = false
      rw [e1]
      rfl
theorem headS_len {s raw more : List UInt8} {has : Bool} (h : headS s = some (raw, more, has)) : raw.length ≤ s.length ∧ more.length ≤ s.length := by
  unfold headS at h
  split at h
  · cases h
  · cases h
    rw [List.length_take, List.length_drop]
    omega
  · cases h
    exact ⟨Nat.le_refl _, Nat.zero_le _⟩

def useRest (E : XEnv) (n : Nat) (inn : List (List UInt8)) (name more2 : List UInt8) (has : Bool) (f2 : Int) : XRes :=
  if more2.head? = some 68 then some (.ok (if (E.get name).isSome then more2.drop 1 else [], f2))
  else if more2.head? = some 85 ∧ (E.get name).isNone then some (.ok (more2.drop 1, f2))
  else match meanE E n inn f2 name with
    | none => none
    | some (.error e) => some (.error e)
    | some (.ok (t, f3)) => if has = false ∨ more2.head? = some 85 then some (.ok (t, f3)) else match E.mods more2 t with
      | none => none
      | some (.error e) => some (.error e)
      | some (.ok u) => some (.ok (u, f3))

set_option maxHeartbeats 8000000 in
set_option maxRecDepth 100000 in
theorem use_of (E : XEnv) (hm : ∀ a b, E.mods a b = none) (n : Nat) (HT : TextOK E n) (HM : MeanOK E n) : UseOK E (n + 1) := by
  intro B xb vb mb vs sl inn fuel w s r h hE hsl hr
  unfold useE at hr
  cases hh : headS s with
  | none => rw [hh] at hr; simp at hr
  | some q =>
    obtain ⟨raw, more, has⟩ := q
    obtain ⟨hl1, hl2⟩ := headS_len hh
    rw [hh] at hr
    simp only at hr
    have HH := Lib.hid (fun W => head_any s (by omega) _ hh W)
    simp only [headV] at HH
    cases hr1 : textE E n inn [] fuel raw with
    | none => rw [hr1] at hr; simp at hr
    | some r1 =>
      rw [hr1] at hr
      have HT1 := Lib.hid (fun W (h : IsEx B xb vb mb vs sl inn fuel W) => HT B xb vb mb vs sl inn fuel W raw r1 h hE (by omega) hr1)
      have HJ0 := Lib.hid (ExJ.start h)
      have HLm : Hid (more.length ≤ 70368744177664) := Lib.hid (by omega)
      obtain ⟨post, hpost⟩ : ∃ post, post = ExQ B xb vb mb vs inn sl w r := ⟨_, rfl⟩
      rw [← hpost]
      have HPost := Lib.hid hpost
      clear h hh hl1 hl2 hsl hr1 hpost
      go_enter Tryz.func131, Tryz.ntmps131
      go_wp2_with fail
      go_at_call 148
      refine (HH.out _).mono ?_
      rintro e w1 ⟨rfl, hb1⟩
      have HJ1 := Lib.hid (HJ0.out.below hb1)
      clear hb1
      have HT1' := Lib.hid (HT1.out w1 HJ1.out.ex)
      go_wp2_with fail
      go_at_call 103
      refine HT1'.out.mono ?_
      cases r1 with
      | error k =>
        cases hr
        rintro e w2 ⟨rfl, hk2⟩
        exact ⟨rfl, by rw [HPost.out]; exact ⟨rfl, HJ1.out.keeps.trans HJ1.out.row hk2⟩⟩
      | ok q =>
        obtain ⟨name, f1⟩ := q
        simp only at hr
        rintro e w2 ⟨rfl, htl1, sl2, h2, hrow2, hk2⟩
        have HJ2 := Lib.hid (HJ1.out.step h2 hrow2 hk2)
        clear h2 hrow2 hk2
        cases hr2 : textE E n inn [] f1 more with
        | none => rw [hr2] at hr; simp at hr
        | some r2 =>
          rw [hr2] at hr
          have HT2 := Lib.hid (HT B xb vb mb vs sl2 inn f1 w2 more r2 HJ2.out.ex hE HLm.out hr2)
          clear hr2
          go_wp2_with fail
          go_at_call 103
          refine HT2.out.mono ?_
          cases r2 with
          | error k =>
            cases hr
            rintro e w3 ⟨rfl, hk3⟩
            exact ⟨rfl, by rw [HPost.out]; exact ⟨rfl, HJ2.out.keeps.trans HJ2.out.row hk3⟩⟩
          | ok q =>
            obtain ⟨more2, f2⟩ := q
            simp only at hr
            change useRest E n inn name more2 has f2 = some r at hr
            unfold useRest at hr
            rw [hE] at hr
            rintro e w3 ⟨rfl, htl2, sl3, h3, hrow3, hk3⟩
            have hJ3 := HJ2.out.step h3 hrow3 hk3
            have c0 : w3.cell? ⟨xb, 0, none⟩ = some (.pointer (some ⟨vb, 0, none⟩)) := Lib.cell_of_heap h3.cells 0
            have HG := Lib.hid (get_any name w3 h3.vars)
            unfold GetQ at HG
            have HJ3 := Lib.hid hJ3
            have hp : ∀ c W, Calls Tryz.prog 72 #[.string ⟨more2.toArray⟩, .string ⟨#[c]⟩] W fun e w' => e = .returned (.bool (more2.head? == some c)) ∧ w' = W := fun c W => by
              rw [← head_is]
              exact Tryz.strings_HasPrefix ⟨more2.toArray⟩ ⟨#[c]⟩ W
            have HP68 := Lib.hid (hp 68)
            have HP85 := Lib.hid (hp 85)
            clear h3 hrow3 hk3 hJ3 hp
            have hgv : ∃ gv gb, getV (getS vs name) = .tuple #[.string gv, .bool gb] ∧ (getS vs name).isSome = gb := by
              cases getS vs name with
              | none => exact ⟨_, _, rfl, rfl⟩
              | some v => exact ⟨_, _, rfl, rfl⟩
            obtain ⟨gv, gb, hgv1, hgv2⟩ := hgv
            rw [hgv1] at HG
            have hgn : (getS vs name).isNone = !gb := by rw [← hgv2]; cases getS vs name <;> rfl
            rw [hgv2, hgn] at hr
            go_wp2_with fail
            go_at_call 56
            refine HG.out.mono ?_
            rintro e wa ⟨rfl, hwa⟩
            subst hwa
            go_wp2_with fail
            go_at_call 72
            refine (HP68.out _).mono ?_
            rintro e wa ⟨rfl, hwa⟩
            rw [hwa]
            clear hwa wa
            by_cases h68 : more2.head? = some 68
            · have e68 : (more2.head? == some 68) = true := beq_iff_eq.2 h68
              rw [if_pos h68] at hr
              cases hr
              rw [e68]
              have hne : 0 < more2.length := by
                cases more2 with
                | nil => cases h68
                | cons a b => simp
              have hs2 : ∀ W : World, (Instr.slice 9 (.string ⟨more2.toArray⟩) (some (.int .i64 1)) none none).run Tryz.prog W = .ok (.string ⟨(more2.drop 1).toArray⟩) W := fun W => by
                have hsz : (⟨more2.toArray⟩ : ByteArray).size = more2.length := by show more2.toArray.size = _; simp
                have := run_slice_string_l W 9 ⟨more2.toArray⟩ Tryz.underlying9 .i64 (1 : Int) (by omega) (by rw [hsz]; omega)
                rw [this]
                congr 2
                apply bs_ext
                rw [tail_list]
                first | rfl | simp
              have HOut : Hid (∀ e, e = .returned (.string ⟨(if gb = true then more2.drop 1 else []).toArray⟩) → ExQ B xb vb mb vs inn sl w (.ok (if gb = true then more2.drop 1 else [], f2)) e w3) := Lib.hid (fun e he => HJ3.out.out _ (by
                split
                · rw [List.length_drop]; omega
                · exact Nat.zero_le _) e he)
              generalize more2.drop 1 = x1 at hs2 HOut HPost
              clear e68 h68 hgv1 hgv2 hgn
              cases gb with
              | true =>
                go_wp2
                rw [HPost.out]
                exact HOut.out _ rfl
              | false =>
                go_wp2
                rw [HPost.out]
                exact HOut.out _ rfl
            · have e68 : (more2.head? == some 68) = false := beq_eq_false_iff_ne.2 h68
              rw [if_neg h68] at hr
              rw [e68]
              go_wp2_with fail
              go_at_call 72
              refine (HP85.out _).mono ?_
              rintro e wa ⟨rfl, hwa⟩
              rw [hwa]
              clear hwa wa
              by_cases h85 : more2.head? = some 85 ∧ (!gb) = true
              · have e85 : (more2.head? == some 85) = true := beq_iff_eq.2 h85.1
                have hgb : gb = false := by simpa using h85.2
                rw [if_pos h85] at hr
                cases hr
                rw [e85]
                have hne : 0 < more2.length := by
                  cases more2 with
                  | nil => cases h85.1
                  | cons a b => simp
                have hs2 : ∀ W : World, (Instr.slice 9 (.string ⟨more2.toArray⟩) (some (.int .i64 1)) none none).run Tryz.prog W = .ok (.string ⟨(more2.drop 1).toArray⟩) W := fun W => by
                  have hsz : (⟨more2.toArray⟩ : ByteArray).size = more2.length := by show more2.toArray.size = _; simp
                  have := run_slice_string_l W 9 ⟨more2.toArray⟩ Tryz.underlying9 .i64 (1 : Int) (by omega) (by rw [hsz]; omega)
                  rw [this]
                  congr 2
                  apply bs_ext
                  rw [tail_list]
                  first | rfl | simp
                have HOut : Hid (∀ e, e = .returned (.string ⟨(more2.drop 1).toArray⟩) → ExQ B xb vb mb vs inn sl w (.ok (more2.drop 1, f2)) e w3) := Lib.hid (fun e he => HJ3.out.out _ (by rw [List.length_drop]; omega) e he)
                generalize more2.drop 1 = x1 at hs2 HOut HPost
                clear e68 h68 hgv1 hgv2 hgn e85 h85
                subst hgb
                go_wp2
                rw [HPost.out]
                exact HOut.out _ rfl
              · rw [if_neg h85] at hr
                cases hr3 : meanE E n inn f2 name with
                | none => rw [hr3] at hr; simp at hr
                | some r3 =>
                  rw [hr3] at hr
                  have HM3 := Lib.hid (HM B xb vb mb vs sl3 inn f2 w3 name r3 HJ3.out.ex hE hr3)
                  clear hr3
                  have hcase : (more2.head? == some 85) = false ∨ ((more2.head? == some 85) = true ∧ gb = true) := by
                    by_cases e : more2.head? = some 85
                    · right
                      refine ⟨beq_iff_eq.2 e, ?_⟩
                      cases gb with
                      | true => rfl
                      | false => exact absurd ⟨e, rfl⟩ h85
                    · left; exact beq_eq_false_iff_ne.2 e
                  rcases hcase with e85 | ⟨e85, rfl⟩
                  all_goals
                    rw [e85]
                    go_wp2_with fail
                    go_at_call 132
                    refine HM3.out.mono ?_
                    cases r3 with
                    | error k =>
                      cases hr
                      rintro e w4 ⟨rfl, hk4⟩
                      exact ⟨rfl, by rw [HPost.out]; exact ⟨rfl, HJ3.out.keeps.trans HJ3.out.row hk4⟩⟩
                    | ok q =>
                      obtain ⟨t, f3⟩ := q
                      simp only at hr
                      rintro e w4 ⟨rfl, htl4, sl4, h4, hrow4, hk4⟩
                      have hJ4 := HJ3.out.step h4 hrow4 hk4
                      by_cases hhas : has = false ∨ more2.head? = some 85
                      · rw [if_pos hhas] at hr
                        cases hr
                        have HOut : Hid (∀ e, e = .returned (.string ⟨t.toArray⟩) → ExQ B xb vb mb vs inn sl w (.ok (t, f3)) e w4) := Lib.hid (fun e he => hJ4.out _ htl4 e he)
                        have hh : has = false ∨ (more2.head? == some 85) = true := hhas.imp id beq_iff_eq.2
                        rw [e85] at hh
                        clear h4 hrow4 hk4 hJ4 hhas h85 h68
                        cases has with
                        | false =>
                          clear hh
                          go_wp2
                          rw [HPost.out]
                          exact HOut.out _ rfl
                        | true =>
                          first
                          | (exfalso
                             revert hh
                             decide)
                          | (clear hh
                             go_wp2
                             rw [HPost.out]
                             exact HOut.out _ rfl)
                      · rw [if_neg hhas, hm] at hr
                        simp at hr
end Go.Proofs.YtpjmccajkcmmaaaGreatDoor
