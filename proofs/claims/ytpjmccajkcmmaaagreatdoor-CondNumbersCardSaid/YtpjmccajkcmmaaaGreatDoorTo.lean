/- expand: the state; Cut at a dollar; fail, take. expand: inner, head; what is being found. -/
import Derived.Test.YtpjmccajkcmmaaaGreatDoorTj
import Derived.Test.YtpjmccajkcmmaaaGreatDoorTi
import Derived.Test.YtpjmccajkcmmaaaGreatDoorShelf2
import Derived.Maps.AppendAt
import Derived.Shelf.Strings.Search2
namespace Go.Proofs.YtpjmccajkcmmaaaGreatDoor
open Go.RowKit

theorem cutIx_any (s : ByteArray) (c : UInt8) (w : World) : Calls Tryz.prog 158 #[.string s, .string ⟨#[c]⟩] w fun e w' => e = .returned (.int .i64 (Lib.indexByte s.data.toList c)) ∧ w' = w := Any.stringslite_Index_one { Tryz.lays145 with } s c w
theorem index_dollar (l : List UInt8) : (Lib.indexByte l 36 = -1 ∧ l.takeWhile notDollar = l ∧ l.dropWhile notDollar = []) ∨ ∃ i : Nat, Lib.indexByte l 36 = (i : Int) ∧ i < l.length ∧ l.takeWhile notDollar = l.take i ∧ l.dropWhile notDollar = l.drop i := by
  induction l with
  | nil => left; exact ⟨rfl, rfl, rfl⟩
  | cons c r ih =>
    unfold Lib.indexByte
    by_cases hc : c = 36
    · subst hc
      right
      exact ⟨0, by simp, by simp, by simp [notDollar], by simp [notDollar]⟩
    · have h1 : (c == 36) = false := beq_eq_false_iff_ne.2 hc
      have h2 : notDollar c = true := by simp [notDollar, hc]
      rcases ih with ⟨a, b, d⟩ | ⟨i, a, b, d, e⟩
      · left
        simp [h1, h2, a, b, d]
      · right
        refine ⟨i + 1, ?_, by simpa using b, by simp [h2, d], by simp [h2, e]⟩
        simp [h1, a]
def CutQ (l : List UInt8) (w : World) (e : Ending) (w' : World) : Prop := e = .returned (.tuple #[.string ⟨(l.takeWhile notDollar).toArray⟩, .string ⟨((l.dropWhile notDollar).drop 1).toArray⟩, .bool (!(l.dropWhile notDollar).isEmpty)]) ∧ Below w.heap.size w w'
set_option maxHeartbeats 1000000 in
set_option maxRecDepth 100000 in
theorem liteCut_any (s : ByteArray) (hs : s.size ≤ 140737488351232) (w : World) : Calls Tryz.prog 147 #[.string s, .string ⟨#[36]⟩] w (CutQ s.data.toList w) := by
  have HI := Lib.hid (fun W => cutIx_any s 36 W)
  have hl : s.data.toList.length = s.size := by simp
  unfold CutQ
  rcases index_dollar s.data.toList with ⟨a, b, d⟩ | ⟨i, a, b, d, e⟩
  · rw [a] at HI
    rw [b, d]
    clear a b d
    go_enter Tryz.func147, Tryz.ntmps147
    go_wp2_with fail
    go_at_call 158
    refine (HI.out _).mono ?_
    rintro e w1 ⟨rfl, rfl⟩
    go_wp2
    go_ret3
    exact ⟨rfl, Below.refl _ _⟩
  · rw [a] at HI
    have hne : (!(s.data.toList.drop i).isEmpty) = true := by
      cases hx : s.data.toList.drop i with
      | nil => have := congrArg List.length hx; simp at this; omega
      | cons a b => rfl
    rw [d, e, hne, List.drop_drop]
    have hs1 : ∀ W : World, (Instr.slice 9 (.string s) none (some (.int .i64 (i : Int))) none).run Tryz.prog W = .ok (.string (s.extract 0 i)) W := fun W => by
      have := run_slice_string_h W 9 s Tryz.underlying9 .i64 (i : Int) (by omega) (by omega)
      rw [this]
      congr 2
    have hs2 : ∀ W : World, (Instr.slice 9 (.string s) (some (.int .i64 ((i : Int) + 1))) none none).run Tryz.prog W = .ok (.string (s.extract (i + 1) s.size)) W := fun W => by
      have := run_slice_string_l W 9 s Tryz.underlying9 .i64 ((i : Int) + 1) (by omega) (by omega)
      rw [this]
      congr 2
    have e1 : s.extract 0 i = ⟨(s.data.toList.take i).toArray⟩ := list_str s i
    have e2 : s.extract (i + 1) s.size = ⟨(s.data.toList.drop (i + 1)).toArray⟩ := by
      apply bs_ext
      rw [tail_list]
    rw [e1] at hs1
    rw [e2] at hs2
    have h0 : (0 : Int) ≤ (i : Int) := by omega
    have hwr : IntKind.i64.wrap ((i : Int) + 1) = (i : Int) + 1 := by rw [IntKind.wrap_i64]; omega
    generalize s.data.toList.take i = x1 at hs1 ⊢
    generalize s.data.toList.drop (i + 1) = x2 at hs2 ⊢
    clear a b d e e1 e2 hne hl hs
    go_enter Tryz.func147, Tryz.ntmps147
    go_wp2_with fail
    go_at_call 158
    refine (HI.out _).mono ?_
    rintro e w1 ⟨rfl, rfl⟩
    go_wp2
    go_quiet (fail)
    go_wp2
    go_ret3
    exact ⟨rfl, belowN w1 _⟩
set_option maxHeartbeats 1000000 in
set_option maxRecDepth 100000 in
theorem cut_any (s : ByteArray) (hs : s.size ≤ 140737488351232) (w : World) : Calls Tryz.prog 124 #[.string s, .string ⟨#[36]⟩] w (CutQ s.data.toList w) := by
  have HC := Lib.hid (liteCut_any s hs w)
  unfold CutQ at HC ⊢
  generalize s.data.toList.takeWhile notDollar = x1 at HC ⊢
  generalize (s.data.toList.dropWhile notDollar).isEmpty = x3 at HC ⊢
  generalize (s.data.toList.dropWhile notDollar).drop 1 = x2 at HC ⊢
  go_enter Tryz.func124, Tryz.ntmps124
  go_wp2_with fail
  go_at_call 147
  refine HC.out.mono ?_
  rintro e w1 ⟨rfl, hb⟩
  go_wp2
  go_ret3
  exact ⟨rfl, hb⟩

/-- an expansion's state lies at block xb; its rows from B on; the variables below B -/
structure IsEx (B xb vb : Nat) (mb : Nat → Nat) (vs : Nat → TMap) (sl : Value) (inn : List (List UInt8)) (fuel : Int) (w : World) : Prop where
  cells : w.heap[xb]? = some (.cells #[.pointer (some ⟨vb, 0, none⟩), .int .i64 fuel, sl] 182 (0, 0))
  row : w.ownsRow B 9 1 sl inn.length (inn.map strV)
  deep : inn.length ≤ 32
  fuel0 : 0 ≤ fuel
  fuelMax : fuel ≤ 70368744177664
  lo : B ≤ xb
  vars : IsVars vb mb vs w
  vlt : vb < B
  mlt : ∀ i, i < 5 → mb i < B
abbrev ExK (xb : Nat) (sl : Value) (w w' : World) : Prop := Keeps w.heap.size (fun k => k = xb ∨ sl.ownBlock = some k) w w'
def stopV (k : Int) : PanicEntry := { v := .iface 178 (.agg #[.int .i64 k]), recovered := false }
theorem IsEx.keepAll {B xb vb : Nat} {mb : Nat → Nat} {vs : Nat → TMap} {sl : Value} {inn : List (List UInt8)} {fuel : Int} {w w' : World} (h : IsEx B xb vb mb vs sl inn fuel w) (hb : Below w.heap.size w w') : IsEx B xb vb mb vs sl inn fuel w' :=
  ⟨(hb.block xb (Array.getElem?_eq_some_iff.1 h.cells).1).trans h.cells, by
    refine ⟨h.row.1, h.row.2.imp id ?_⟩
    rintro ⟨g, cap, cur, a, b, c, r⟩
    exact ⟨g, cap, cur, a, b, (hb.block g (Array.getElem?_eq_some_iff.1 c).1).trans c, r⟩, h.deep, h.fuel0, h.fuelMax, h.lo, h.vars.below hb, h.vlt, h.mlt⟩
theorem ownsRow_heap {w w' : World} {B : Nat} {e : TypeId} {size : Nat} {v : Value} {n : Nat} {xs : List Value} (h : w.ownsRow B e size v n xs) (hk : ∀ k, v.ownBlock = some k → w'.heap[k]? = w.heap[k]?) : w'.ownsRow B e size v n xs := by
  refine ⟨h.1, ?_⟩
  rcases h.2 with h | ⟨g, cap, cur, a, b, hg, r⟩
  · exact .inl h
  · refine .inr ⟨g, cap, cur, a, b, ?_, r⟩
    rw [hk g (by rw [a]; rfl)]
    exact hg
theorem IsEx.apart {B xb vb : Nat} {mb : Nat → Nat} {vs : Nat → TMap} {sl : Value} {inn : List (List UInt8)} {fuel : Int} {w : World} (h : IsEx B xb vb mb vs sl inn fuel w) : sl.ownBlock ≠ some xb := by
  intro e
  rcases h.row.2 with ⟨rfl, _⟩ | ⟨g, cap, cur, rfl, _, hg, _⟩
  · simp [Value.ownBlock] at e
  · simp [Value.ownBlock] at e
    subst e
    rw [h.cells] at hg
    simp at hg
theorem IsEx.own_lo {B xb vb : Nat} {mb : Nat → Nat} {vs : Nat → TMap} {sl : Value} {inn : List (List UInt8)} {fuel : Int} {w : World} (h : IsEx B xb vb mb vs sl inn fuel w) (k : Nat) (hk : sl.ownBlock = some k) : B ≤ k ∧ k < w.heap.size := h.row.lt k hk
theorem IsEx.lt {B xb vb : Nat} {mb : Nat → Nat} {vs : Nat → TMap} {sl : Value} {inn : List (List UInt8)} {fuel : Int} {w : World} (h : IsEx B xb vb mb vs sl inn fuel w) : xb < w.heap.size := (Array.getElem?_eq_some_iff.1 h.cells).1
/-- the variables stand where only the state turns -/
theorem IsEx.varsK {B xb vb : Nat} {mb : Nat → Nat} {vs : Nat → TMap} {sl : Value} {inn : List (List UInt8)} {fuel : Int} {w w' : World} (h : IsEx B xb vb mb vs sl inn fuel w) (hk : ExK xb sl w w') : IsVars vb mb vs w' := by
  have hlt := h.lt
  have hlo := h.lo
  refine h.vars.keep (hk.block vb ?_ ?_) (fun i hi => hk.block (mb i) ?_ ?_)
  · have := h.vlt; omega
  · rintro (e | e)
    · have := h.vlt; omega
    · have := (h.own_lo _ e).1; have := h.vlt; omega
  · have := h.mlt i hi; omega
  · rintro (e | e)
    · have := h.mlt i hi; omega
    · have := (h.own_lo _ e).1; have := h.mlt i hi; omega

set_option maxHeartbeats 1000000 in
set_option maxRecDepth 100000 in
theorem fail_any (k : Int) (w : World) : Calls Tryz.prog 126 #[.int .i64 k] w fun e w' => e = .panicked [stopV k] ∧ w' = w := by
  go_enter Tryz.func126, Tryz.ntmps126
  go_wp2
  exact ⟨rfl, rfl, rfl⟩

set_option maxHeartbeats 1000000 in
set_option maxRecDepth 100000 in
theorem fuel_any {B xb vb : Nat} {mb : Nat → Nat} {vs : Nat → TMap} {sl : Value} {inn : List (List UInt8)} {fuel : Int} (n : Nat) (hn : (n : Int) ≤ fuel) (w : World) (h : IsEx B xb vb mb vs sl inn fuel w) :
    Calls Tryz.prog 130 #[.pointer (some ⟨xb, 0, none⟩), .int .i64 n] w fun e w' => e = .returned (.tuple #[]) ∧ IsEx B xb vb mb vs sl inn (fuel - n) w' ∧ ExK xb sl w w' := by
  have c1 : w.cell? ⟨xb, 1, none⟩ = some (.int .i64 fuel) := Lib.cell_of_heap h.cells 1
  have f1 : w.frozen? ⟨xb, 1, none⟩ = false := Lib.frozen_of_heap h.cells 1
  have hlt : ¬ fuel < (n : Int) := by omega
  have h0 := h.fuel0
  have hM := h.fuelMax
  obtain ⟨f2, hf2⟩ : ∃ f2, f2 = fuel - n := ⟨_, rfl⟩
  have hwr : IntKind.i64.wrap (fuel - (n : Int)) = f2 := by rw [IntKind.wrap_i64]; omega
  rw [← hf2]
  have HF : Hid (IsEx B xb vb mb vs sl inn f2 (w.setCell ⟨xb, 1, none⟩ (.int .i64 f2)) ∧ ExK xb sl w (w.setCell ⟨xb, 1, none⟩ (.int .i64 f2))) := Lib.hid (by
    have hk : ExK xb sl w (w.setCell ⟨xb, 1, none⟩ (.int .i64 f2)) := (Keeps.refl w.heap.size _ w).setCell (p := ⟨xb, 1, none⟩) (.inr (.inl rfl)) _
    refine ⟨⟨heap_set h.cells 1 _, ownsRow_heap h.row (fun k hk => Below.heap_setCell _ _ _ _ ?_), h.deep, by omega, by omega, h.lo, h.varsK hk, h.vlt, h.mlt⟩, hk⟩
    intro e
    exact h.apart (by rw [hk, e]))
  clear h h0 hM hf2 hn
  go_enter Tryz.func130, Tryz.ntmps130
  go_wp2
  go_end0
  exact ⟨rfl, HF.out⟩
set_option maxHeartbeats 1000000 in
set_option maxRecDepth 100000 in
theorem fuel_out {B xb vb : Nat} {mb : Nat → Nat} {vs : Nat → TMap} {sl : Value} {inn : List (List UInt8)} {fuel : Int} (n : Nat) (hn : fuel < (n : Int)) (w : World) (h : IsEx B xb vb mb vs sl inn fuel w) :
    Calls Tryz.prog 130 #[.pointer (some ⟨xb, 0, none⟩), .int .i64 n] w fun e w' => e = .panicked [stopV 10] ∧ w' = w := by
  have c1 : w.cell? ⟨xb, 1, none⟩ = some (.int .i64 fuel) := Lib.cell_of_heap h.cells 1
  have HF := Lib.hid (fail_any 10 w)
  clear h
  go_enter Tryz.func130, Tryz.ntmps130
  go_wp2_with fail
  go_at_call 126
  refine HF.out.mono ?_
  rintro e w1 ⟨rfl, rfl⟩
  exact ⟨rfl, rfl, rfl⟩
end Go.Proofs.YtpjmccajkcmmaaaGreatDoor

namespace Go.Proofs.YtpjmccajkcmmaaaGreatDoor
open Go.RowKit

def innerS (u : List UInt8) : Option (List UInt8) := match u with
  | _ :: d :: r => if d = 123 ∨ d = 40 then some r.dropLast else none
  | _ => none
def innerV (q : Option (List UInt8)) : Value := match q with | some x => .tuple #[.string ⟨x.toArray⟩, .bool true] | none => .tuple #[.string ⟨#[]⟩, .bool false]
set_option maxHeartbeats 1000000 in
set_option maxRecDepth 100000 in
theorem inner_any (u : List UInt8) (hl : u.length ≤ 140737488351232) (hb : (innerS u).isSome = true → 3 ≤ u.length) (w : World) :
    Calls Tryz.prog 128 #[.string ⟨u.toArray⟩] w fun e w' => e = .returned (innerV (innerS u)) ∧ Below w.heap.size w w' := by
  have hsz : (⟨u.toArray⟩ : ByteArray).size = u.length := by show u.toArray.size = _; simp
  by_cases h2 : u.length < 2
  · have hi : innerS u = none := by
      match u, h2 with
      | [], _ => rfl
      | [_], _ => rfl
      | _ :: _ :: _, h => simp at h; omega
    rw [hi]
    have hlt : (u.length : Int) < 2 := by omega
    clear hb hi h2
    go_enter Tryz.func128, Tryz.ntmps128
    go_wp2
    go_ret2
    exact ⟨rfl, Below.refl _ _⟩
  · obtain ⟨c, d, r, rfl⟩ : ∃ c d r, u = c :: d :: r := by
      match u, h2 with
      | [], h => simp at h
      | [_], h => simp at h
      | c :: d :: r, _ => exact ⟨c, d, r, rfl⟩
    have hlt : decide (((c :: d :: r).length : Int) < 2) = false := decide_eq_false (by omega)
    have h1 : 1 < (⟨(c :: d :: r).toArray⟩ : ByteArray).size := by rw [hsz]; omega
    have e123 := byte_eq ⟨(c :: d :: r).toArray⟩ 1 h1 123 123 rfl
    have e40 := byte_eq ⟨(c :: d :: r).toArray⟩ 1 h1 40 40 rfl
    have hg : (⟨(c :: d :: r).toArray⟩ : ByteArray).data.toList.getD 1 0 = d := by simp
    rw [hg] at e123 e40
    have hi : innerS (c :: d :: r) = if d = 123 ∨ d = 40 then some r.dropLast else none := rfl
    by_cases hd : d = 123 ∨ d = 40
    · rw [if_pos hd] at hi
      have h3 := hb (by rw [hi]; rfl)
      rw [hi]
      have hs1 : ∀ W : World, (Instr.slice 9 (.string ⟨(c :: d :: r).toArray⟩) (some (.int .i64 2)) (some (.int .i64 (((c :: d :: r).length : Int) - 1))) none).run Tryz.prog W = .ok (.string ((⟨(c :: d :: r).toArray⟩ : ByteArray).extract 2 ((c :: d :: r).length - 1))) W := fun W => by
        have := run_slice_string W 9 ⟨(c :: d :: r).toArray⟩ .i64 .i64 (2 : Int) (((c :: d :: r).length : Int) - 1) Tryz.underlying9 (by omega) (by omega) (by rw [hsz]; omega)
        rw [this]
        congr 2
        congr 1
        omega
      have hes : (⟨(c :: d :: r).toArray⟩ : ByteArray).extract 2 ((c :: d :: r).length - 1) = ⟨(r.dropLast).toArray⟩ := ext_str _ 2 _ _ (by simp [List.dropLast_eq_take])
      rw [hes] at hs1
      have hwr : IntKind.i64.wrap (((c :: d :: r).length : Int) - 1) = ((c :: d :: r).length : Int) - 1 := by rw [IntKind.wrap_i64]; omega
      generalize r.dropLast = x at hs1 ⊢
      have hn : ((⟨(c :: d :: r).toArray⟩ : ByteArray).size : Int) = ((c :: d :: r).length : Int) := by rw [hsz]
      generalize hL : (c :: d :: r).length = L at *
      generalize (⟨(c :: d :: r).toArray⟩ : ByteArray) = S at *
      have HW : Hid (((S[1]'h1).toNat : Int) = 123 ∨ ((S[1]'h1).toNat : Int) = 40) := Lib.hid (by
        rcases hd with rfl | rfl
        · left; simpa using e123
        · right; simpa using e40)
      have HE := Lib.hid hes
      clear hi hes hb hg h3 h2 hL e123 e40 hd
      rcases HW.out with hb1 | hb1
      · go_enter Tryz.func128, Tryz.ntmps128
        go_wp2
        go_ret2
        exact ⟨by first | rfl | (rw [← HE.out]; rfl), Below.refl _ _⟩
      · go_enter Tryz.func128, Tryz.ntmps128
        go_wp2
        go_ret2
        exact ⟨by first | rfl | (rw [← HE.out]; rfl), Below.refl _ _⟩
    · rw [if_neg hd] at hi
      rw [hi]
      have n123 : ((((⟨(c :: d :: r).toArray⟩ : ByteArray)[1]'h1).toNat : Int) == 123) = false := e123.trans (beq_eq_false_iff_ne.2 (fun h => hd (.inl h)))
      have n40 : ((((⟨(c :: d :: r).toArray⟩ : ByteArray)[1]'h1).toNat : Int) == 40) = false := e40.trans (beq_eq_false_iff_ne.2 (fun h => hd (.inr h)))
      have hn : ((⟨(c :: d :: r).toArray⟩ : ByteArray).size : Int) = ((c :: d :: r).length : Int) := by rw [hsz]
      have m123 : ((((⟨(c :: d :: r).toArray⟩ : ByteArray)[1]'h1).toNat : Int) != 123) = true := by rw [bne, n123]; rfl
      have m40 : ((((⟨(c :: d :: r).toArray⟩ : ByteArray)[1]'h1).toNat : Int) != 40) = true := by rw [bne, n40]; rfl
      have k123 : ¬ ((((⟨(c :: d :: r).toArray⟩ : ByteArray)[1]'h1).toNat : Int) = 123) := beq_eq_false_iff_ne.1 n123
      have k40 : ¬ ((((⟨(c :: d :: r).toArray⟩ : ByteArray)[1]'h1).toNat : Int) = 40) := beq_eq_false_iff_ne.1 n40
      have hlt2 : ¬ ((c :: d :: r).length : Int) < 2 := by omega
      clear hb hi hd hg e123 e40 hlt
      generalize (c :: d :: r).length = L at *
      generalize (⟨(c :: d :: r).toArray⟩ : ByteArray) = S at *
      clear h2 hsz
      go_enter Tryz.func128, Tryz.ntmps128
      go_wp2
      go_ret2
      exact ⟨rfl, Below.refl _ _⟩

def headV (q : List UInt8 × List UInt8 × Bool) : Value := .tuple #[.string ⟨q.1.toArray⟩, .string ⟨q.2.1.toArray⟩, .bool q.2.2]
set_option maxHeartbeats 2000000 in
set_option maxRecDepth 100000 in
theorem head_any (l : List UInt8) (hl : l.length ≤ 140737488351232) (q : List UInt8 × List UInt8 × Bool) (hq : headS l = some q) (w : World) :
    Calls Tryz.prog 148 #[.string ⟨l.toArray⟩] w fun e w' => e = .returned (headV q) ∧ Below w.heap.size w w' := by
  have hsz : (⟨l.toArray⟩ : ByteArray).size = l.length := by show l.toArray.size = _; simp
  have HSz := Lib.hid hsz
  have HQ : Hid ((match headGo l (l.length + 1) 0 with
  | none => none
  | some (i, true) => some (l.take i, l.drop (i + 1), true)
  | some (_, false) => some (l, [], false)) = some q) := Lib.hid hq
  obtain ⟨qv, hqv⟩ : ∃ qv, qv = headV q := ⟨_, rfl⟩
  rw [← hqv]
  have HQV := Lib.hid hqv
  clear hq hqv
  go_enter Tryz.func148, Tryz.ntmps148
  go_wp2
  go_loopw [5] (fun v5 wr => ∃ (i n : Nat), v5 = .int .i64 i ∧ i ≤ l.length ∧ l.length + 1 ≤ i + n ∧ Hid (headGo l (l.length + 1) 0 = headGo l n i) ∧ Hid (Below w.heap.size w wr)) (fun v5 _ => l.length + 1 - (intOf v5).toNat)
  case atStart => exact ⟨0, l.length + 1, rfl, Nat.zero_le _, by omega, Lib.hid rfl, Lib.hid (Below.refl _ _)⟩
  case round =>
    obtain ⟨i, n, rfl, hi, hn, HG, HB⟩ := hrel
    obtain ⟨m, rfl⟩ : ∃ m, n = m + 1 := ⟨n - 1, by omega⟩
    by_cases hlt : i < l.length
    · have hlt2 : i < (⟨l.toArray⟩ : ByteArray).size := by rw [HSz.out]; exact hlt
      have hx : l[i]? = some (l.getD i 0) := by rw [List.getD_eq_getElem?_getD, List.getElem?_eq_getElem hlt]; rfl
      have hgo : headGo l (m + 1) i = if l.getD i 0 = 58 then some (i, true) else if l.getD i 0 = 36 then (if wholeS (l.drop i) = 0 then none else headGo l m (i + wholeS (l.drop i))) else headGo l m (i + 1) := by
        rw [headGo, hx]
      have e36 := byte_eq ⟨l.toArray⟩ i hlt2 36 36 rfl
      have e58 := byte_eq ⟨l.toArray⟩ i hlt2 58 58 rfl
      have hget : (⟨l.toArray⟩ : ByteArray).data.toList = l := by simp
      rw [hget] at e36 e58
      by_cases h58 : l.getD i 0 = 58
      · rw [h58] at e58
        replace e58 : (((((⟨l.toArray⟩ : ByteArray)[i]'hlt2)).toNat : Int) == 58) = true := e58
        have HF : Hid (q = (l.take i, l.drop (i + 1), true)) := Lib.hid (by
          have := HQ.out
          rw [HG.out, hgo, if_pos h58] at this
          exact (Option.some.inj this).symm)
        have hs1 : ∀ W : World, (Instr.slice 9 (.string ⟨l.toArray⟩) none (some (.int .i64 (i : Int))) none).run Tryz.prog W = .ok (.string ((⟨l.toArray⟩ : ByteArray).extract 0 i)) W := fun W => by
          have := run_slice_string_h W 9 ⟨l.toArray⟩ Tryz.underlying9 .i64 (i : Int) (by omega) (by omega)
          rw [this]
          congr 2
        have hs2 : ∀ W : World, (Instr.slice 9 (.string ⟨l.toArray⟩) (some (.int .i64 ((i : Int) + 1))) none none).run Tryz.prog W = .ok (.string ((⟨l.toArray⟩ : ByteArray).extract (i + 1) (⟨l.toArray⟩ : ByteArray).size)) W := fun W => by
          have := run_slice_string_l W 9 ⟨l.toArray⟩ Tryz.underlying9 .i64 ((i : Int) + 1) (by omega) (by omega)
          rw [this]
          congr 2
        have e1 : (⟨l.toArray⟩ : ByteArray).extract 0 i = ⟨(l.take i).toArray⟩ := by rw [list_str]
        have e2 : (⟨l.toArray⟩ : ByteArray).extract (i + 1) (⟨l.toArray⟩ : ByteArray).size = ⟨(l.drop (i + 1)).toArray⟩ := by
          apply bs_ext
          rw [tail_list]
        rw [e1] at hs1
        rw [e2] at hs2
        have HV : Hid (qv = .tuple #[.string ⟨(l.take i).toArray⟩, .string ⟨(l.drop (i + 1)).toArray⟩, .bool true]) := Lib.hid (by rw [HQV.out, HF.out]; rfl)
        generalize (⟨(l.take i).toArray⟩ : ByteArray) = x1 at hs1 HV
        generalize (⟨(l.drop (i + 1)).toArray⟩ : ByteArray) = x2 at hs2 HV
        clear hgo e36 hx hget e1 e2 h58
        go_wp2
        go_quiet (fail)
        go_wp2
        go_ret3
        exact ⟨by rw [HV.out]; rfl, HB.out.trans ((belowN wr _).mono HB.out.size)⟩
      · have n58 : (((((⟨l.toArray⟩ : ByteArray)[i]'hlt2)).toNat : Int) == 58) = false := e58.trans (beq_eq_false_iff_ne.2 h58)
        rw [if_neg h58] at hgo
        by_cases h36 : l.getD i 0 = 36
        · rw [h36] at e36
          replace e36 : (((((⟨l.toArray⟩ : ByteArray)[i]'hlt2)).toNat : Int) == 36) = true := e36
          rw [if_pos h36] at hgo
          have hwl := wholeS_le (l.drop i)
          rw [List.length_drop] at hwl
          have hwz : wholeS (l.drop i) ≠ 0 := by
            intro h0
            have := HQ.out
            rw [HG.out, hgo, if_pos h0] at this
            simp at this
          rw [if_neg hwz] at hgo
          have hs2 : ∀ W : World, (Instr.slice 9 (.string ⟨l.toArray⟩) (some (.int .i64 (i : Int))) none none).run Tryz.prog W = .ok (.string ((⟨l.toArray⟩ : ByteArray).extract i (⟨l.toArray⟩ : ByteArray).size)) W := fun W => by
            have := run_slice_string_l W 9 ⟨l.toArray⟩ Tryz.underlying9 .i64 (i : Int) (by omega) (by omega)
            rw [this]
            congr 2
          have hul : ((⟨l.toArray⟩ : ByteArray).extract i (⟨l.toArray⟩ : ByteArray).size).data.toList = l.drop i := by rw [tail_list]
          have hus : ((⟨l.toArray⟩ : ByteArray).extract i (⟨l.toArray⟩ : ByteArray).size).size ≤ 140737488351232 := by rw [ByteArray.size_extract, HSz.out]; omega
          generalize (⟨l.toArray⟩ : ByteArray).extract i (⟨l.toArray⟩ : ByteArray).size = u at hs2 hul hus
          have hW := fun W => whole_any u hus W
          unfold WholeQ at hW
          rw [hul] at hW
          have hlen : ((l.drop i).take (wholeS (l.drop i))).length = wholeS (l.drop i) := by rw [List.length_take, List.length_drop]; omega
          generalize (l.drop i).take (wholeS (l.drop i)) = x at hW hlen
          generalize wholeS (l.drop i) = ws at hgo hwl hwz hlen
          have HW := Lib.hid hW
          have HG2 : Hid (headGo l (l.length + 1) 0 = headGo l m (i + ws)) := Lib.hid (by rw [HG.out, hgo])
          have hxl : (x.length : Int) = (ws : Int) := by rw [hlen]
          have hw1 : IntKind.i64.wrap ((ws : Int) - 1) = (ws : Int) - 1 := by rw [IntKind.wrap_i64]; omega
          have hw2 : IntKind.i64.wrap ((i : Int) + ((ws : Int) - 1)) = (i : Int) + ((ws : Int) - 1) := by rw [IntKind.wrap_i64]; omega
          have hw3 : IntKind.i64.wrap ((i : Int) + ((ws : Int) - 1) + 1) = ((i + ws : Nat) : Int) := by rw [IntKind.wrap_i64]; omega
          clear hgo hx hget hul hus hW e58 h36 h58 hlen
          go_wp2_with fail
          go_at_call 127
          refine (HW.out _).mono ?_
          rintro e w1 ⟨rfl, hb1⟩
          have HB1 := Lib.hid (HB.out.trans (hb1.mono HB.out.size))
          clear hb1
          go_wp2
          go_roundw
          case rel => exact ⟨i + ws, m, by go_num, by omega, by omega, HG2, HB1⟩
          case measure => simp [intOf]; omega
        · have n36 : (((((⟨l.toArray⟩ : ByteArray)[i]'hlt2)).toNat : Int) == 36) = false := e36.trans (beq_eq_false_iff_ne.2 h36)
          rw [if_neg h36] at hgo
          have HG2 : Hid (headGo l (l.length + 1) 0 = headGo l m (i + 1)) := Lib.hid (by rw [HG.out, hgo])
          clear hgo hx hget e58 e36 h36 h58
          go_wp2
          go_roundw
          case rel => exact ⟨i + 1, m, by go_num, by omega, by omega, HG2, HB⟩
          case measure => simp [intOf]; omega
    · have hx : l[i]? = none := List.getElem?_eq_none (by omega)
      have HF : Hid (q = (l, [], false)) := Lib.hid (by
        have := HQ.out
        rw [HG.out, headGo, hx] at this
        exact (Option.some.inj this).symm)
      have HV : Hid (qv = .tuple #[.string ⟨l.toArray⟩, .string ⟨#[]⟩, .bool false]) := Lib.hid (by rw [HQV.out, HF.out]; rfl)
      clear hx
      go_wp2
      go_ret3
      exact ⟨by rw [HV.out]; rfl, HB.out⟩

theorem contains_bytes (xs : List (List UInt8)) (x : List UInt8) : Lib.containsS (xs.map (fun l => (⟨l.toArray⟩ : ByteArray))) ⟨x.toArray⟩ = xs.contains x := by
  rw [Bool.eq_iff_iff, Lib.containsS_iff, List.contains_iff_mem, List.mem_map]
  constructor
  · rintro ⟨y, hy, he⟩
    have := congrArg (fun b : ByteArray => b.data.toList) he
    simp at this
    rw [← this]; exact hy
  · intro h
    exact ⟨x, h, rfl⟩
theorem inHas_any {B xb vb : Nat} {mb : Nat → Nat} {vs : Nat → TMap} {sl : Value} {inn : List (List UInt8)} {fuel : Int} (x : List UInt8) (w : World) (h : IsEx B xb vb mb vs sl inn fuel w) :
    Calls Tryz.prog 58 #[sl, .string ⟨x.toArray⟩] w fun e w' => e = .returned (.bool (inn.contains x)) ∧ w' = w := by
  rcases h.row.2 with ⟨rfl, h0⟩ | ⟨g, cap, cur, rfl, _, hg, hn, _, _, ht⟩
  · have hi : inn = [] := List.eq_nil_of_length_eq_zero h0
    rw [hi]
    exact Tryz.slices_Contains_string_empty none 0 ⟨x.toArray⟩ w
  · have := Tryz.slices_Contains_string g 0 inn.length cap (inn.map (fun l => (⟨l.toArray⟩ : ByteArray))) ⟨x.toArray⟩ w (by simp) (by have := h.deep; omega) (fun j hj => by
      rw [Lib.cell_of_heap hg]
      have hj2 : j < inn.length := by simpa using hj
      have h1 : (cur.toList.take (inn.length * 1))[j]? = (inn.map strV)[j]? := by rw [ht]
      rw [Nat.mul_one, List.getElem?_take, if_pos hj2] at h1
      simp only [Nat.zero_add]
      rw [← Array.getElem?_toList, h1]
      simp [strV, hj2])
    rw [List.take_of_length_le (by simp), contains_bytes] at this
    exact this
end Go.Proofs.YtpjmccajkcmmaaaGreatDoor
