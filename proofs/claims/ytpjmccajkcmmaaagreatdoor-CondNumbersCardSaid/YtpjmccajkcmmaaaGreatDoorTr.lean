/- What is parsed of digits; how digits are written: plain laws. cond.asker: what conditions mean, as plain functions; how an asker lies; means. cond.asker: means. -/
import Derived.Test.YtpjmccajkcmmaaaGreatDoorTh
import Derived.Test.YtpjmccajkcmmaaaGreatDoorExpGM
import Derived.Test.YtpjmccajkcmmaaaGreatDoorTn
namespace Go.Proofs.YtpjmccajkcmmaaaGreatDoor
open Go.RowKit

theorem natVal_snoc (b : Nat) (c : UInt8) : ∀ (l : List UInt8) (acc : Nat), natVal b acc (l ++ [c]) = natVal b acc l * b + hexV c.toNat
  | [], _ => rfl
  | d :: l, acc => natVal_snoc b c l (acc * b + hexV d.toNat)

/-- 'string([]byte{c})' -/
theorem one_byte (w : World) (c : Int) :
    (convert 76 9 (.slice (some ⟨w.heap.size, 0, none⟩) 1 1)).run Tryz.prog (w.alloc (.cells #[.int .u8 c] 5)) = .ok (.string ⟨#[UInt8.ofNat c.toNat]⟩) (w.alloc (.cells #[.int .u8 c] 5)) := by
  rw [run_convert_bytes_string _ _ _ 5 _ _ _ Tryz.underlying76 Tryz.underlying5 Tryz.underlying9]
  rw [run_bytesToString _ _ 1 1 [c]]
  · rfl
  · simp [loadCells, go_sem]

/-- what the reference's loop keeps: the digits of U, so far -/
def FmtR (U : Nat) (a : Int) (s : ByteArray) (first : Bool) : Prop := ∃ u : Nat, a = u ∧ u ≤ U ∧ (first = true → u = U ∧ s = ⟨#[]⟩) ∧ (first = false → (if u = 0 then s.data.toList else Lib.decDigits u ++ s.data.toList) = Lib.decDigits U)

theorem nDigits_le : ∀ (k u : Nat), u < 10 ^ (k + 1) → Lib.nDigits u ≤ k + 1
  | 0, u, h => by rw [Lib.nDigits_small (by omega)]; omega
  | k + 1, u, h => by
    by_cases h10 : u < 10
    · rw [Lib.nDigits_small h10]; omega
    · rw [Lib.nDigits, dif_neg h10]
      have := nDigits_le k (u / 10) (by rw [Nat.div_lt_iff_lt_mul (by omega)]; rw [Nat.pow_succ] at h; exact h)
      omega

theorem FmtR.small {U : Nat} {a : Int} {s : ByteArray} {first : Bool} (hU : U ≤ 9223372036854775808) (h : FmtR U a s first) : s.size ≤ 20 := by
  obtain ⟨u, _, _, h1, h2⟩ := h
  have hL : (Lib.decDigits U).length ≤ 20 := by
    rw [Lib.decDigits_length]
    exact nDigits_le 19 U (by omega)
  cases first
  · have := congrArg List.length (h2 rfl)
    rw [Lib.size_eq]
    split at this
    · omega
    · rw [List.length_append] at this
      omega
  · rw [(h1 rfl).2]
    exact Nat.zero_le _

theorem FmtR.next {U : Nat} {a : Int} {s : ByteArray} {first : Bool} (h : FmtR U a s first) (hp : first = false → 0 < a) : FmtR U (a / 10) (⟨#[UInt8.ofNat (48 + a % 10).toNat]⟩ ++ s) false := by
  obtain ⟨u, rfl, hu, h1, h2⟩ := h
  have e : (48 + (u : Int) % 10).toNat = 48 + u % 10 := by omega
  have hd : Lib.decDigits u ++ s.data.toList = Lib.decDigits U := by
    cases first
    · have := h2 rfl
      rwa [if_neg (by have := hp rfl; omega)] at this
    · obtain ⟨rfl, rfl⟩ := h1 rfl
      simp
  refine ⟨u / 10, by omega, by omega, (fun h => by cases h), fun _ => ?_⟩
  rw [e]
  have hs : ((⟨#[UInt8.ofNat (48 + u % 10)]⟩ : ByteArray) ++ s).data.toList = UInt8.ofNat (48 + u % 10) :: s.data.toList := by simp
  rw [hs, ← hd]
  by_cases h10 : u < 10
  · rw [if_pos (by omega), Lib.decDigits_one h10, Nat.mod_eq_of_lt h10]
    rfl
  · rw [if_neg (by omega)]
    conv => rhs; rw [Lib.decDigits, dif_neg h10]
    simp

theorem FmtR.last {U : Nat} {s : ByteArray} (h : FmtR U 0 s false) : s.data.toList = Lib.decDigits U := by
  obtain ⟨u, hu, _, _, h2⟩ := h
  have := h2 rfl
  rwa [if_pos (by omega)] at this

/-! ### digits that were formatted -/
theorem dec_digits (u : Nat) : (Lib.decDigits u).all (digB 10) = true ∧ natVal 10 0 (Lib.decDigits u) = u ∧ Lib.decDigits u ≠ [] := by
  induction u using Nat.strongRecOn with
  | _ u ih =>
    have hb : ∀ v, v < 10 → digB 10 (UInt8.ofNat (48 + v)) = true ∧ hexV (UInt8.ofNat (48 + v)).toNat = v := by decide
    by_cases h : u < 10
    · rw [Lib.decDigits_one h]
      refine ⟨by rw [List.all_cons, (hb u h).1]; rfl, ?_, by simp⟩
      simp only [natVal, (hb u h).2]
      omega
    · rw [Lib.decDigits, dif_neg h]
      obtain ⟨h1, h2, h3⟩ := ih (u / 10) (by omega)
      have hm := hb (u % 10) (by omega)
      refine ⟨by rw [List.all_append, h1, List.all_cons, hm.1]; rfl, ?_, by simp⟩
      rw [natVal_snoc, h2, hm.2]
      omega

/-- a text of digits alone -/
theorem dig_head (b : Nat) (hb : b = 10 ∨ b = 16) (d : List UInt8) (h : d.all (digB b) = true) : minusB d = false ∧ Lib.hasPrefix d [43] = false := by
  have hh : ∀ c : Fin 256, digB b (UInt8.ofNat c.val) = true → (45 == UInt8.ofNat c.val) = false ∧ (43 == UInt8.ofNat c.val) = false := by
    rcases hb with rfl | rfl <;> decide +kernel
  match d, h with
  | [], _ => exact ⟨rfl, rfl⟩
  | c :: r, h =>
    have hc : digB b c = true := by simp at h; exact h.1
    have := hh ⟨c.toNat, c.toNat_lt⟩ (by simpa using hc)
    simp only [UInt8.ofNat_toNat] at this
    exact ⟨by show (45 == c && ([] : List UInt8).isPrefixOf r) = false; rw [this.1]; rfl, by show (43 == c && ([] : List UInt8).isPrefixOf r) = false; rw [this.2]; rfl⟩
theorem dig_hex (d : List UInt8) (h : d.all (digB 10) = true) : hexB d = false := by
  have hh : digB 10 88 = false ∧ digB 10 120 = false := by decide
  have hm : ∀ c, c ∈ d → digB 10 c = true := List.all_eq_true.1 h
  unfold hexB
  by_cases h2 : 2 < d.length
  · have hg : d.getD 1 0 ∈ d := by
      rw [List.getD_eq_getElem?_getD, List.getElem?_eq_getElem (by omega)]
      exact List.getElem_mem _
    have hd := hm _ hg
    have h88 : (d.getD 1 0 == 88) = false := by
      rw [beq_eq_false_iff_ne]; intro e; rw [e, hh.1] at hd; cases hd
    have h120 : (d.getD 1 0 == 120) = false := by
      rw [beq_eq_false_iff_ne]; intro e; rw [e, hh.2] at hd; cases hd
    rw [h88, h120]
    simp
  · rw [decide_eq_false h2]
    rfl
theorem parse_body (m : Bool) (l d : List UInt8) (hm : minusB l = m) (hb : body1 l = d) (hne : d ≠ []) (h : d.all (digB 10) = true) : parseS l = valOf m (natVal 10 0 d) := by
  unfold parseS
  rw [hm, hb]
  have hx := dig_hex d h
  unfold baseN body2
  rw [hx, if_neg (by simp), if_neg (by simp), parseD, if_neg hne, if_pos h]
theorem parse_digits (d : List UInt8) (hne : d ≠ []) (h : d.all (digB 10) = true) : parseS d = valOf false (natVal 10 0 d) := by
  obtain ⟨h1, h2⟩ := dig_head 10 (.inl rfl) d h
  refine parse_body false d d h1 ?_ hne h
  unfold body1 Lib.trimPrefix
  rw [h1, if_neg (by simp), h2, if_neg (by simp)]
theorem parse_minus (d : List UInt8) (hne : d ≠ []) (h : d.all (digB 10) = true) : parseS (45 :: d) = valOf true (natVal 10 0 d) :=
  parse_body true (45 :: d) d rfl rfl hne h
theorem parse_plus (d : List UInt8) (hne : d ≠ []) (h : d.all (digB 10) = true) : parseS (43 :: d) = valOf false (natVal 10 0 d) :=
  parse_body false (43 :: d) d rfl rfl hne h

theorem parse_itoa (n : Int) : parseS (Lib.itoa n) = if n < -4611686018427387904 ∨ 4611686018427387904 < n then (0, 5) else (n, 0) := by
  unfold Lib.itoa
  by_cases hn : n < 0
  · rw [if_pos hn]
    obtain ⟨h1, h2, h3⟩ := dec_digits n.natAbs
    rw [parse_minus _ h3 h1, h2, valOf]
    by_cases hb : 4611686018427387904 < n.natAbs
    · rw [if_pos hb, if_pos (by omega)]
    · rw [if_neg hb, if_pos rfl, if_neg (by omega)]
      congr 1
      omega
  · rw [if_neg hn]
    obtain ⟨h1, h2, h3⟩ := dec_digits n.toNat
    rw [parse_digits _ h3 h1, h2, valOf]
    by_cases hb : 4611686018427387904 < n.toNat
    · rw [if_pos hb, if_pos (by omega)]
    · rw [if_neg hb, if_neg (by simp), if_neg (by omega)]
      congr 1
      omega
theorem itoa_size (n : Int) (h0 : -9223372036854775808 ≤ n) (h1 : n ≤ 9223372036854775807) : (⟨(Lib.itoa n).toArray⟩ : ByteArray).size ≤ 21 := by
  rw [Lib.size_eq]
  show (Lib.itoa n).length ≤ 21
  unfold Lib.itoa
  split
  · have := nDigits_le 19 n.natAbs (by omega)
    rw [List.length_cons, Lib.decDigits_length]
    omega
  · have := nDigits_le 19 n.toNat (by omega)
    rw [Lib.decDigits_length]
    omega

theorem noughts (k : Nat) (d : List UInt8) : natVal 10 0 (List.replicate k 48 ++ d) = natVal 10 0 d := by
  induction k with
  | zero => rfl
  | succ k ih => exact ih
theorem noughts_all (k : Nat) (d : List UInt8) (h : d.all (digB 10) = true) : (List.replicate k 48 ++ d).all (digB 10) = true := by
  rw [List.all_append, h, Bool.and_true, List.all_eq_true]
  intro c hc
  rw [(List.mem_replicate.1 hc).2]
  decide

end Go.Proofs.YtpjmccajkcmmaaaGreatDoor

namespace Go.Proofs.YtpjmccajkcmmaaaGreatDoor
open Go.RowKit

/-- what is asked of: the world as it began, the variables, what they mean, the fuel, and the rest of the world's values -/
structure AEnv where
  W0 : World
  vb : Nat
  mb : Nat → Nat
  vs : Nat → TMap
  E : XEnv
  N : Nat
  f0 : Int
  sv : Value
  gv : Value
  tv : Value
  cv : Value
structure AEnv.OK (A : AEnv) : Prop where
  vars : IsVars A.vb A.mb A.vs A.W0
  gl : Gl A.W0
  get : A.E.get = getS A.vs
  mods : ∀ a b, A.E.mods a b = none
  lo : -9223372036854775808 ≤ A.f0
  hi : A.f0 ≤ 70368744177664
abbrev Flt := Int × Int
def noFlt (f : Flt) : Bool := f.1 == 0 && f.2 == 0
/-- what a text means -/
def meansA (A : AEnv) (f : Flt) (s : List UInt8) (at' : Nat) : Option (List UInt8 × Flt) :=
  if noFlt f = false then some ([], f) else if 65600 < s.length then none else match textE A.E A.N [] [] (max A.f0 0) s with
    | none => none
    | some (.ok (t, _)) => some (t, f)
    | some (.error k) => if k = 0 then none else some ([], (k, at'))
/-- a test with a word; none: not told here -/
def callsA (A : AEnv) (w x : List UInt8) (at' : Nat) (f : Flt) : Option (Bool × Flt) :=
  if w = [100, 101, 102, 105, 110, 101, 100] then (match meansA A f x at' with
    | none => none
    | some (t, g) => if noFlt g = false then some (false, g) else some ((A.E.get t).isSome, g))
  else none
/-- how two sides stand -/
def opA (op a : List UInt8) (aq : Bool) (b : List UInt8) (bq : Bool) (at' : Nat) (f : Flt) : Bool × Flt :=
  if op = [61, 61] ∨ op = [33, 61] then
    ((if (parseS a).2 == 0 && (parseS b).2 == 0 && !aq && !bq then (parseS a).1 == (parseS b).1 else a == b) == (op == [61, 61]), f)
  else if ((parseS a).2 == 0 && (parseS b).2 == 0) = false then (false, (13, at'))
  else if op = [60] then (decide ((parseS a).1 < (parseS b).1), f)
  else if op = [60, 61] then (decide ((parseS a).1 ≤ (parseS b).1), f)
  else if op = [62] then (decide ((parseS b).1 < (parseS a).1), f)
  else (decide ((parseS b).1 ≤ (parseS a).1), f)
def cmpA (A : AEnv) (op a : List UInt8) (aq : Bool) (b : List UInt8) (bq : Bool) (at' : Nat) (f : Flt) : Option (Bool × Flt) :=
  match meansA A f a at' with
  | none => none
  | some (ta, f1) =>
    if op = [] then some (if (parseS ta).2 == 0 && !aq then (parseS ta).1 != 0 else ta != [], f1)
    else match meansA A f1 b at' with
      | none => none
      | some (tb, f2) => if noFlt f2 = false then some (false, f2) else some (opA op ta aq tb bq at' f2)
def asksA (A : AEnv) : CX → Flt → Option (Bool × Flt)
  | .nothing, f => some (false, f)
  | .either a b, f => match asksA A a f with
    | none => none
    | some (r, g) => if r then some (true, g) else if noFlt g then asksA A b g else some (false, g)
  | .all a b, f => match asksA A a f with
    | none => none
    | some (r, g) => if r then (if noFlt g then asksA A b g else some (false, g)) else some (false, g)
  | .neg x, f => match asksA A x f with
    | none => none
    | some (r, g) => some (!r, g)
  | .call w x t, f => callsA A w x t f
  | .cmp op a aq b bq t, f => cmpA A op a aq b bq t f
/-- an asker lies at block kb -/
structure IsAsk (A : AEnv) (kb : Nat) (f : Flt) (w : World) : Prop where
  cells : w.heap[kb]? = some (.cells #[.pointer (some ⟨A.vb, 0, none⟩), A.sv, A.gv, A.tv, A.cv, .int .i64 A.f0, .int .i64 f.1, .int .i64 f.2] 74 (0, 0))
  base : Below A.W0.heap.size A.W0 w
  lo : A.W0.heap.size ≤ kb
theorem IsAsk.below {A : AEnv} {kb : Nat} {f : Flt} {w w' : World} (h : IsAsk A kb f w) (hb : Below w.heap.size w w') : IsAsk A kb f w' :=
  ⟨(hb.block kb (Array.getElem?_eq_some_iff.1 h.cells).1).trans h.cells, h.base.trans (hb.mono h.base.size), h.lo⟩
theorem IsAsk.vars {A : AEnv} (hA : A.OK) {kb : Nat} {f : Flt} {w : World} (h : IsAsk A kb f w) : IsVars A.vb A.mb A.vs w := hA.vars.below h.base
theorem IsAsk.gl {A : AEnv} (hA : A.OK) {kb : Nat} {f : Flt} {w : World} (h : IsAsk A kb f w) : Gl w := hA.gl.below h.base
theorem IsAsk.put {A : AEnv} {kb : Nat} {f : Flt} {w : World} (h : IsAsk A kb f w) (e a : Int) : IsAsk A kb (e, a) ((w.setCell ⟨kb, 6, none⟩ (.int .i64 e)).setCell ⟨kb, 7, none⟩ (.int .i64 a)) :=
  ⟨heap_set (heap_set h.cells 6 _) 7 _, (h.base.setCell (show A.W0.heap.size ≤ (⟨kb, 6, none⟩ : Addr).block from h.lo) _).setCell (show A.W0.heap.size ≤ (⟨kb, 7, none⟩ : Addr).block from h.lo) _, h.lo⟩
structure AskC (kb : Nat) (A : AEnv) (f : Flt) (w : World) : Prop where
  c0 : w.cell? ⟨kb, 0, none⟩ = some (.pointer (some ⟨A.vb, 0, none⟩))
  c5 : w.cell? ⟨kb, 5, none⟩ = some (.int .i64 A.f0)
  c6 : w.cell? ⟨kb, 6, none⟩ = some (.int .i64 f.1)
  c7 : w.cell? ⟨kb, 7, none⟩ = some (.int .i64 f.2)
  f6 : w.frozen? ⟨kb, 6, none⟩ = false
  f7 : w.frozen? ⟨kb, 7, none⟩ = false
theorem IsAsk.at {A : AEnv} {kb : Nat} {f : Flt} {w : World} (h : IsAsk A kb f w) : AskC kb A f w :=
  ⟨Lib.cell_of_heap h.cells 0, Lib.cell_of_heap h.cells 5, Lib.cell_of_heap h.cells 6, Lib.cell_of_heap h.cells 7, Lib.frozen_of_heap h.cells 6, Lib.frozen_of_heap h.cells 7⟩
/-- what an asker's part ends with -/
def AskQ (A : AEnv) (kb : Nat) (v : Value) (f : Flt) (w : World) (e : Ending) (w' : World) : Prop := e = .returned v ∧ IsAsk A kb f w' ∧ Keeps w.heap.size (fun k => k = kb) w w'
theorem keeps_draw {kb : Nat} {w w1 : World} (hb : Below w.drew.heap.size w.drew w1) : Keeps w.heap.size (fun k => k = kb) w w1 := (Keeps.refl _ _ w).drew.trans (Keeps.of hb _)
theorem keeps_put {kb : Nat} {w w1 : World} (h : Keeps w.heap.size (fun k => k = kb) w w1) (x y : Value) : Keeps w.heap.size (fun k => k = kb) w ((w1.setCell ⟨kb, 6, none⟩ x).setCell ⟨kb, 7, none⟩ y) := (h.setCell (p := ⟨kb, 6, none⟩) (.inr rfl) _).setCell (p := ⟨kb, 7, none⟩) (.inr rfl) _
end Go.Proofs.YtpjmccajkcmmaaaGreatDoor

namespace Go.Proofs.YtpjmccajkcmmaaaGreatDoor
open Go.RowKit

theorem fault_ne (e a : Int) (W : World) : (binOp .neq 40 (.agg #[.int .i64 e, .int .i64 a]) (.agg #[.int .i64 0, .int .i64 0])).run Tryz.prog W = .ok (.bool (!((e == 0) && (a == 0)))) W := by
  have u3 := Tryz.underlying3
  have u38 := Tryz.underlying38
  have a3 := Tryz.isAgg3
  have a38 := Tryz.isAgg38
  have z3 := Tryz.sizeOf3
  have z38 := Tryz.sizeOf38
  have hS : Tryz.prog.underlying 40 = some (.struct (Tryz.prog.fieldsOf 40)) := by kernel_rfl
  have hp : Tryz.prog.stoodInHeld 40 = false := by kernel_rfl
  rw [run_neq_struct, show (10000 : Nat) = 9999 + 1 from rfl, run_equalIn_agg W 9999 40 _ _ hS hp]
  simp only [Program.fieldsOf, Tryz.underlying40]
  go_simp
  by_cases h1 : e = 0 <;> by_cases h2 : a = 0 <;> simp [h1, h2]

set_option maxHeartbeats 4000000 in
set_option maxRecDepth 100000 in
theorem means_any (A : AEnv) (hA : A.OK) {kb : Nat} {f : Flt} (s : List UInt8) (at' : Nat) (t : List UInt8) (g : Flt) (hm : meansA A f s at' = some (t, g)) (w : World) (h : IsAsk A kb f w) :
    Calls Tryz.prog 55 #[.pointer (some ⟨kb, 0, none⟩), .string ⟨s.toArray⟩, .int .i64 at'] w fun e w' => AskQ A kb (.string ⟨t.toArray⟩) g w e w' ∧ t.length ≤ 65536 := by
  obtain ⟨c0, c5, c6, c7, -, -⟩ := h.at
  have hq := fun W => fault_ne f.1 f.2 W
  unfold meansA at hm
  unfold noFlt at hm
  have HI := Lib.hid h
  cases hf : (f.1 == 0 && f.2 == 0) with
  | false =>
    rw [hf] at hm
    rw [if_pos rfl] at hm
    cases hm
    rw [hf] at hq
    clear h c0 c5
    go_enter Tryz.func55, Tryz.ntmps55
    go_wp2
    go_ret
    exact ⟨⟨rfl, HI.out, Keeps.refl _ _ _⟩, by simp⟩
  | true =>
    rw [hf] at hm
    rw [if_neg (by simp)] at hm
    split at hm
    · cases hm
    · rename_i hlen
      cases hx : textE A.E A.N [] [] (max A.f0 0) s with
      | none => rw [hx] at hm; cases hm
      | some r =>
        rw [hf] at hq
        have hvd : IsVars A.vb A.mb A.vs w.drew := (h.vars hA).below ⟨rfl, rfl, rfl, Nat.le_refl _, fun _ _ => rfl⟩
        have HT := Lib.hid (expText_any A.E hA.mods A.N A.f0 hA.lo hA.hi s (by omega) hA.get r hx w.drew hvd)
        have e0 : w.drew.cell? ⟨kb, 0, none⟩ = some (.pointer (some ⟨A.vb, 0, none⟩)) := c0
        have e5 : w.drew.cell? ⟨kb, 5, none⟩ = some (.int .i64 A.f0) := c5
        have HId : Hid (IsAsk A kb f w.drew) := Lib.hid (h.below ⟨rfl, rfl, rfl, Nat.le_refl _, fun _ _ => rfl⟩)
        rw [hx] at hm
        unfold ExTextQ textV at HT
        cases r with
        | ok p =>
          obtain ⟨t1, f1⟩ := p
          cases hm
          clear h hx hvd
          simp only at HT
          go_enter Tryz.func55, Tryz.ntmps55
          go_wp2_with fail
          go_region_with (go_at_call 80; refine HT.out.mono ?_; rintro e w1 ⟨rfl, htl, hb1⟩; replace hb1 := Lib.hid hb1; replace htl := Lib.hid htl)
          all_goals
            go_wp2
            go_ret
            exact ⟨⟨rfl, HId.out.below hb1.out, keeps_draw hb1.out⟩, htl.out _ _ rfl⟩
        | error k =>
          simp only at hm
          by_cases hk : k = 0
          · rw [if_pos hk] at hm; cases hm
          · rw [if_neg hk] at hm
            cases hm
            have hkb : (k == 0) = false := beq_eq_false_iff_ne.2 hk
            clear h hx hvd hk
            simp only at HT
            go_enter Tryz.func55, Tryz.ntmps55
            go_wp2_with fail
            go_region_with (go_at_call 80; refine HT.out.mono ?_; rintro e w1 ⟨rfl, htl, hb1⟩; replace hb1 := Lib.hid hb1; replace htl := Lib.hid htl)
            all_goals
              have HI1 := Lib.hid (HId.out.below hb1.out)
              obtain ⟨d0, d5, d6, d7, f6, f7⟩ := HI1.out.at
              go_wp2
              go_ret
              exact ⟨⟨rfl, HI1.out.put _ _, keeps_put (keeps_draw hb1.out) _ _⟩, by simp⟩
end Go.Proofs.YtpjmccajkcmmaaaGreatDoor
