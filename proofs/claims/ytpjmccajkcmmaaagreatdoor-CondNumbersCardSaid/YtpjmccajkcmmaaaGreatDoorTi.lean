/- What a use of a variable is: how many bytes it has; its name. What a text means: plain functions. How a condition is read: plain functions. expand.whole, Use. Printed by wip/genexpu.py. -/
import Derived.Test.YtpjmccajkcmmaaaGreatDoorTa
import Derived.Test.YtpjmccajkcmmaaaGreatDoorTb
import Derived.Lib.SlTrimSet
namespace Go.Proofs.YtpjmccajkcmmaaaGreatDoor
open Go.RowKit

/-- more, but for nought -/
def plusN (k n : Nat) : Nat := if n = 0 then 0 else n + k
theorem plusN_plus (k j n : Nat) : plusN k (plusN j n) = plusN (k + j) n := by
  unfold plusN
  by_cases h : n = 0
  · simp [h]
  · have : n + j ≠ 0 := by omega
    rw [if_neg h, if_neg this, if_neg h]
    omega
theorem plusN_zero (n : Nat) : plusN 0 n = n := by unfold plusN; split <;> omega
theorem plusN_le (k n m : Nat) (h : n ≤ m) : plusN k n ≤ m + k := by unfold plusN; split <;> omega

mutual
/-- how many bytes the use has that begins a text (with its dollar); 0: it does not end -/
def wholeS : List UInt8 → Nat
  | [] => 0
  | [_] => 1
  | _ :: d :: r => if d = 123 then plusN 2 (insideS 123 125 0 r) else if d = 40 then plusN 2 (insideS 40 41 0 r) else 2
termination_by l => 2 * l.length
/-- within the brackets: how many bytes up to the closing one; 0: it is missing -/
def insideS (op en : UInt8) (deep : Nat) : List UInt8 → Nat
  | [] => 0
  | c :: r =>
    if c = 36 then (if _h : wholeS (c :: r) = 0 then 0 else plusN (wholeS (c :: r)) (insideS op en deep ((c :: r).drop (wholeS (c :: r)))))
    else if c = op then plusN 1 (insideS op en (deep + 1) r)
    else if c = en then (if deep = 0 then 1 else plusN 1 (insideS op en (deep - 1) r))
    else plusN 1 (insideS op en deep r)
termination_by l => 2 * l.length + 1
decreasing_by
  all_goals simp_wf
  all_goals (first | omega | (simp only [List.length_drop, List.length_cons]; omega))
end

theorem wholeS_brace (c : UInt8) (r : List UInt8) : wholeS (c :: 123 :: r) = plusN 2 (insideS 123 125 0 r) := by rw [wholeS]; simp
theorem wholeS_paren (c : UInt8) (r : List UInt8) : wholeS (c :: 40 :: r) = plusN 2 (insideS 40 41 0 r) := by rw [wholeS]; simp
theorem wholeS_plain (c d : UInt8) (r : List UInt8) (h1 : d ≠ 123) (h2 : d ≠ 40) : wholeS (c :: d :: r) = 2 := by rw [wholeS, if_neg h1, if_neg h2]
theorem wholeS_one (c : UInt8) : wholeS [c] = 1 := by rw [wholeS]
theorem insideS_nil (op en : UInt8) (deep : Nat) : insideS op en deep [] = 0 := by rw [insideS]
theorem insideS_use (op en : UInt8) (deep : Nat) (r : List UInt8) (h : wholeS (36 :: r) ≠ 0) : insideS op en deep (36 :: r) = plusN (wholeS (36 :: r)) (insideS op en deep ((36 :: r).drop (wholeS (36 :: r)))) := by
  rw [insideS, if_pos rfl, dif_neg h]
theorem insideS_cut (op en : UInt8) (deep : Nat) (r : List UInt8) (h : wholeS (36 :: r) = 0) : insideS op en deep (36 :: r) = 0 := by
  rw [insideS, if_pos rfl, dif_pos h]
theorem insideS_open (op en : UInt8) (deep : Nat) (r : List UInt8) (h : op ≠ 36) : insideS op en deep (op :: r) = plusN 1 (insideS op en (deep + 1) r) := by
  rw [insideS, if_neg h, if_pos rfl]
theorem insideS_end (op en : UInt8) (r : List UInt8) (h : en ≠ 36) (h2 : en ≠ op) : insideS op en 0 (en :: r) = 1 := by
  rw [insideS, if_neg h, if_neg h2, if_pos rfl, if_pos rfl]
theorem insideS_close (op en : UInt8) (deep : Nat) (r : List UInt8) (h : en ≠ 36) (h2 : en ≠ op) (h3 : deep ≠ 0) : insideS op en deep (en :: r) = plusN 1 (insideS op en (deep - 1) r) := by
  rw [insideS, if_neg h, if_neg h2, if_pos rfl, if_neg h3]
theorem insideS_skip (op en : UInt8) (deep : Nat) (c : UInt8) (r : List UInt8) (h : c ≠ 36) (h2 : c ≠ op) (h3 : c ≠ en) : insideS op en deep (c :: r) = plusN 1 (insideS op en deep r) := by
  rw [insideS, if_neg h, if_neg h2, if_neg h3]

theorem use_le (n : Nat) : (∀ l : List UInt8, l.length ≤ n → wholeS l ≤ l.length) ∧ (∀ (l : List UInt8) (op en : UInt8) (deep : Nat), l.length ≤ n → insideS op en deep l ≤ l.length) := by
  induction n with
  | zero =>
    refine ⟨fun l h => ?_, fun l op en deep h => ?_⟩
    · obtain rfl : l = [] := List.eq_nil_of_length_eq_zero (by omega)
      rw [wholeS]; simp
    · obtain rfl : l = [] := List.eq_nil_of_length_eq_zero (by omega)
      rw [insideS_nil]; simp
  | succ n ih =>
    have hw : ∀ l : List UInt8, l.length ≤ n + 1 → wholeS l ≤ l.length := by
      intro l h
      match l, h with
      | [], _ => rw [wholeS]; simp
      | [c], _ => rw [wholeS_one]; simp
      | c :: d :: r, h =>
        simp only [List.length_cons] at h ⊢
        by_cases h1 : d = 123
        · subst h1
          rw [wholeS_brace]
          exact plusN_le 2 _ _ (ih.2 r 123 125 0 (by omega))
        · by_cases h2 : d = 40
          · subst h2
            rw [wholeS_paren]
            exact plusN_le 2 _ _ (ih.2 r 40 41 0 (by omega))
          · rw [wholeS_plain c d r h1 h2]; omega
    refine ⟨hw, ?_⟩
    intro l op en deep h
    match l, h with
    | [], _ => rw [insideS_nil]; simp
    | c :: r, h =>
      have hr : r.length ≤ n := by simpa using h
      rw [insideS]
      split
      · split
        · simp
        · rename_i hne
          have h1 := hw (c :: r) h
          have h2 := ih.2 ((c :: r).drop (wholeS (c :: r))) op en deep (by simp only [List.length_drop, List.length_cons] at h ⊢; omega)
          have h3 := plusN_le (wholeS (c :: r)) _ _ h2
          simp only [List.length_drop] at h3
          omega
      · split
        · have := plusN_le 1 _ _ (ih.2 r op en (deep + 1) hr); simpa using this
        · split
          · split
            · simp
            · have := plusN_le 1 _ _ (ih.2 r op en (deep - 1) hr); simpa using this
          · have := plusN_le 1 _ _ (ih.2 r op en deep hr); simpa using this
theorem wholeS_le (l : List UInt8) : wholeS l ≤ l.length := (use_le l.length).1 l (Nat.le_refl _)
end Go.Proofs.YtpjmccajkcmmaaaGreatDoor

namespace Go.Proofs.YtpjmccajkcmmaaaGreatDoor
open Go.RowKit

/-- a use's name, and what stands behind its colon; none: a use within it does not end -/
def headGo (l : List UInt8) : Nat → Nat → Option (Nat × Bool)
  | 0, _ => none
  | n + 1, i => match l[i]? with
    | none => some (l.length, false)
    | some c => if c = 58 then some (i, true) else if c = 36 then (if wholeS (l.drop i) = 0 then none else headGo l n (i + wholeS (l.drop i))) else headGo l n (i + 1)
def headS (l : List UInt8) : Option (List UInt8 × List UInt8 × Bool) := match headGo l (l.length + 1) 0 with
  | none => none
  | some (i, true) => some (l.take i, l.drop (i + 1), true)
  | some (_, false) => some (l, [], false)
/-- what an expansion asks: the variables, and what modifiers do with words (none: not told here) -/
structure XEnv where
  get : List UInt8 → Option (List UInt8)
  mods : List UInt8 → List UInt8 → Option (Except Int (List UInt8))
abbrev XRes := Option (Except Int (List UInt8 × Int))
def notDollar (c : UInt8) : Bool := c != 36
mutual
/-- a text: acc: what is built so far -/
def textE (E : XEnv) : Nat → List (List UInt8) → List UInt8 → Int → List UInt8 → XRes
  | 0, _, _, _, _ => none
  | n + 1, inn, acc, fuel, s =>
    if s = [] then some (.ok (acc, fuel))
    else if 65536 < (acc ++ s.takeWhile notDollar).length then some (.error 5)
    else if s.dropWhile notDollar = [] then some (.ok (acc ++ s.takeWhile notDollar, fuel))
    else match pieceE E n inn fuel (s.dropWhile notDollar) with
      | none => none
      | some (.error e) => some (.error e)
      | some (.ok (t, f)) => if 65536 < (acc ++ s.takeWhile notDollar ++ t).length then some (.error 5) else textE E n inn (acc ++ s.takeWhile notDollar ++ t) f ((s.dropWhile notDollar).drop (wholeS (s.dropWhile notDollar)))
/-- the use that begins a text -/
def pieceE (E : XEnv) : Nat → List (List UInt8) → Int → List UInt8 → XRes
  | 0, _, _, _ => none
  | n + 1, inn, fuel, r =>
    if wholeS r = 0 then some (.error 4)
    else match r.take (wholeS r) with
      | [_] => some (.ok ([36], fuel))
      | [_, d] => if d = 36 then some (.ok ([36], fuel)) else if fuel < 1 then some (.error 10) else meanE E n inn (fuel - 1) [d]
      | _ :: d :: u => if fuel < 1 then some (.error 10) else if d = 123 ∨ d = 40 then useE E n inn (fuel - 1) u.dropLast else meanE E n inn (fuel - 1) (d :: u)
      | [] => none
/-- a variable -/
def meanE (E : XEnv) : Nat → List (List UInt8) → Int → List UInt8 → XRes
  | 0, _, _, _ => none
  | n + 1, inn, fuel, name => match E.get name with
    | none => some (.ok ([], fuel))
    | some v => if inn.contains name ∨ inn.length = 32 then some (.error 11) else if fuel < v.length then some (.error 10) else textE E n (inn ++ [name]) [] (fuel - v.length) v
/-- a use with brackets -/
def useE (E : XEnv) : Nat → List (List UInt8) → Int → List UInt8 → XRes
  | 0, _, _, _ => none
  | n + 1, inn, fuel, s => match headS s with
    | none => none
    | some (raw, more, has) => match textE E n inn [] fuel raw with
      | none => none
      | some (.error e) => some (.error e)
      | some (.ok (name, f1)) => match textE E n inn [] f1 more with
        | none => none
        | some (.error e) => some (.error e)
        | some (.ok (more2, f2)) =>
          if more2.head? = some 68 then some (.ok (if (E.get name).isSome then more2.drop 1 else [], f2))
          else if more2.head? = some 85 ∧ (E.get name).isNone then some (.ok (more2.drop 1, f2))
          else match meanE E n inn f2 name with
            | none => none
            | some (.error e) => some (.error e)
            | some (.ok (t, f3)) => if has = false ∨ more2.head? = some 85 then some (.ok (t, f3)) else match E.mods more2 t with
              | none => none
              | some (.error e) => some (.error e)
              | some (.ok u) => some (.ok (u, f3))
end
theorem takeWhile_plain (s : List UInt8) (h : ∀ c ∈ s, c ≠ 36) : s.takeWhile notDollar = s ∧ s.dropWhile notDollar = [] := by
  induction s with
  | nil => exact ⟨rfl, rfl⟩
  | cons c r ih =>
    have hc : notDollar c = true := by simp [notDollar, h c List.mem_cons_self]
    obtain ⟨h1, h2⟩ := ih (fun x hx => h x (List.mem_cons_of_mem _ hx))
    simp [hc, h1, h2]
/-- a text with no use means itself -/
theorem textE_plain (E : XEnv) (n : Nat) (inn : List (List UInt8)) (fuel : Int) (s : List UInt8) (h : ∀ c ∈ s, c ≠ 36) (hl : s.length ≤ 65536) : textE E (n + 1) inn [] fuel s = some (.ok (s, fuel)) := by
  obtain ⟨h1, h2⟩ := takeWhile_plain s h
  unfold textE
  by_cases h0 : s = []
  · subst h0; rfl
  · rw [if_neg h0, h1, h2, if_neg (by simp; omega), if_pos rfl]
    rfl
end Go.Proofs.YtpjmccajkcmmaaaGreatDoor

namespace Go.Proofs.YtpjmccajkcmmaaaGreatDoor
open Go.RowKit

/-- a condition's parts -/
inductive CX where
  | nothing
  | either (a b : CX)
  | all (a b : CX)
  | neg (x : CX)
  | call (w x : List UInt8) (at' : Nat)
  | cmp (op : List UInt8) (a : List UInt8) (aq : Bool) (b : List UInt8) (bq : Bool) (at' : Nat)
/-- a reader: where it stands, how many brackets are open, its fault -/
structure CR where
  at' : Nat
  op : Nat
  flt : Option (Int × Nat)
def CR.wrong (r : CR) (e : Int) (a : Nat) : CR := match r.flt with | none => { r with flt := some (e, a) } | some _ => r
/-- the place behind blanks -/
def skipAt (l : List UInt8) (i : Nat) : Nat := i + ((l.drop i).takeWhile blankB).length
def CR.rest (r : CR) (l : List UInt8) : CR := { r with at' := skipAt l r.at' }
/-- a text is read, if it comes next -/
def takeC (l t : List UInt8) (r : CR) : Bool × CR := match r.flt with
  | some _ => (false, r)
  | none => if t.isPrefixOf (l.drop (skipAt l r.at')) then (true, { r with at' := skipAt l r.at' + t.length }) else (false, r.rest l)
/-- from a place up to the first of some bytes that no use takes: where; whether it is there; where a use does not end -/
def untilGo (l stops : List UInt8) : Nat → Nat → Nat × Bool × Option Nat
  | 0, i => (i, false, none)
  | n + 1, i => match l[i]? with
    | none => (i, false, none)
    | some c => if stops.contains c then (i, true, none) else if c = 36 then (if wholeS (l.drop i) = 0 then (i, false, some i) else untilGo l stops n (i + wholeS (l.drop i))) else untilGo l stops n (i + 1)
def untilC (l stops : List UInt8) (r : CR) : List UInt8 × Bool × CR := match untilGo l stops (l.length + 1) r.at' with
  | (_, _, some i) => ([], false, r.wrong 13 i)
  | (i, true, none) => ((l.drop r.at').take (i - r.at'), true, r)
  | (_, false, none) => (l.drop r.at', false, r)
def condWords : List (List UInt8) := [[100, 101, 102, 105, 110, 101, 100], [101, 109, 112, 116, 121], [109, 97, 107, 101], [116, 97, 114, 103, 101, 116], [99, 111, 109, 109, 97, 110, 100, 115], [101, 120, 105, 115, 116, 115]]
/-- the word of a test with brackets -/
def wordC (l : List UInt8) (r : CR) : List UInt8 := (condWords.find? (fun w => w.isPrefixOf (l.drop r.at') && (((l.drop r.at').drop w.length).dropWhile blankB).head? == some 40)).getD []
def trimB (l : List UInt8) : List UInt8 := Lib.trimS l [32, 9]
def stopsC : List UInt8 := [32, 9, 61, 33, 60, 62, 38, 124, 40, 41]
/-- a side -/
def sideC (l : List UInt8) (r : CR) : List UInt8 × Bool × CR :=
  if (takeC l [34] r).1 then
    (match untilC l [34] (takeC l [34] r).2 with
    | (x, true, r2) => (x, true, { r2 with at' := r2.at' + (x.length + 1) })
    | (_, false, r2) => ([], false, r2.wrong 13 (r2.at' - 1)))
  else
    (match untilC l stopsC ((takeC l [34] r).2.rest l) with
    | (x, _, r2) => (x, false, { (if x = [] then r2.wrong 13 r2.at' else r2) with at' := r2.at' + x.length }))
def condOps : List (List UInt8) := [[61, 61], [33, 61], [60, 61], [62, 61], [60], [62]]
/-- the sign of a comparison, and its second side -/
def opC (l a : List UInt8) (aq : Bool) (at' : Nat) : List (List UInt8) → CR → CX × CR
  | [], r => (.cmp [] a aq [] false at', r)
  | o :: os, r => if (takeC l o r).1 then (match sideC l (takeC l o r).2 with | (b, bq, r2) => (.cmp o a aq b bq at', r2)) else opC l a aq at' os (takeC l o r).2
/-- a test -/
def testC (l : List UInt8) (at' : Nat) (r : CR) : CX × CR :=
  if wordC l r ≠ [] ∧ r.flt = none then
    (match untilC l [41] (takeC l [40] { r with at' := r.at' + (wordC l r).length }).2 with
    | (x, true, r2) => (.call (wordC l r) (trimB x) at', { r2 with at' := r2.at' + (x.length + 1) })
    | (_, false, r2) => (.nothing, r2.wrong 13 (r2.at' - 1)))
  else
    (match sideC l r with | (a, aq, r2) => opC l a aq at' condOps r2)
mutual
def waysC (l : List UInt8) : Nat → CR → Option (CX × CR)
  | 0, _ => none
  | n + 1, r => match partsC l n r with
    | none => none
    | some (x, r2) => waysGo l n x r2
def waysGo (l : List UInt8) : Nat → CX → CR → Option (CX × CR)
  | 0, _, _ => none
  | n + 1, x, r => if (takeC l [124, 124] r).1 then (match partsC l n (takeC l [124, 124] r).2 with
      | none => none
      | some (y, r2) => waysGo l n (.either x y) r2) else some (x, (takeC l [124, 124] r).2)
def partsC (l : List UInt8) : Nat → CR → Option (CX × CR)
  | 0, _ => none
  | n + 1, r => match partC l n r with
    | none => none
    | some (x, r2) => partsGo l n x r2
def partsGo (l : List UInt8) : Nat → CX → CR → Option (CX × CR)
  | 0, _, _ => none
  | n + 1, x, r => if (takeC l [38, 38] r).1 then (match partC l n (takeC l [38, 38] r).2 with
      | none => none
      | some (y, r2) => partsGo l n (.all x y) r2) else some (x, (takeC l [38, 38] r).2)
def partC (l : List UInt8) : Nat → CR → Option (CX × CR)
  | 0, _ => none
  | n + 1, r =>
    let r0 := r.rest l
    let b := takeC l [33] r0
    if b.1 then
      (if b.2.op = 32 then some (.nothing, b.2.wrong 5 r0.at') else match partC l n { b.2 with op := b.2.op + 1 } with
        | none => none
        | some (x, r2) => some (.neg x, { r2 with op := r2.op - 1 }))
    else
      let p := takeC l [40] b.2
      if p.1 then
        (if p.2.op = 32 then some (.nothing, p.2.wrong 5 r0.at') else match waysC l n { p.2 with op := p.2.op + 1 } with
          | none => none
          | some (x, r2) =>
            let q := takeC l [41] r2
            if q.1 then some (x, { q.2 with op := q.2.op - 1 })
            else
              let r3 := q.2.rest l
              let r4 := if l.drop r3.at' = [] then r3.wrong 13 r0.at' else r3
              some (x, { r4.wrong 13 r4.at' with op := r4.op - 1 }))
      else some (testC l r0.at' p.2)
end
/-- a condition, or its fault -/
def readC (l : List UInt8) (n : Nat) : Option (CX × Int × Nat) :=
  if 65536 < l.length then some (.nothing, 5, 0) else match waysC l n ⟨0, 0, none⟩ with
    | none => none
    | some (x, r) => match (match r.flt with | some _ => r | none => if l.drop (r.rest l).at' = [] then r.rest l else (r.rest l).wrong 13 (r.rest l).at').flt with
      | none => some (x, 0, 0)
      | some (e, a) => some (x, e, a)
end Go.Proofs.YtpjmccajkcmmaaaGreatDoor

namespace Go.Proofs.YtpjmccajkcmmaaaGreatDoor
open Go.RowKit

theorem index_br (d : UInt8) (w : World) : Calls Tryz.prog 111 #[.string ⟨#[123, 40]⟩, .int .u8 (d.toNat : Int)] w fun e w' => e = .returned (.int .i64 (if d = 123 then 0 else if d = 40 then 1 else -1)) ∧ w = w' := by
  have h : Lib.indexByte [123, 40] d = if d = 123 then 0 else if d = 40 then 1 else -1 := by
    by_cases h1 : d = 123
    · subst h1; rfl
    · by_cases h2 : d = 40
      · subst h2; rfl
      · have e1 : (123 == d) = false := beq_eq_false_iff_ne.2 (Ne.symm h1)
        have e2 : (40 == d) = false := beq_eq_false_iff_ne.2 (Ne.symm h2)
        rw [if_neg h1, if_neg h2]
        simp [Lib.indexByte, e1, e2]
  rw [← h]
  exact index_any ⟨#[123, 40]⟩ d w

/-- the use that begins a text -/
def WholeQ (l : List UInt8) (w : World) (e : Ending) (w' : World) : Prop := e = .returned (.string ⟨(l.take (wholeS l)).toArray⟩) ∧ Below w.heap.size w w'

theorem two_list {s : ByteArray} (h : 2 ≤ s.size) : ∃ c d r, s.data.toList = c :: d :: r := by
  have hl : s.data.toList.length = s.size := by simp
  match hh : s.data.toList with
  | [] => rw [hh] at hl; simp at hl; omega
  | [_] => rw [hh] at hl; simp at hl; omega
  | c :: d :: r => exact ⟨c, d, r, rfl⟩
theorem list_str (s : ByteArray) (n : Nat) : s.extract 0 n = ⟨(s.data.toList.take n).toArray⟩ := ext_str s 0 n _ (by simp)
theorem drop_at {l : List UInt8} {i : Nat} (h : i < l.length) : l.drop i = l.getD i 0 :: l.drop (i + 1) := by
  rw [List.drop_eq_getElem_cons h]
  congr 1
  rw [List.getD_eq_getElem?_getD, List.getElem?_eq_getElem h]
  rfl


set_option maxHeartbeats 2000000 in
set_option maxRecDepth 100000 in
theorem whole_brace (s : ByteArray) (hs : s.size ≤ 140737488351232) (h2 : 2 ≤ s.size) (hd : s.data.toList.getD 1 0 = 123) (w : World)
    (ih : ∀ t : ByteArray, t.size < s.size → ∀ w, Calls Tryz.prog 127 #[.string t] w (WholeQ t.data.toList w)) :
    Calls Tryz.prog 127 #[.string s] w (WholeQ s.data.toList w) := by
  have hp1 : 1 < s.size := h2
  obtain ⟨c, d, r, hcr⟩ := two_list h2
  have hl : s.data.toList.length = s.size := by simp
  have hd1 : d = 123 := by rw [hcr] at hd; exact hd
  have hW : Hid (wholeS s.data.toList = plusN 2 (insideS 123 125 0 (s.data.toList.drop 2))) := Lib.hid (by rw [hcr, hd1]; exact wholeS_brace c r)
  have hb := byte_at s 1 hp1
  have hI := fun w => index_br (s[1]'hp1) w
  rw [hb, hd] at hI
  simp only [if_true] at hI
  have h1 : ((s[1]'hp1).toNat : Int) = 123 := by rw [hb, hd]; rfl
  have hx5 : (((⟨#[125, 41]⟩ : ByteArray)[0]'(by decide)).toNat : Int) = 125 := rfl
  have HI := Lib.hid hI
  have HIH := Lib.hid ih
  have HL := Lib.hid hl
  clear hd1 hI hb hd hcr hl ih
  go_enter Tryz.func127, Tryz.ntmps127
  go_wp2_with fail
  go_at_call 111
  refine (HI.out _).mono ?_
  rintro e w' ⟨rfl, rfl⟩
  go_wp2
  go_quiet (fail)
  go_wp2
  go_loopw [6, 7] (fun v6 v7 wr => ∃ (deep i : Nat), v6 = .int .i64 deep ∧ v7 = .int .i64 i ∧ 2 ≤ i ∧ i ≤ s.size ∧ deep ≤ i ∧ Hid (wholeS s.data.toList = plusN i (insideS 123 125 deep (s.data.toList.drop i))) ∧ Hid (Below w.heap.size w wr)) (fun _ v7 _ => s.size - (intOf v7).toNat)
  case atStart => exact ⟨0, 2, rfl, rfl, by omega, h2, by omega, hW, Lib.hid (belowN w _)⟩
  case round =>
    obtain ⟨deep, i, rfl, rfl, hi2, hi, hdp, HW, HB⟩ := hrel
    by_cases hlt : i < s.size
    · have e36 := byte_eq s i hlt 36 36 rfl
      have eop := byte_eq s i hlt 123 123 rfl
      have een := byte_eq s i hlt 125 125 rfl
      have hdr := drop_at (l := s.data.toList) (i := i) (by rw [HL.out]; exact hlt)
      have HDR := Lib.hid hdr
      by_cases k36 : s.data.toList.getD i 0 = 36
      · rw [k36] at e36
        replace e36 : (((s[i]'hlt).toNat : Int) == 36) = true := e36
        have hsl1 : ∀ W : World, (Instr.slice 9 (.string s) (some (.int .i64 (i : Int))) none none).run Tryz.prog W = .ok (.string (s.extract i s.size)) W := fun W => by
          have := run_slice_string_l W 9 s Tryz.underlying9 .i64 (i : Int) (by omega) (by omega)
          rw [this]
          congr 2
        have hrec := fun W => HIH.out (s.extract i s.size) (by rw [ByteArray.size_extract]; omega) W
        unfold WholeQ at hrec
        rw [tail_list] at hrec
        have hle := wholeS_le (s.data.toList.drop i)
        rw [List.length_drop, HL.out] at hle
        have hin : wholeS (s.data.toList.drop i) ≠ 0 → insideS 123 125 deep (s.data.toList.drop i) = plusN (wholeS (s.data.toList.drop i)) (insideS 123 125 deep (s.data.toList.drop (i + wholeS (s.data.toList.drop i)))) := by
          rw [← List.drop_drop, HDR.out, k36]
          exact fun hz => insideS_use _ _ _ _ hz
        have hin0 : wholeS (s.data.toList.drop i) = 0 → insideS 123 125 deep (s.data.toList.drop i) = 0 := by
          rw [HDR.out, k36]
          exact fun hz => insideS_cut _ _ _ _ hz
        have hlen : ((s.data.toList.drop i).take (wholeS (s.data.toList.drop i))).length = wholeS (s.data.toList.drop i) := by
          rw [List.length_take, List.length_drop, HL.out]
          omega
        generalize (s.data.toList.drop i).take (wholeS (s.data.toList.drop i)) = u at hrec hlen
        generalize wholeS (s.data.toList.drop i) = k at hle hin hin0 hlen
        have HRec := Lib.hid hrec
        by_cases hk : k = 0
        · have hu : u = [] := List.eq_nil_of_length_eq_zero (by omega)
          subst hu
          have HF : Hid (wholeS s.data.toList = 0) := Lib.hid (by rw [HW.out, hin0 hk]; rfl)
          clear hrec hin hin0 hlen hdr eop een k36
          go_wp2_with fail
          go_at_call 127
          refine (HRec.out _).mono ?_
          rintro e w1 ⟨rfl, hb1⟩
          have HB1 := Lib.hid (HB.out.trans (hb1.mono HB.out.size))
          clear hb1
          go_wp2
          go_ret
          exact ⟨by rw [HF.out]; rfl, HB1.out⟩
        · have hub : (u == []) = false := by cases u with | nil => simp at hlen; omega | cons a b => rfl
          have HF : Hid (wholeS s.data.toList = plusN (i + k) (insideS 123 125 deep (s.data.toList.drop (i + k)))) := Lib.hid (by rw [HW.out, hin hk, plusN_plus])
          have hul : ((u.length : Nat) : Int) = k := by omega
          clear hrec hin hin0 hdr eop een k36 hlen
          go_wp2_with fail
          go_at_call 127
          refine (HRec.out _).mono ?_
          rintro e w1 ⟨rfl, hb1⟩
          have HB1 := Lib.hid (HB.out.trans (hb1.mono HB.out.size))
          clear hb1
          go_wp2
          go_roundw
          case rel => exact ⟨deep, i + k, rfl, by go_num, by omega, by omega, by omega, HF, HB1⟩
          case measure => simp [intOf]; omega
      · replace e36 : (((s[i]'hlt).toNat : Int) == 36) = false := e36.trans (beq_eq_false_iff_ne.2 k36)
        by_cases kop : s.data.toList.getD i 0 = 123
        · rw [kop] at eop
          replace eop : (((s[i]'hlt).toNat : Int) == 123) = true := eop
          have HF : Hid (wholeS s.data.toList = plusN (i + 1) (insideS 123 125 (deep + 1) (s.data.toList.drop (i + 1)))) := Lib.hid (by
            rw [HW.out, HDR.out, kop, insideS_open _ _ _ _ (by decide), plusN_plus])
          clear hdr een k36 kop
          go_wp2
          go_roundw
          case rel => exact ⟨deep + 1, i + 1, by go_num, by go_num, by omega, by omega, by omega, HF, HB⟩
          case measure => simp [intOf]; omega
        · replace eop : (((s[i]'hlt).toNat : Int) == 123) = false := eop.trans (beq_eq_false_iff_ne.2 kop)
          by_cases ken : s.data.toList.getD i 0 = 125
          · rw [ken] at een
            replace een : (((s[i]'hlt).toNat : Int) == 125) = true := een
            by_cases hdz : deep = 0
            · subst hdz
              have HF : Hid (wholeS s.data.toList = i + 1) := Lib.hid (by
                rw [HW.out, HDR.out, ken, insideS_end _ _ _ (by decide) (by decide)]
                unfold plusN
                rw [if_neg (by omega)]
                omega)
              have hsl2 : ∀ W : World, (Instr.slice 9 (.string s) none (some (.int .i64 ((i : Int) + 1))) none).run Tryz.prog W = .ok (.string (s.extract 0 (i + 1))) W := fun W => by
                have := run_slice_string_h W 9 s Tryz.underlying9 .i64 ((i : Int) + 1) (by omega) (by omega)
                rw [this]
                congr 2
              clear hdr k36 kop ken
              go_wp2
              go_ret
              exact ⟨by rw [HF.out, ← list_str]; rfl, HB.out⟩
            · have hdz2 : ((deep : Int) == 0) = false := beq_eq_false_iff_ne.2 (by omega)
              have HF : Hid (wholeS s.data.toList = plusN (i + 1) (insideS 123 125 (deep - 1) (s.data.toList.drop (i + 1)))) := Lib.hid (by
                rw [HW.out, HDR.out, ken, insideS_close _ _ _ _ (by decide) (by decide) hdz, plusN_plus])
              clear hdr k36 kop ken
              go_wp2
              go_roundw
              case rel => exact ⟨deep - 1, i + 1, by go_num, by go_num, by omega, by omega, by omega, HF, HB⟩
              case measure => simp [intOf]; omega
          · replace een : (((s[i]'hlt).toNat : Int) == 125) = false := een.trans (beq_eq_false_iff_ne.2 ken)
            have HF : Hid (wholeS s.data.toList = plusN (i + 1) (insideS 123 125 deep (s.data.toList.drop (i + 1)))) := Lib.hid (by
              rw [HW.out, HDR.out, insideS_skip _ _ _ _ _ k36 kop ken, plusN_plus])
            clear hdr k36 kop ken
            go_wp2
            go_roundw
            case rel => exact ⟨deep, i + 1, rfl, by go_num, by omega, by omega, by omega, HF, HB⟩
            case measure => simp [intOf]; omega
    · have HF : Hid (wholeS s.data.toList = 0) := Lib.hid (by
        rw [HW.out, List.drop_of_length_le (by rw [HL.out]; omega), insideS_nil]
        rfl)
      go_wp2
      go_ret
      exact ⟨by rw [HF.out]; rfl, HB.out⟩

set_option maxHeartbeats 2000000 in
set_option maxRecDepth 100000 in
theorem whole_paren (s : ByteArray) (hs : s.size ≤ 140737488351232) (h2 : 2 ≤ s.size) (hd : s.data.toList.getD 1 0 = 40) (w : World)
    (ih : ∀ t : ByteArray, t.size < s.size → ∀ w, Calls Tryz.prog 127 #[.string t] w (WholeQ t.data.toList w)) :
    Calls Tryz.prog 127 #[.string s] w (WholeQ s.data.toList w) := by
  have hp1 : 1 < s.size := h2
  obtain ⟨c, d, r, hcr⟩ := two_list h2
  have hl : s.data.toList.length = s.size := by simp
  have hd1 : d = 40 := by rw [hcr] at hd; exact hd
  have hW : Hid (wholeS s.data.toList = plusN 2 (insideS 40 41 0 (s.data.toList.drop 2))) := Lib.hid (by rw [hcr, hd1]; exact wholeS_paren c r)
  have hb := byte_at s 1 hp1
  have hI := fun w => index_br (s[1]'hp1) w
  rw [hb, hd] at hI
  simp only [if_true] at hI
  have h1 : ((s[1]'hp1).toNat : Int) = 40 := by rw [hb, hd]; rfl
  have hx5 : (((⟨#[125, 41]⟩ : ByteArray)[1]'(by decide)).toNat : Int) = 41 := rfl
  have HI := Lib.hid hI
  have HIH := Lib.hid ih
  have HL := Lib.hid hl
  clear hd1 hI hb hd hcr hl ih
  go_enter Tryz.func127, Tryz.ntmps127
  go_wp2_with fail
  go_at_call 111
  refine (HI.out _).mono ?_
  rintro e w' ⟨rfl, rfl⟩
  go_wp2
  go_quiet (fail)
  go_wp2
  go_loopw [6, 7] (fun v6 v7 wr => ∃ (deep i : Nat), v6 = .int .i64 deep ∧ v7 = .int .i64 i ∧ 2 ≤ i ∧ i ≤ s.size ∧ deep ≤ i ∧ Hid (wholeS s.data.toList = plusN i (insideS 40 41 deep (s.data.toList.drop i))) ∧ Hid (Below w.heap.size w wr)) (fun _ v7 _ => s.size - (intOf v7).toNat)
  case atStart => exact ⟨0, 2, rfl, rfl, by omega, h2, by omega, hW, Lib.hid (belowN w _)⟩
  case round =>
    obtain ⟨deep, i, rfl, rfl, hi2, hi, hdp, HW, HB⟩ := hrel
    by_cases hlt : i < s.size
    · have e36 := byte_eq s i hlt 36 36 rfl
      have eop := byte_eq s i hlt 40 40 rfl
      have een := byte_eq s i hlt 41 41 rfl
      have hdr := drop_at (l := s.data.toList) (i := i) (by rw [HL.out]; exact hlt)
      have HDR := Lib.hid hdr
      by_cases k36 : s.data.toList.getD i 0 = 36
      · rw [k36] at e36
        replace e36 : (((s[i]'hlt).toNat : Int) == 36) = true := e36
        have hsl1 : ∀ W : World, (Instr.slice 9 (.string s) (some (.int .i64 (i : Int))) none none).run Tryz.prog W = .ok (.string (s.extract i s.size)) W := fun W => by
          have := run_slice_string_l W 9 s Tryz.underlying9 .i64 (i : Int) (by omega) (by omega)
          rw [this]
          congr 2
        have hrec := fun W => HIH.out (s.extract i s.size) (by rw [ByteArray.size_extract]; omega) W
        unfold WholeQ at hrec
        rw [tail_list] at hrec
        have hle := wholeS_le (s.data.toList.drop i)
        rw [List.length_drop, HL.out] at hle
        have hin : wholeS (s.data.toList.drop i) ≠ 0 → insideS 40 41 deep (s.data.toList.drop i) = plusN (wholeS (s.data.toList.drop i)) (insideS 40 41 deep (s.data.toList.drop (i + wholeS (s.data.toList.drop i)))) := by
          rw [← List.drop_drop, HDR.out, k36]
          exact fun hz => insideS_use _ _ _ _ hz
        have hin0 : wholeS (s.data.toList.drop i) = 0 → insideS 40 41 deep (s.data.toList.drop i) = 0 := by
          rw [HDR.out, k36]
          exact fun hz => insideS_cut _ _ _ _ hz
        have hlen : ((s.data.toList.drop i).take (wholeS (s.data.toList.drop i))).length = wholeS (s.data.toList.drop i) := by
          rw [List.length_take, List.length_drop, HL.out]
          omega
        generalize (s.data.toList.drop i).take (wholeS (s.data.toList.drop i)) = u at hrec hlen
        generalize wholeS (s.data.toList.drop i) = k at hle hin hin0 hlen
        have HRec := Lib.hid hrec
        by_cases hk : k = 0
        · have hu : u = [] := List.eq_nil_of_length_eq_zero (by omega)
          subst hu
          have HF : Hid (wholeS s.data.toList = 0) := Lib.hid (by rw [HW.out, hin0 hk]; rfl)
          clear hrec hin hin0 hlen hdr eop een k36
          go_wp2_with fail
          go_at_call 127
          refine (HRec.out _).mono ?_
          rintro e w1 ⟨rfl, hb1⟩
          have HB1 := Lib.hid (HB.out.trans (hb1.mono HB.out.size))
          clear hb1
          go_wp2
          go_ret
          exact ⟨by rw [HF.out]; rfl, HB1.out⟩
        · have hub : (u == []) = false := by cases u with | nil => simp at hlen; omega | cons a b => rfl
          have HF : Hid (wholeS s.data.toList = plusN (i + k) (insideS 40 41 deep (s.data.toList.drop (i + k)))) := Lib.hid (by rw [HW.out, hin hk, plusN_plus])
          have hul : ((u.length : Nat) : Int) = k := by omega
          clear hrec hin hin0 hdr eop een k36 hlen
          go_wp2_with fail
          go_at_call 127
          refine (HRec.out _).mono ?_
          rintro e w1 ⟨rfl, hb1⟩
          have HB1 := Lib.hid (HB.out.trans (hb1.mono HB.out.size))
          clear hb1
          go_wp2
          go_roundw
          case rel => exact ⟨deep, i + k, rfl, by go_num, by omega, by omega, by omega, HF, HB1⟩
          case measure => simp [intOf]; omega
      · replace e36 : (((s[i]'hlt).toNat : Int) == 36) = false := e36.trans (beq_eq_false_iff_ne.2 k36)
        by_cases kop : s.data.toList.getD i 0 = 40
        · rw [kop] at eop
          replace eop : (((s[i]'hlt).toNat : Int) == 40) = true := eop
          have HF : Hid (wholeS s.data.toList = plusN (i + 1) (insideS 40 41 (deep + 1) (s.data.toList.drop (i + 1)))) := Lib.hid (by
            rw [HW.out, HDR.out, kop, insideS_open _ _ _ _ (by decide), plusN_plus])
          clear hdr een k36 kop
          go_wp2
          go_roundw
          case rel => exact ⟨deep + 1, i + 1, by go_num, by go_num, by omega, by omega, by omega, HF, HB⟩
          case measure => simp [intOf]; omega
        · replace eop : (((s[i]'hlt).toNat : Int) == 40) = false := eop.trans (beq_eq_false_iff_ne.2 kop)
          by_cases ken : s.data.toList.getD i 0 = 41
          · rw [ken] at een
            replace een : (((s[i]'hlt).toNat : Int) == 41) = true := een
            by_cases hdz : deep = 0
            · subst hdz
              have HF : Hid (wholeS s.data.toList = i + 1) := Lib.hid (by
                rw [HW.out, HDR.out, ken, insideS_end _ _ _ (by decide) (by decide)]
                unfold plusN
                rw [if_neg (by omega)]
                omega)
              have hsl2 : ∀ W : World, (Instr.slice 9 (.string s) none (some (.int .i64 ((i : Int) + 1))) none).run Tryz.prog W = .ok (.string (s.extract 0 (i + 1))) W := fun W => by
                have := run_slice_string_h W 9 s Tryz.underlying9 .i64 ((i : Int) + 1) (by omega) (by omega)
                rw [this]
                congr 2
              clear hdr k36 kop ken
              go_wp2
              go_ret
              exact ⟨by rw [HF.out, ← list_str]; rfl, HB.out⟩
            · have hdz2 : ((deep : Int) == 0) = false := beq_eq_false_iff_ne.2 (by omega)
              have HF : Hid (wholeS s.data.toList = plusN (i + 1) (insideS 40 41 (deep - 1) (s.data.toList.drop (i + 1)))) := Lib.hid (by
                rw [HW.out, HDR.out, ken, insideS_close _ _ _ _ (by decide) (by decide) hdz, plusN_plus])
              clear hdr k36 kop ken
              go_wp2
              go_roundw
              case rel => exact ⟨deep - 1, i + 1, by go_num, by go_num, by omega, by omega, by omega, HF, HB⟩
              case measure => simp [intOf]; omega
          · replace een : (((s[i]'hlt).toNat : Int) == 41) = false := een.trans (beq_eq_false_iff_ne.2 ken)
            have HF : Hid (wholeS s.data.toList = plusN (i + 1) (insideS 40 41 deep (s.data.toList.drop (i + 1)))) := Lib.hid (by
              rw [HW.out, HDR.out, insideS_skip _ _ _ _ _ k36 kop ken, plusN_plus])
            clear hdr k36 kop ken
            go_wp2
            go_roundw
            case rel => exact ⟨deep, i + 1, rfl, by go_num, by omega, by omega, by omega, HF, HB⟩
            case measure => simp [intOf]; omega
    · have HF : Hid (wholeS s.data.toList = 0) := Lib.hid (by
        rw [HW.out, List.drop_of_length_le (by rw [HL.out]; omega), insideS_nil]
        rfl)
      go_wp2
      go_ret
      exact ⟨by rw [HF.out]; rfl, HB.out⟩

set_option maxHeartbeats 2000000 in
set_option maxRecDepth 100000 in
theorem whole_other (s : ByteArray) (hs : s.size ≤ 140737488351232) (h2 : 2 ≤ s.size) (hd1 : s.data.toList.getD 1 0 ≠ 123) (hd2 : s.data.toList.getD 1 0 ≠ 40) (w : World) :
    Calls Tryz.prog 127 #[.string s] w (WholeQ s.data.toList w) := by
  have hp1 : 1 < s.size := h2
  obtain ⟨c, d, r, hcr⟩ := two_list h2
  have hdd : s.data.toList.getD 1 0 = d := by rw [hcr]; rfl
  have HW : Hid (wholeS s.data.toList = 2) := Lib.hid (by rw [hcr]; rw [hdd] at hd1 hd2; exact wholeS_plain c d r hd1 hd2)
  have hb := byte_at s 1 hp1
  have hI := fun w => index_br (s[1]'hp1) w
  rw [hb, if_neg hd1, if_neg hd2, ← hb] at hI
  have HI := Lib.hid hI
  have hsl : ∀ W : World, (Instr.slice 9 (.string s) none (some (.int .i64 2)) none).run Tryz.prog W = .ok (.string (s.extract 0 2)) W := fun W => run_slice_string_h W 9 s Tryz.underlying9 .i64 2 (by omega) (by omega)
  clear hdd hd1 hd2 hb hcr hI
  go_enter Tryz.func127, Tryz.ntmps127
  go_wp2_with fail
  go_at_call 111
  refine (HI.out _).mono ?_
  rintro e w' ⟨rfl, rfl⟩
  go_wp2
  go_ret
  exact ⟨by rw [HW.out, ← list_str]; rfl, Below.refl _ _⟩

theorem whole_any (s : ByteArray) (hs : s.size ≤ 140737488351232) (w : World) : Calls Tryz.prog 127 #[.string s] w (WholeQ s.data.toList w) := by
  have main : ∀ (n : Nat) (s : ByteArray), s.size ≤ n → s.size ≤ 140737488351232 → ∀ w, Calls Tryz.prog 127 #[.string s] w (WholeQ s.data.toList w) := by
    intro n
    induction n with
    | zero =>
      intro s hn _ w
      have h0 : s.size < 2 := by omega
      have hl : s.data.toList.length = s.size := by simp
      have hnil : s.data.toList = [] := List.eq_nil_of_length_eq_zero (by omega)
      have HS : Hid (s = ⟨(s.data.toList.take (wholeS s.data.toList)).toArray⟩) := Lib.hid (by
        apply bs_ext
        rw [hnil]
        simp)
      clear hnil hl
      go_enter Tryz.func127, Tryz.ntmps127
      go_wp2
      go_ret
      exact ⟨by rw [← HS.out]; rfl, Below.refl _ _⟩
    | succ n ih =>
      intro s hn hs w
      by_cases h2 : 2 ≤ s.size
      · by_cases hd1 : s.data.toList.getD 1 0 = 123
        · exact whole_brace s hs h2 hd1 w (fun t ht w => ih t (by omega) (by omega) w)
        · by_cases hd2 : s.data.toList.getD 1 0 = 40
          · exact whole_paren s hs h2 hd2 w (fun t ht w => ih t (by omega) (by omega) w)
          · exact whole_other s hs h2 hd1 hd2 w
      · have h0 : s.size < 2 := by omega
        have hl : s.data.toList.length = s.size := by simp
        have HS : Hid (s = ⟨(s.data.toList.take (wholeS s.data.toList)).toArray⟩) := Lib.hid (by
          apply bs_ext
          match hh : s.data.toList with
          | [] => simp
          | [c] => rw [wholeS_one]; simp
          | _ :: _ :: _ => rw [hh] at hl; simp at hl; omega)
        clear hl ih
        go_enter Tryz.func127, Tryz.ntmps127
        go_wp2
        go_ret
        exact ⟨by rw [← HS.out]; rfl, Below.refl _ _⟩
  exact main s.size s (Nat.le_refl _) hs w

set_option maxHeartbeats 1000000 in
set_option maxRecDepth 100000 in
/-- how many bytes the use has that begins a text -/
theorem use_any (s : ByteArray) (hs : s.size ≤ 140737488351232) (h0 : 0 < s.size) (hd : s.data.toList.getD 0 0 = 36) (w : World) :
    Calls Tryz.prog 146 #[.string s] w fun e w' => e = .returned (.int .i64 (wholeS s.data.toList)) ∧ Below w.heap.size w w' := by
  have hb := byte_eq s 0 h0 36 36 rfl
  rw [hd] at hb
  replace hb : (((s[0]'h0).toNat : Int) == 36) = true := hb
  have HW := whole_any s hs w
  have hle := wholeS_le s.data.toList
  have hlen : (s.data.toList.take (wholeS s.data.toList)).length = wholeS s.data.toList := by rw [List.length_take]; omega
  unfold WholeQ at HW
  generalize s.data.toList.take (wholeS s.data.toList) = u at HW hlen
  generalize wholeS s.data.toList = k at hlen ⊢
  replace HW := Lib.hid HW
  have hemp : s.toList.isEmpty = false := emp_false (by omega)
  subst hlen
  clear hd hle
  go_enter Tryz.func146, Tryz.ntmps146
  go_wp2_with fail
  go_at_call 127
  refine HW.out.mono ?_
  rintro e w1 ⟨rfl, hb1⟩
  have HB1 := Lib.hid hb1
  clear hb1
  go_wp2
  go_ret
  exact ⟨rfl, HB1.out⟩
end Go.Proofs.YtpjmccajkcmmaaaGreatDoor
