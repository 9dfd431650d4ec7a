/- word.span and word.Mean as plain functions. word.Mean as a plain function. sh.isOp, sh.token, sh.tokens as plain functions. sh.isOp, sh.token, sh.tokens: the walks. sh.tokens. What lies in memory and is only read: a stretch of a row, a text behind a pointer, sh's commands. -/
import Derived.Test.YtpjmccajkcmmaaaGreatDoorTa
import Derived.Shelf.Strings.SlTrimAscii
namespace Go.Proofs.YtpjmccajkcmmaaaGreatDoor
open Go.RowKit

theorem bs_ext {a b : ByteArray} (h : a.data.toList = b.data.toList) : a = b := by
  cases a; cases b
  simp only at h
  congr
  exact Array.toList_inj.1 h
theorem ext_str (s : ByteArray) (a b : Nat) (l : List UInt8) (h : (s.data.toList.drop a).take (b - a) = l) : s.extract a b = ⟨l.toArray⟩ := by
  apply bs_ext
  rw [Lib.extract_data, h]

theorem belowN (w : World) (n : Nat) : Below w.heap.size w (w.drewN n) := (Below.refl _ w).trans ⟨rfl, rfl, rfl, Nat.le_refl _, fun _ _ => rfl⟩

end Go.Proofs.YtpjmccajkcmmaaaGreatDoor

namespace Go.Proofs.YtpjmccajkcmmaaaGreatDoor
open Go.RowKit

/-- what a word means; none: its quotes do not end -/
def meanS (l : List UInt8) : Option (List UInt8) :=
  if _h : l = [] then some []
  else if _h2 : (spanS l).2.2 = false then none
  else (meanS (l.drop (spanS l).1)).map ((spanS l).2.1 ++ ·)
termination_by l.length
decreasing_by
  have := (spanS_le l).2.2.1 (by simpa using _h2)
  have : l.length ≠ 0 := fun e => _h (List.eq_nil_of_length_eq_zero e)
  rw [List.length_drop]
  omega

theorem meanS_nil : meanS [] = some [] := by rw [meanS]; rfl
theorem meanS_open (l : List UInt8) (h : l ≠ []) (h2 : (spanS l).2.2 = false) : meanS l = none := by rw [meanS, dif_neg h, dif_pos h2]
theorem meanS_step (l : List UInt8) (h : l ≠ []) (h2 : (spanS l).2.2 = true) : meanS l = (meanS (l.drop (spanS l).1)).map ((spanS l).2.1 ++ ·) := by
  rw [meanS, dif_neg h, dif_neg (by rw [h2]; simp)]
/-- what Mean says of it -/
def meanV (l : List UInt8) : Value := match meanS l with
  | none => .tuple #[.string ⟨#[]⟩, .int .i64 4]
  | some m => .tuple #[.string ⟨m.toArray⟩, .int .i64 0]

theorem emp_false {t : ByteArray} (h : t.size ≠ 0) : t.toList.isEmpty = false := by
  rw [← decide_eq_emptyBytes]
  exact decide_eq_false (fun e => h (by rw [e]; rfl))
theorem emp_true {t : ByteArray} (h : t.size = 0) : t.toList.isEmpty = true := by
  have : t = .empty := by
    apply bs_ext
    have : t.data.toList.length = 0 := by simpa using h
    rw [List.eq_nil_of_length_eq_zero this]
    rfl
  subst this
  rw [← decide_eq_emptyBytes]
  exact decide_eq_true rfl

end Go.Proofs.YtpjmccajkcmmaaaGreatDoor

namespace Go.Proofs.YtpjmccajkcmmaaaGreatDoor
open Go.RowKit

/-- is a byte an operator's -/
def opB (c : UInt8) : Bool := ([59, 38, 124, 60, 62] : List UInt8).contains c
/-- .. one that may stand twice -/
def twiceB (c : UInt8) : Bool := ([38, 124, 62] : List UInt8).contains c
def blankB (c : UInt8) : Bool := ([32, 9] : List UInt8).contains c
def stopB (c : UInt8) : Bool := ([32, 9, 59, 38, 124, 60, 62] : List UInt8).contains c

theorem index_in (l : List UInt8) (c : UInt8) : (0 ≤ Lib.indexByte l c) ↔ l.contains c = true := by
  induction l with
  | nil => simp [Lib.indexByte]
  | cons b l ih =>
    have hle := (indexByte_le l c).1
    simp only [Lib.indexByte, List.contains_cons, Bool.or_eq_true, beq_iff_eq]
    by_cases h : b = c
    · subst h; simp
    · rw [if_neg h]
      have h2 : ¬ c = b := fun e => h e.symm
      simp only [h2, false_or]
      rw [← ih]
      split
      · omega
      · omega
theorem stopB_or (c : UInt8) : stopB c = (blankB c || opB c) := by
  unfold stopB blankB opB
  simp only [List.contains_cons, List.contains_nil, Bool.or_false, Bool.or_assoc]

/-- how long a word is; none: its quotes do not end -/
def wordS (l : List UInt8) : Option Nat :=
  match l with
  | [] => some 0
  | c :: r =>
    if stopB c then some 0
    else if (spanS (c :: r)).1 = 0 then none
    else (wordS (r.drop ((spanS (c :: r)).1 - 1))).map (· + (spanS (c :: r)).1)
termination_by l.length
decreasing_by
  rw [List.length_drop]
  simp
  omega
/-- how long a word or operator is that begins a text -/
def tokS : List UInt8 → Option Nat
  | [] => some 0
  | [c] => if opB c then some 1 else wordS [c]
  | c :: d :: r => if opB c then (if d == c && twiceB c then some 2 else some 1) else wordS (c :: d :: r)
/-- the words and operators of a text -/
def toksS (l : List UInt8) : Option (List (List UInt8)) :=
  match _h : l.dropWhile blankB with
  | [] => some []
  | c :: r => match tokS (c :: r) with
    | none => none
    | some n => (toksS (r.drop (n - 1))).map ((c :: r).take n :: ·)
termination_by l.length
decreasing_by
  have h1 := (List.dropWhile_suffix (l := l) blankB).length_le
  rw [_h] at h1
  rw [List.length_drop]
  simp at h1 ⊢
  omega

theorem wordS_nil : wordS [] = some 0 := by rw [wordS]
theorem wordS_stop (c : UInt8) (r : List UInt8) (h : stopB c = true) : wordS (c :: r) = some 0 := by rw [wordS, if_pos h]
theorem wordS_open (c : UInt8) (r : List UInt8) (h : stopB c = false) (h2 : (spanS (c :: r)).1 = 0) : wordS (c :: r) = none := by
  rw [wordS, if_neg (by rw [h]; simp), if_pos h2]
theorem wordS_step (c : UInt8) (r : List UInt8) (h : stopB c = false) (h2 : (spanS (c :: r)).1 ≠ 0) : wordS (c :: r) = (wordS ((c :: r).drop (spanS (c :: r)).1)).map (· + (spanS (c :: r)).1) := by
  rw [wordS, if_neg (by rw [h]; simp), if_neg h2]
  have : (c :: r).drop (spanS (c :: r)).1 = r.drop ((spanS (c :: r)).1 - 1) := by
    obtain ⟨k, hk⟩ : ∃ k, (spanS (c :: r)).1 = k + 1 := ⟨(spanS (c :: r)).1 - 1, by omega⟩
    rw [hk]
    rfl
  rw [this]
theorem wordS_le : ∀ (n : Nat) (l : List UInt8) (k : Nat), l.length ≤ n → wordS l = some k → k ≤ l.length
  | 0, l, k, hl, h => by
    obtain rfl : l = [] := List.eq_nil_of_length_eq_zero (by omega)
    rw [wordS_nil] at h
    cases h; simp
  | n + 1, [], k, hl, h => by rw [wordS_nil] at h; cases h; simp
  | n + 1, c :: r, k, hl, h => by
    cases hs : stopB c with
    | true => rw [wordS_stop c r hs] at h; cases h; simp
    | false =>
      by_cases h2 : (spanS (c :: r)).1 = 0
      · rw [wordS_open c r hs h2] at h; cases h
      · rw [wordS_step c r hs h2] at h
        obtain ⟨k', hk', rfl⟩ := Option.map_eq_some_iff.1 h
        have := wordS_le n _ _ (by rw [List.length_drop]; simp at hl ⊢; omega) hk'
        have := (spanS_le (c :: r)).1
        rw [List.length_drop] at *
        omega
theorem tokS_le (l : List UInt8) (k : Nat) (h : tokS l = some k) : k ≤ l.length := by
  match l, h with
  | [], h => simp [tokS] at h; omega
  | [c], h =>
    simp only [tokS] at h
    split at h
    · cases h; simp
    · exact wordS_le _ _ _ (Nat.le_refl _) h
  | c :: d :: r, h =>
    simp only [tokS] at h
    split at h
    · split at h <;> (cases h; simp)
    · exact wordS_le _ _ _ (Nat.le_refl _) h
theorem tokS_pos (c : UInt8) (r : List UInt8) (k : Nat) (hb : blankB c = false) (h : tokS (c :: r) = some k) : 1 ≤ k := by
  have hw : ∀ r k, opB c = false → wordS (c :: r) = some k → 1 ≤ k := by
    intro r k ho h
    have hs : stopB c = false := by rw [stopB_or, hb, ho]; rfl
    by_cases h2 : (spanS (c :: r)).1 = 0
    · rw [wordS_open c r hs h2] at h; cases h
    · rw [wordS_step c r hs h2] at h
      obtain ⟨k', hk', rfl⟩ := Option.map_eq_some_iff.1 h
      omega
  cases r with
  | nil =>
    simp only [tokS] at h
    split at h
    · cases h; simp
    · exact hw _ _ (by simpa using ‹¬ opB c = true›) h
  | cons d r =>
    simp only [tokS] at h
    split at h
    · split at h <;> (cases h; simp)
    · exact hw _ _ (by simpa using ‹¬ opB c = true›) h
theorem toksS_none (l : List UInt8) (h : l.dropWhile blankB = []) : toksS l = some [] := by
  rw [toksS]
  split
  · rfl
  · rename_i c r e
    rw [h] at e
    cases e
theorem toksS_cons (l : List UInt8) (c : UInt8) (r : List UInt8) (h : l.dropWhile blankB = c :: r) :
    toksS l = match tokS (c :: r) with | none => none | some n => (toksS ((c :: r).drop n)).map ((c :: r).take n :: ·) := by
  have hb : blankB c = false := by
    have := List.head?_dropWhile_not (p := blankB) (l := l)
    rw [h] at this
    simpa using this
  rw [toksS]
  split
  · rename_i e
    rw [h] at e
    cases e
  · rename_i c' r' e
    rw [h] at e
    cases e
    cases ht : tokS (c :: r) with
    | none => rfl
    | some n =>
      have := tokS_pos c r n hb ht
      obtain ⟨k, rfl⟩ : ∃ k, n = k + 1 := ⟨n - 1, by omega⟩
      rfl
end Go.Proofs.YtpjmccajkcmmaaaGreatDoor

namespace Go.Proofs.YtpjmccajkcmmaaaGreatDoor
open Go.RowKit

theorem ops_any (c : UInt8) : ∃ n : Int, Hid (-1 ≤ n ∧ n < 100) ∧ (decide (0 ≤ n)) = opB c ∧ ∀ W, Calls Tryz.prog 111 #[.string ⟨#[59, 38, 124, 60, 62]⟩, .int .u8 (c.toNat : Int)] W fun e w' => e = .returned (.int .i64 n) ∧ W = w' := by
  refine ⟨Lib.indexByte [59, 38, 124, 60, 62] c, Lib.hid ?_, ?_, fun W => index_any ⟨#[59, 38, 124, 60, 62]⟩ c W⟩
  · have := indexByte_le [59, 38, 124, 60, 62] c
    simp at this
    omega
  · rw [Bool.eq_iff_iff, decide_eq_true_iff]
    exact index_in _ c

/-- what token says of a length -/
def tokV (s : ByteArray) : Value := match tokS s.data.toList with
  | none => .tuple #[.string ⟨#[]⟩, .bool false]
  | some n => .tuple #[.string (s.extract 0 n), .bool true]

/-- the walk through a word, at place i -/
def WdR (l : List UInt8) (i : Nat) : Prop := wordS l = (wordS (l.drop i)).map (· + i)

end Go.Proofs.YtpjmccajkcmmaaaGreatDoor

namespace Go.Proofs.YtpjmccajkcmmaaaGreatDoor
open Go.RowKit

/-- a text as a value -/
def strV (l : List UInt8) : Value := .string ⟨l.toArray⟩

theorem strInfo : (Tryz.prog.info? 9).map (fun i => (i.zero, i.size, i.bytes)) = some (some (.string .empty), 1, 16) := by kernel_rfl

theorem trim_any (s : ByteArray) (w : World) : Calls Tryz.prog 53 #[.string s, .string ⟨#[32, 9]⟩] w fun e w' => e = .returned (.string ⟨(s.data.toList.dropWhile blankB).toArray⟩) ∧ Below w.heap.size w w' := by
  refine (Any.strings_TrimLeft_ascii Tryz.lays161 (fun w => (Tryz.zeroValue153 w).trans (by kernel_rfl)) (by kernel_rfl) s ⟨#[32, 9]⟩ w (by decide) ?_)
  intro j b hj
  match j, hj with
  | 0, hj => cases hj; decide
  | 1, hj => cases hj; decide

/-- what tokens hands back -/
def ToksQ (B : Nat) (l : List UInt8) (v : Value) (k : Int) (w : World) : Prop := match toksS l with
  | none => v = .slice none 0 0 ∧ k = 4
  | some L => k = 0 ∧ L.length ≤ l.length ∧ w.ownsRowF B 9 1 v L.length (L.map strV)

theorem drop_len (l : List UInt8) : (l.dropWhile blankB).length ≤ l.length := (List.dropWhile_suffix (l := l) blankB).length_le

end Go.Proofs.YtpjmccajkcmmaaaGreatDoor

namespace Go.Proofs.YtpjmccajkcmmaaaGreatDoor
open Go.RowKit

/-- the slice v: n elements of size cells each, that hold xs; its row is one of K's -/
def SlAt (K : Nat → Prop) (w : World) (e : TypeId) (size : Nat) (v : Value) (n : Nat) (xs : List Value) : Prop :=
  xs.length = n * size ∧ ((n = 0 ∧ ∃ a c, v = .slice a 0 c) ∨
    ∃ g o cap cur fz, v = .slice (some ⟨g, o, none⟩) n cap ∧ n ≤ cap ∧ K g ∧ w.heap[g]? = some (.cells cur e fz) ∧ (cur.toList.drop o).take (n * size) = xs)
theorem SlAt.keep {K : Nat → Prop} {w w' : World} {e : TypeId} {size : Nat} {v : Value} {n : Nat} {xs : List Value} (h : SlAt K w e size v n xs) (hk : ∀ k, K k → k < w.heap.size → w'.heap[k]? = w.heap[k]?) : SlAt K w' e size v n xs := by
  refine ⟨h.1, h.2.imp id ?_⟩
  rintro ⟨g, o, cap, cur, fz, a, b, c, d, r⟩
  exact ⟨g, o, cap, cur, fz, a, b, c, (hk g c (Array.getElem?_eq_some_iff.1 d).1).trans d, r⟩
theorem SlAt.mono {K K' : Nat → Prop} {w : World} {e : TypeId} {size : Nat} {v : Value} {n : Nat} {xs : List Value} (h : SlAt K w e size v n xs) (hk : ∀ k, K k → k < w.heap.size → K' k) : SlAt K' w e size v n xs := by
  refine ⟨h.1, h.2.imp id ?_⟩
  rintro ⟨g, o, cap, cur, fz, a, b, c, d, r⟩
  exact ⟨g, o, cap, cur, fz, a, b, hk g c (Array.getElem?_eq_some_iff.1 d).1, d, r⟩
theorem SlAt.of_own {K : Nat → Prop} {B : Nat} {w : World} {e : TypeId} {size : Nat} {v : Value} {n : Nat} {xs : List Value} (h : w.ownsRowF B e size v n xs) (hk : ∀ k, v.ownBlock = some k → K k) : SlAt K w e size v n xs := by
  refine ⟨h.1, ?_⟩
  rcases h.2 with ⟨rfl, rfl⟩ | ⟨g, cap, cur, fz, rfl, _, hg, _, hn, _, _, ht⟩
  · exact .inl ⟨rfl, _, _, rfl⟩
  · exact .inr ⟨g, 0, cap, cur, fz, rfl, hn, hk g rfl, hg, by simpa using ht⟩
theorem SlAt.zero (K : Nat → Prop) (w : World) (e : TypeId) (size : Nat) (a : Option Addr) (c : Nat) : SlAt K w e size (.slice a 0 c) 0 [] := ⟨by simp, .inl ⟨rfl, _, _, rfl⟩⟩
/-- of a slice that has an element -/
theorem SlAt.ne0 {K : Nat → Prop} {w : World} {e : TypeId} {size : Nat} {v : Value} {n : Nat} {xs : List Value} (h : SlAt K w e size v n xs) (hn : n ≠ 0) :
    ∃ g o cap, v = .slice (some ⟨g, o, none⟩) n cap ∧ n ≤ cap ∧ K g ∧ g < w.heap.size ∧ (∀ j x, xs[j]? = some x → w.cell? ⟨g, o + j, none⟩ = some x) ∧
      ∀ a c, (n ≠ 1 → a = some ⟨g, o + size, none⟩) → n - 1 ≤ c → SlAt K w e size (.slice a (n - 1) c) (n - 1) (xs.drop size) := by
  obtain ⟨hx, ⟨h0, _⟩ | ⟨g, o, cap, cur, fz, rfl, hc, hK, hg, ht⟩⟩ := h
  · exact absurd h0 hn
  · refine ⟨g, o, cap, rfl, hc, hK, (Array.getElem?_eq_some_iff.1 hg).1, ?_, ?_⟩
    · intro j x hj
      rw [Lib.cell_of_heap hg]
      have := hj
      rw [← ht, List.getElem?_take] at this
      split at this
      · rw [List.getElem?_drop] at this
        simpa using this
      · cases this
    · intro a c ha hc'
      refine ⟨by rw [List.length_drop, hx, ← Nat.sub_one_mul], ?_⟩
      by_cases h1 : n = 1
      · exact .inl ⟨by omega, a, c, by rw [h1]⟩
      · refine .inr ⟨g, o + size, c, cur, fz, by rw [ha h1], hc', hK, hg, ?_⟩
        rw [← ht, List.drop_take, List.drop_drop, ← Nat.sub_one_mul]
theorem SlAt.isSlice {K : Nat → Prop} {w : World} {e : TypeId} {size : Nat} {v : Value} {n : Nat} {xs : List Value} (h : SlAt K w e size v n xs) : ∃ a c, v = .slice a n c := by
  obtain ⟨hx, ⟨rfl, a, c, rfl⟩ | ⟨g, o, cap, cur, fz, rfl, hc, hK, hg, ht⟩⟩ := h
  · exact ⟨_, _, rfl⟩
  · exact ⟨_, _, rfl⟩

/-- a slice of texts -/
def StrsAt (K : Nat → Prop) (w : World) (v : Value) (l : List (List UInt8)) : Prop := SlAt K w 9 1 v l.length (l.map strV)
theorem StrsAt.cons {K : Nat → Prop} {w : World} {v : Value} {x : List UInt8} {l : List (List UInt8)} (h : StrsAt K w v (x :: l)) :
    ∃ g o cap, v = .slice (some ⟨g, o, none⟩) (l.length + 1) cap ∧ l.length + 1 ≤ cap ∧ K g ∧ g < w.heap.size ∧ w.cell? ⟨g, o, none⟩ = some (.string ⟨x.toArray⟩) ∧
      (∀ y r, l = y :: r → w.cell? ⟨g, o + 1, none⟩ = some (.string ⟨y.toArray⟩)) ∧
      ∀ a c, (l ≠ [] → a = some ⟨g, o + 1, none⟩) → l.length ≤ c → StrsAt K w (.slice a l.length c) l := by
  obtain ⟨g, o, cap, hv, hc, hK, hg, hx, ht⟩ := SlAt.ne0 h (by simp)
  refine ⟨g, o, cap, hv, by simpa using hc, hK, hg, hx 0 _ rfl, ?_, ?_⟩
  · rintro y r rfl
    exact hx 1 _ rfl
  · intro a c ha hc'
    have := ht a c (fun h => ha (by rintro rfl; simp at h)) (by simpa using hc')
    simpa [StrsAt] using this

/-- a pointer to a text, or nil -/
def PtrAt (K : Nat → Prop) (w : World) (v : Value) : Option (List UInt8) → Prop
  | none => v = .pointer none
  | some t => ∃ b fr, v = .pointer (some ⟨b, 0, none⟩) ∧ K b ∧ w.heap[b]? = some (.cells #[strV t] 9 fr)
theorem PtrAt.keep {K : Nat → Prop} {w w' : World} {v : Value} {x : Option (List UInt8)} (h : PtrAt K w v x) (hk : ∀ k, K k → k < w.heap.size → w'.heap[k]? = w.heap[k]?) : PtrAt K w' v x := by
  cases x with
  | none => exact h
  | some t =>
    obtain ⟨b, fr, rfl, hK, hb⟩ := h
    exact ⟨b, fr, rfl, hK, (hk b hK (Array.getElem?_eq_some_iff.1 hb).1).trans hb⟩
theorem PtrAt.mono {K K' : Nat → Prop} {w : World} {v : Value} {x : Option (List UInt8)} (h : PtrAt K w v x) (hk : ∀ k, K k → k < w.heap.size → K' k) : PtrAt K' w v x := by
  cases x with
  | none => exact h
  | some t =>
    obtain ⟨b, fr, rfl, hK, hb⟩ := h
    exact ⟨b, fr, rfl, hk b hK (Array.getElem?_eq_some_iff.1 hb).1, hb⟩

/-- a command: what stands ahead of it, its words, where it reads and writes, whether it adds -/
structure PCmd where
  op : List UInt8
  words : List (List UInt8)
  inn : Option (List UInt8)
  out : Option (List UInt8)
  add : Bool
/-- .. of which nothing stands there yet -/
def PCmd.fresh (op : List UInt8) : PCmd := ⟨op, [], none, none, false⟩
def PCmd.any (c : PCmd) : Bool := !c.words.isEmpty || c.inn.isSome || c.out.isSome

def CmdAt (K : Nat → Prop) (w : World) (xs : List Value) (c : PCmd) : Prop :=
  ∃ wv iv ov, xs = [strV c.op, wv, iv, ov, .bool c.add] ∧ StrsAt K w wv c.words ∧ PtrAt K w iv c.inn ∧ PtrAt K w ov c.out
theorem CmdAt.keep {K : Nat → Prop} {w w' : World} {xs : List Value} {c : PCmd} (h : CmdAt K w xs c) (hk : ∀ k, K k → k < w.heap.size → w'.heap[k]? = w.heap[k]?) : CmdAt K w' xs c := by
  obtain ⟨wv, iv, ov, hx, h1, h2, h3⟩ := h
  exact ⟨wv, iv, ov, hx, SlAt.keep h1 hk, h2.keep hk, h3.keep hk⟩
theorem CmdAt.mono {K K' : Nat → Prop} {w : World} {xs : List Value} {c : PCmd} (h : CmdAt K w xs c) (hk : ∀ k, K k → k < w.heap.size → K' k) : CmdAt K' w xs c := by
  obtain ⟨wv, iv, ov, hx, h1, h2, h3⟩ := h
  exact ⟨wv, iv, ov, hx, SlAt.mono h1 hk, h2.mono hk, h3.mono hk⟩
theorem CmdAt.length {K : Nat → Prop} {w : World} {xs : List Value} {c : PCmd} (h : CmdAt K w xs c) : xs.length = 5 := by
  obtain ⟨wv, iv, ov, rfl, _⟩ := h
  rfl
def CmdsIn (K : Nat → Prop) (w : World) : List Value → List PCmd → Prop
  | xs, [] => xs = []
  | xs, c :: cs => CmdAt K w (xs.take 5) c ∧ CmdsIn K w (xs.drop 5) cs
theorem CmdsIn.keep {K : Nat → Prop} {w w' : World} (hk : ∀ k, K k → k < w.heap.size → w'.heap[k]? = w.heap[k]?) : ∀ {cs : List PCmd} {xs : List Value}, CmdsIn K w xs cs → CmdsIn K w' xs cs
  | [], _, h => h
  | _ :: _, _, h => ⟨h.1.keep hk, CmdsIn.keep hk h.2⟩
theorem CmdsIn.mono {K K' : Nat → Prop} {w : World} (hk : ∀ k, K k → k < w.heap.size → K' k) : ∀ {cs : List PCmd} {xs : List Value}, CmdsIn K w xs cs → CmdsIn K' w xs cs
  | [], _, h => h
  | _ :: _, _, h => ⟨h.1.mono hk, CmdsIn.mono hk h.2⟩
theorem CmdsIn.snoc {K : Nat → Prop} {w : World} {c : PCmd} {ys : List Value} (hc : CmdAt K w ys c) : ∀ {cs : List PCmd} {xs : List Value}, CmdsIn K w xs cs → CmdsIn K w (xs ++ ys) (cs ++ [c])
  | [], xs, h => by
    have : xs = [] := h
    subst this
    have hl := hc.length
    refine ⟨by rw [List.nil_append, List.take_of_length_le (by omega)]; exact hc, ?_⟩
    show ([] ++ ys).drop 5 = []
    rw [List.nil_append, List.drop_of_length_le (by omega)]
  | d :: cs, xs, h => by
    have hl := h.1.length
    rw [List.length_take] at hl
    refine ⟨by rw [List.take_append_of_le_length (by omega)]; exact h.1, ?_⟩
    show CmdsIn K w ((xs ++ ys).drop 5) (cs ++ [c])
    rw [List.drop_append_of_le_length (by omega)]
    exact CmdsIn.snoc hc h.2
end Go.Proofs.YtpjmccajkcmmaaaGreatDoor
