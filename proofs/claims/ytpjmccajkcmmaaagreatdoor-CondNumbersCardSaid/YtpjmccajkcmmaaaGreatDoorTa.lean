/- Quotes and strokes at the begin of a text, as plain functions; sh.quoted. Frames: what stays of a world while some of its blocks are written; appends whose new row is told. strings.Builder, wherever it lies: in a block of its own, or in a field of a struct. strings.Builder in a block of the caller's own. -/
import Derived.Test.YtpjmccajkcmmaaaGreatDoorShelf
import Derived.WalkKit
import Derived.BigCall
import Derived.Lib.Hide
import Derived.Deep.DeepCutAuto
import Derived.Deep.CutBlock
import Derived.Deep.QuietTactic
import Derived.BigQuiet
import Derived.Lib.FrozenHead2
import Derived.Shelf.Strings.Builder1
namespace Go.Proofs.YtpjmccajkcmmaaaGreatDoor
open Go.RowKit

/-- behind a double quote: how many bytes up to the closing one, it too, and what they mean -/
def dqS : List UInt8 → Option (Nat × List UInt8)
  | [] => none
  | [c] => if c = 34 then some (1, []) else none
  | c :: d :: r => if c = 34 then some (1, []) else if c = 92 then (dqS r).map (fun x => (x.1 + 2, d :: x.2)) else (dqS (d :: r)).map (fun x => (x.1 + 1, c :: x.2))
/-- what begins a text: how many bytes it has, what they mean, whether it ends -/
def spanS : List UInt8 → Nat × List UInt8 × Bool
  | [] => (0, [], false)
  | c :: r =>
    if c = 92 then (match r with | [] => (0, [], false) | d :: _ => (2, [d], true))
    else if c = 39 then (if Lib.indexByte r 39 < 0 then (0, [], false) else ((Lib.indexByte r 39).toNat + 2, r.take (Lib.indexByte r 39).toNat, true))
    else if c = 34 then (match dqS r with | none => (0, [], false) | some x => (x.1 + 1, x.2, true))
    else (1, [c], true)

theorem dqS_le : ∀ (l : List UInt8) (x : Nat × List UInt8), dqS l = some x → 1 ≤ x.1 ∧ x.1 ≤ l.length ∧ x.2.length < x.1
  | [], x, h => by cases h
  | [c], x, h => by
    simp only [dqS] at h
    split at h
    · cases h; simp
    · cases h
  | c :: d :: r, x, h => by
    simp only [dqS] at h
    split at h
    · cases h; simp
    · split at h
      · obtain ⟨y, hy, rfl⟩ := Option.map_eq_some_iff.1 h
        have := dqS_le r y hy
        simp
        omega
      · obtain ⟨y, hy, rfl⟩ := Option.map_eq_some_iff.1 h
        have := dqS_le (d :: r) y hy
        simp at this ⊢; omega

theorem indexByte_le : ∀ (l : List UInt8) (c : UInt8), -1 ≤ Lib.indexByte l c ∧ Lib.indexByte l c < l.length
  | [], c => by simp [Lib.indexByte]
  | b :: l, c => by
    have := indexByte_le l c
    simp only [Lib.indexByte]
    split
    · simp
    · split
      · simp
        try omega
      · simp
        omega

theorem spanS_le (l : List UInt8) : (spanS l).1 ≤ l.length ∧ (spanS l).2.1.length ≤ (spanS l).1 ∧ ((spanS l).2.2 = true → 1 ≤ (spanS l).1) ∧ ((spanS l).2.2 = false → (spanS l).1 = 0 ∧ (spanS l).2.1 = []) := by
  cases l with
  | nil => simp [spanS]
  | cons c r =>
    simp only [spanS]
    split
    · cases r <;> simp
    · split
      · split
        · simp
        · have := indexByte_le r 39
          simp [List.length_take]
          try omega
      · split
        · cases h : dqS r with
          | none => simp
          | some x =>
            have := dqS_le r x h
            simp
            try omega
        · simp

/-- the step of the walk through double quotes, at place i -/
def DqR (l : List UInt8) (i : Nat) (acc : List UInt8) : Prop := 1 ≤ i ∧ dqS (l.drop 1) = (dqS (l.drop i)).map (fun x => (x.1 + (i - 1), acc ++ x.2))
theorem DqR.start (l : List UInt8) : DqR l 1 [] := ⟨Nat.le_refl _, by cases h : dqS (l.drop 1) <;> simp⟩
theorem DqR.none (l : List UInt8) (i : Nat) (acc : List UInt8) (h : DqR l i acc) (hi : l.length ≤ i) : dqS (l.drop 1) = .none := by
  rw [h.2, List.drop_of_length_le hi]
  rfl
theorem DqR.close (l : List UInt8) (i : Nat) (acc : List UInt8) (h : DqR l i acc) (hi : i < l.length) (hc : l.getD i 0 = 34) : dqS (l.drop 1) = some (i, acc) := by
  have hd : l.drop i = l.getD i 0 :: l.drop (i + 1) := by
    rw [List.drop_eq_getElem_cons hi, List.getD_eq_getElem?_getD, List.getElem?_eq_getElem hi]
    rfl
  rw [h.2, hd, hc]
  have h1 := h.1
  cases l.drop (i + 1) with
  | nil => simp [dqS]; omega
  | cons d r => simp [dqS]; omega
theorem DqR.stroke (l : List UInt8) (i : Nat) (acc : List UInt8) (h : DqR l i acc) (hi : i + 1 < l.length) (hc : l.getD i 0 = 92) : DqR l (i + 2) (acc ++ [l.getD (i + 1) 0]) := by
  have hd : l.drop i = l.getD i 0 :: l.getD (i + 1) 0 :: l.drop (i + 2) := by
    rw [List.drop_eq_getElem_cons (by omega), List.drop_eq_getElem_cons hi, List.getD_eq_getElem?_getD, List.getD_eq_getElem?_getD, List.getElem?_eq_getElem (show i < l.length by omega), List.getElem?_eq_getElem hi]
    rfl
  refine ⟨by omega, ?_⟩
  rw [h.2, hd, hc]
  have h1 := h.1
  simp only [dqS]
  rw [if_neg (by decide)]
  simp only [if_true]
  rw [Option.map_map]
  congr 1
  funext x
  simp; omega
theorem DqR.lone (l : List UInt8) (i : Nat) (acc : List UInt8) (h : DqR l i acc) (hi : i + 1 = l.length) (hc : l.getD i 0 ≠ 34) : dqS (l.drop 1) = .none := by
  have hd : l.drop i = [l.getD i 0] := by
    rw [List.drop_eq_getElem_cons (by omega), List.getD_eq_getElem?_getD, List.getElem?_eq_getElem (show i < l.length by omega), List.drop_of_length_le (by omega)]
    rfl
  rw [h.2, hd]
  unfold dqS
  rw [if_neg hc]
  rfl
theorem DqR.byte (l : List UInt8) (i : Nat) (acc : List UInt8) (h : DqR l i acc) (hi : i + 1 < l.length) (h1 : l.getD i 0 ≠ 34) (h2 : l.getD i 0 ≠ 92) : DqR l (i + 1) (acc ++ [l.getD i 0]) := by
  have hd : l.drop i = l.getD i 0 :: l.getD (i + 1) 0 :: l.drop (i + 2) := by
    rw [List.drop_eq_getElem_cons (by omega), List.drop_eq_getElem_cons hi, List.getD_eq_getElem?_getD, List.getD_eq_getElem?_getD, List.getElem?_eq_getElem (show i < l.length by omega), List.getElem?_eq_getElem hi]
    rfl
  have hd' : l.drop (i + 1) = l.getD (i + 1) 0 :: l.drop (i + 2) := by
    rw [List.drop_eq_getElem_cons hi, List.getD_eq_getElem?_getD, List.getElem?_eq_getElem hi]
    rfl
  refine ⟨by omega, ?_⟩
  rw [h.2, hd, hd']
  have h0 := h.1
  simp only [dqS]
  rw [if_neg h1, if_neg h2, Option.map_map]
  congr 1
  funext x
  simp; omega

theorem byte_at (s : ByteArray) (i : Nat) (p : i < s.size) : s[i]'p = s.data.toList.getD i 0 := by
  have : i < s.data.toList.length := by simpa using p
  rw [List.getD_eq_getElem?_getD, List.getElem?_eq_getElem this]
  rfl
/-- a byte held against a number, as the walk spells it -/
theorem byte_eq (s : ByteArray) (i : Nat) (p : i < s.size) (c : UInt8) (n : Int) (h : n = (c.toNat : Int)) : (((s[i]'p).toNat : Int) == n) = (s.data.toList.getD i 0 == c) := by
  rw [byte_at, h, Bool.eq_iff_iff, beq_iff_eq, beq_iff_eq]
  exact ⟨fun h => UInt8.toNat_inj.1 (Int.ofNat_inj.1 h), fun h => by rw [h]⟩
theorem tail_list (s : ByteArray) (k : Nat) : (s.extract k s.size).data.toList = s.data.toList.drop k := by
  have hl : s.data.toList.length = s.size := by simp
  simp
  rw [List.take_of_length_le]
  simp

/-- strings.IndexByte at a byte of a text -/
theorem index_any (s : ByteArray) (c : UInt8) (w : World) : Calls Tryz.prog 111 #[.string s, .int .u8 (c.toNat : Int)] w fun e w' => e = .returned (.int .i64 (Lib.indexByte s.data.toList c)) ∧ w = w' :=
  (Tryz.strings_IndexByte s c.toNat w).mono fun _ _ ⟨he, hw⟩ => ⟨by rw [he]; simp, hw.symm⟩

end Go.Proofs.YtpjmccajkcmmaaaGreatDoor

namespace Go.Proofs.YtpjmccajkcmmaaaGreatDoor
open Go.RowKit

/-- below B, but for the blocks of M, the world stands as it stood -/
structure Keeps (B : Nat) (M : Nat → Prop) (w w' : World) : Prop where
  os : w'.os = w.os
  tape : w'.tape = w.tape
  output : w'.output = w.output
  size : w.heap.size ≤ w'.heap.size
  block : ∀ k, k < B → ¬ M k → w'.heap[k]? = w.heap[k]?

theorem Keeps.refl (B : Nat) (M : Nat → Prop) (w : World) : Keeps B M w w := ⟨rfl, rfl, rfl, Nat.le_refl _, fun _ _ _ => rfl⟩
theorem Keeps.trans {B : Nat} {M : Nat → Prop} {a b c : World} (h : Keeps B M a b) (k : Keeps B M b c) : Keeps B M a c :=
  ⟨k.os.trans h.os, k.tape.trans h.tape, k.output.trans h.output, Nat.le_trans h.size k.size, fun i hi hm => (k.block i hi hm).trans (h.block i hi hm)⟩
theorem Keeps.mono {B B' : Nat} {M M' : Nat → Prop} {w w' : World} (h : Keeps B M w w') (hB : B' ≤ B) (hM : ∀ k, k < B' → M k → M' k) : Keeps B' M' w w' :=
  ⟨h.os, h.tape, h.output, h.size, fun k hk hm => h.block k (Nat.lt_of_lt_of_le hk hB) (fun x => hm (hM k hk x))⟩
theorem Keeps.of {B : Nat} {w w' : World} (h : Below B w w') (M : Nat → Prop) : Keeps B M w w' := ⟨h.os, h.tape, h.output, h.size, fun k hk _ => h.block k hk⟩
theorem Keeps.below {B : Nat} {M : Nat → Prop} {w w' : World} (h : Keeps B M w w') (hM : ∀ k, k < B → ¬ M k) : Below B w w' := ⟨h.os, h.tape, h.output, h.size, fun k hk => h.block k hk (hM k hk)⟩
theorem Keeps.alloc {B : Nat} {M : Nat → Prop} {a w : World} (h : Keeps B M a w) (hB : B ≤ w.heap.size) (o : Obj) : Keeps B M a (w.alloc o) :=
  h.trans (Keeps.of ((Below.refl B w).alloc hB o) M)
theorem Keeps.drew {B : Nat} {M : Nat → Prop} {a w : World} (h : Keeps B M a w) : Keeps B M a w.drew := ⟨h.os, h.tape, h.output, h.size, h.block⟩
theorem Keeps.setCell {B : Nat} {M : Nat → Prop} {a w : World} (h : Keeps B M a w) {p : Addr} (hp : B ≤ p.block ∨ M p.block) (u : Value) : Keeps B M a (w.setCell p u) :=
  h.trans ⟨rfl, rfl, rfl, by simp [World.setCell], fun k hk hm => Below.heap_setCell _ _ _ _ (fun e => by subst e; rcases hp with h | h; omega; exact hm h)⟩
theorem Keeps.grown {B : Nat} {M : Nat → Prop} {a w w' : World} {row : Option Nat} (h : Keeps B M a w) (hg : w.grownBy w' row) (hB : B ≤ w.heap.size) (hr : ∀ k, row = some k → B ≤ k ∨ M k) : Keeps B M a w' :=
  h.trans ⟨hg.os, hg.tape, hg.output, hg.size, fun k hk hm => hg.block k (by omega) (fun e => by rcases hr k e.symm with h | h; omega; exact hm h)⟩
theorem Keeps.freeze {B : Nat} {M : Nat → Prop} {a w : World} (h : Keeps B M a w) {p : Addr} (hp : B ≤ p.block ∨ M p.block) (n : Nat) : Keeps B M a (w.freeze p n) := by
  refine h.trans ?_
  unfold World.freeze
  split
  · exact Keeps.refl _ _ _
  · refine ⟨rfl, rfl, rfl, by simp, fun k hk hm => ?_⟩
    simp only [Array.getElem?_modify]
    rw [if_neg]
    intro e
    subst e
    rcases hp with h | h
    · omega
    · exact hm h
theorem Keeps.cell {B : Nat} {M : Nat → Prop} {w w' : World} (h : Keeps B M w w') {p : Addr} (hp : p.block < B) (hm : ¬ M p.block) : w'.cell? p = w.cell? p := World.cell?_of_block (w := w) (h.block p.block hp hm)

/-- a row is another one's, or none's, or new -/
def RowFrom (N : Nat) (v v' : Value) : Prop := ∀ k, v'.ownBlock = some k → v.ownBlock = some k ∨ N ≤ k
theorem RowFrom.refl (N : Nat) (v : Value) : RowFrom N v v := fun _ h => .inl h
theorem RowFrom.trans {N : Nat} {a b c : Value} (h : RowFrom N a b) (k : RowFrom N b c) : RowFrom N a c := fun i hi => (k i hi).elim (h i) .inr
theorem RowFrom.mono {N N' : Nat} {a b : Value} (h : RowFrom N a b) (hN : N' ≤ N) : RowFrom N' a b := fun i hi => (h i hi).imp id (Nat.le_trans hN)

section
variable {P : Program} (w : World)
/-- a text's bytes appended: which row it is -/
theorem run_append_str_from (t u ty e : TypeId) (i : TypeInfo) (ht : P.underlying t = some (.slice e)) (hu : P.underlying u = some .string) (hi : P.info? e = some i) (hz : i.zero = some (.int .u8 0))
    (hsize : i.size = 1) (hby : i.bytes = 1) (v : Value) (n : Nat) (xs : List Value) (hown : w.ownsRowF 0 e 1 v n xs) (s : ByteArray) (hbytes : n + s.size ≤ 140737488355328) :
    ∃ v' w', (Builtin.append_ #[t, u] ty #[v, .string s]).run P w = .ok v' w' ∧ w'.ownsRowF 0 e 1 v' (n + s.size) (xs ++ Lib.strCells s) ∧ w.grownBy w' v.ownBlock ∧ RowFrom w.heap.size v v' := by
  rcases hown.2 with ⟨rfl, rfl⟩ | ⟨g, cap, cur, fz, hv, hbg, hg, hfz, hnc, hcm, hcs, htake⟩
  · obtain ⟨v', w', h1, h2, h3, h4⟩ := Lib.run_append_own_stringF (P := P) w w.heap.size t u ty e i ht hu hi hz hsize hby (.slice none 0 0) 0 xs ⟨hown.1, .inl ⟨rfl, rfl⟩⟩ s (by unfold maxLen; omega) hbytes (Nat.le_refl _)
    refine ⟨v', w', h1, ⟨h2.1, ?_⟩, h3, fun k hk => .inr (h2.lt k hk).1⟩
    rcases h2.2 with h | ⟨g, cap, cur, fz, a, b, r⟩
    · exact .inl h
    · exact .inr ⟨g, cap, cur, fz, a, Nat.zero_le _, r⟩
  · obtain ⟨v', w', h1, h2, h3, h4⟩ := Lib.run_append_own_stringF (P := P) w 0 t u ty e i ht hu hi hz hsize hby v n xs hown s (by unfold maxLen; omega) hbytes (Nat.zero_le _)
    refine ⟨v', w', h1, h2, h3, ?_⟩
    have hxl : xs.length = n := by simpa using hown.1
    subst hv
    by_cases hroom : n + s.size ≤ cap
    · have hr := Lib.run_append_room_stringF (P := P) w t u ty e i ht hu hi hsize g n cap cur fz hg (by simpa using hfz) s hroom (by omega)
      rw [h1] at hr
      injection hr with hr _
      subst hr
      exact RowFrom.refl _ _
    · have holds : ∀ j u, xs[j]? = some u → w.cell? ((⟨g, 0, none⟩ : Addr).add j) = some u := hown.cells (g := g) rfl
      have hr := Lib.run_append_grow_string (P := P) w t u ty e i (.int .u8 0) ht hu hi hz ⟨g, 0, none⟩ n cap xs (by rw [hsize]; simpa using hxl) holds s (by omega) (by omega) (by rw [hby]; exact growslice_fits (by omega) (by omega))
      rw [h1] at hr
      injection hr with hr _
      subst hr
      intro k hk
      simp [Value.ownBlock] at hk
      exact .inr (by omega)

/-- cells appended: which row it is -/
theorem run_append_cells_from (t ty e : TypeId) (i : TypeInfo) (z : Value) (size bytes : Nat) (ht : P.underlying t = some (.slice e)) (hi : P.info? e = some i) (hz : i.zero = some z)
    (hsize : i.size = size) (hby : i.bytes = bytes) (hzs : z.cells.size = size) (hsz : 0 < size)
    (v : Value) (n : Nat) (xs : List Value) (hown : w.ownsRowF 0 e size v n xs)
    (a : Addr) (m c : Nat) (news : List Value) (hl : news.length = m * size) (hnews : ∀ j u, news[j]? = some u → w.cell? (a.add j) = some u) (h1 : ∀ u ∈ news, u.oneCell' = true)
    (h63 : n + m ≤ maxLen) (hbytes : (n + m) * bytes ≤ 140737488355328) :
    ∃ v' w', (Builtin.append_ #[t, t] ty #[v, .slice (some a) m c]).run P w = .ok v' w' ∧ w'.ownsRowF 0 e size v' (n + m) (xs ++ news) ∧ w.grownBy w' v.ownBlock ∧ RowFrom w.heap.size v v' := by
  rcases hown.2 with ⟨rfl, rfl⟩ | ⟨g, cap, cur, fz, hv, hbg, hg, hfz, hnc, hcm, hcs, htake⟩
  · obtain ⟨v', w', g1, h2, h3, h4⟩ := run_append_ownF (P := P) w w.heap.size t ty e i z size bytes ht hi hz hsize hby hzs hsz (.slice none 0 0) 0 xs ⟨hown.1, .inl ⟨rfl, rfl⟩⟩ a m c news hl hnews h1 h63 hbytes (Nat.le_refl _)
    refine ⟨v', w', g1, ⟨h2.1, ?_⟩, h3, fun k hk => .inr (h2.lt k hk).1⟩
    rcases h2.2 with h | ⟨g, cap, cur, fz, a, b, r⟩
    · exact .inl h
    · exact .inr ⟨g, cap, cur, fz, a, Nat.zero_le _, r⟩
  · obtain ⟨v', w', g1, h2, h3, h4⟩ := run_append_ownF (P := P) w 0 t ty e i z size bytes ht hi hz hsize hby hzs hsz v n xs hown a m c news hl hnews h1 h63 hbytes (Nat.zero_le _)
    refine ⟨v', w', g1, h2, h3, ?_⟩
    subst hv
    subst hsize
    subst hby
    by_cases hroom : n + m ≤ cap
    · have hfit : n * i.size + news.length ≤ cur.size := by rw [hl, hcs, ← Nat.add_mul]; exact Nat.mul_le_mul_right _ hroom
      have hr := run_append_roomF (P := P) w t ty e i ht hi g n cap cur fz hg hfz a m c news hl hnews h1 hroom hfit
      rw [g1] at hr
      injection hr with hr _
      subst hr
      exact RowFrom.refl _ _
    · have holds : ∀ j u, xs[j]? = some u → w.cell? ((⟨g, 0, none⟩ : Addr).add j) = some u := hown.cells (g := g) rfl
      have hr := run_append_grow (P := P) w t ty e i z ht hi hz ⟨g, 0, none⟩ n cap xs hown.1 holds a m c news hl hnews (by omega) (by unfold maxLen at h63; omega) (growslice_fits (by omega) hbytes)
      rw [g1] at hr
      injection hr with hr _
      subst hr
      intro k hk
      simp [Value.ownBlock] at hk
      exact .inr (by omega)

theorem wp_append_str_from {ops : Array Oper} {rest : List Oper} {o : Oper} {a : Act} {Q : Exit → Act → World → Prop} (hgd : o.guard = none) (sl x : Operand) (t u : TypeId)
    (ho : o.op = .call { callee := .builtin .append, args := #[sl, x], argTypes := #[t, u] })
    (e : TypeId) (i : TypeInfo) (ht : P.underlying t = some (.slice e)) (hu : P.underlying u = some .string) (hi : P.info? e = some i) (hz : i.zero = some (.int .u8 0))
    (hsize : i.size = 1) (hby : i.bytes = 1)
    (v : Value) (n : Nat) (xs : List Value) (hs : a.eval sl = v) (hown : w.ownsRowF 0 e 1 v n xs) (s : ByteArray) (hx : a.eval x = .string s) (hbytes : n + s.size ≤ 140737488355328)
    (h : ∀ v' w', w'.ownsRowF 0 e 1 v' (n + s.size) (xs ++ Lib.strCells s) → w.grownBy w' v.ownBlock → RowFrom w.heap.size v v' → wpList P ops Q rest (a.put o.dst v') w') : wpList P ops Q (o :: rest) a w := by
  refine wpList_plain hgd fun K hK => ?_
  obtain ⟨v', w', hr, h2, h3, h4⟩ := run_append_str_from (P := P) w t u o.type e i ht hu hi hz hsize hby v n xs hown s hbytes
  unfold Oper.wp execOp
  simp only [ho, resolve, invoke, builtin, Sem.run_bind, Sem.run_pure, Result.andThen_ok, List.map_toArray, List.map_cons, List.map_nil, hs, hx, hr]
  exact hK _ _ (h v' w' h2 h3 h4)

theorem wp_append_cells_from {ops : Array Oper} {rest : List Oper} {o : Oper} {a : Act} {Q : Exit → Act → World → Prop} (hgd : o.guard = none) (s x : Operand) (t : TypeId)
    (ho : o.op = .call { callee := .builtin .append, args := #[s, x], argTypes := #[t, t] })
    (e : TypeId) (i : TypeInfo) (z : Value) (size bytes : Nat) (ht : P.underlying t = some (.slice e)) (hi : P.info? e = some i) (hz : i.zero = some z)
    (hsize : i.size = size) (hby : i.bytes = bytes) (hzs : z.cells.size = size) (hsz : 0 < size)
    (v : Value) (n : Nat) (xs : List Value) (hs : a.eval s = v) (hown : w.ownsRowF 0 e size v n xs)
    (ad : Addr) (m c : Nat) (news : List Value) (hx : a.eval x = .slice (some ad) m c) (hl : news.length = m * size) (hnews : ∀ j u, news[j]? = some u → w.cell? (ad.add j) = some u) (h1 : ∀ u ∈ news, u.oneCell' = true)
    (h63 : n + m ≤ maxLen) (hbytes : (n + m) * bytes ≤ 140737488355328)
    (h : ∀ v' w', w'.ownsRowF 0 e size v' (n + m) (xs ++ news) → w.grownBy w' v.ownBlock → RowFrom w.heap.size v v' → wpList P ops Q rest (a.put o.dst v') w') : wpList P ops Q (o :: rest) a w := by
  refine wpList_plain hgd fun K hK => ?_
  obtain ⟨v', w', hr, h2, h3, h4⟩ := run_append_cells_from (P := P) w t o.type e i z size bytes ht hi hz hsize hby hzs hsz v n xs hown ad m c news hl hnews h1 h63 hbytes
  unfold Oper.wp execOp
  simp only [ho, resolve, invoke, builtin, Sem.run_bind, Sem.run_pure, Result.andThen_ok, List.map_toArray, List.map_cons, List.map_nil, hs, hx, hr]
  exact hK _ _ (h v' w' h2 h3 h4)
end
theorem ownsRowF_zero {w : World} {B : Nat} {e : TypeId} {size : Nat} {v : Value} {n : Nat} {xs : List Value} (h : w.ownsRowF B e size v n xs) : w.ownsRowF 0 e size v n xs := by
  refine ⟨h.1, ?_⟩
  rcases h.2 with h | ⟨g, cap, cur, fz, a, b, r⟩
  · exact .inl h
  · exact .inr ⟨g, cap, cur, fz, a, Nat.zero_le _, r⟩
theorem ownsRowF_heap {w w' : World} {B : Nat} {e : TypeId} {size : Nat} {v : Value} {n : Nat} {xs : List Value} (h : w.ownsRowF B e size v n xs) (hk : ∀ k, v.ownBlock = some k → w'.heap[k]? = w.heap[k]?) : w'.ownsRowF B e size v n xs := by
  refine ⟨h.1, ?_⟩
  rcases h.2 with h | ⟨g, cap, cur, fz, a, b, hg, r⟩
  · exact .inl h
  · refine .inr ⟨g, cap, cur, fz, a, b, ?_, r⟩
    rw [hk g (by rw [a]; rfl)]
    exact hg
end Go.Proofs.YtpjmccajkcmmaaaGreatDoor

namespace Go.Proofs.YtpjmccajkcmmaaaGreatDoor
open Go.RowKit

theorem heap_set {w : World} {b : Nat} {cs : Array Value} {T : TypeId} {fr : Nat × Nat} (h : w.heap[b]? = some (.cells cs T fr)) (o : Nat) (u : Value) : (w.setCell ⟨b, o, none⟩ u).heap[b]? = some (.cells (cs.setIfInBounds o u) T fr) := by
  simp [World.setCell, Array.getElem?_modify, h]

/-- a builder at the cells o, o+1 of block b, which holds the cells cs: it holds the bytes l -/
structure BHas (T : TypeId) (b o : Nat) (cs : Array Value) (v : Value) (l : List UInt8) (w : World) : Prop where
  heap : w.heap[b]? = some (.cells cs T (0, 0))
  addr : cs[o]? = some (.pointer none) ∨ cs[o]? = some (.pointer (some ⟨b, o, none⟩))
  buf : cs[o + 1]? = some v
  own : w.ownsRowF 0 5 1 v l.length (Lib.byteCells l)
/-- of a type such a builder lies in -/
structure BLies (T : TypeId) (n o : Nat) : Prop where
  lies : liesAt Tryz.prog Tryz.prog.depth T (n / Tryz.prog.cellsOf T) o 193 1 = true
  lt : o + 1 < n
  ne : T ≠ 5

theorem BLies.own : BLies 193 2 0 := ⟨by kernel_rfl, by decide, by decide⟩

theorem BHas.keep {T : TypeId} {b o : Nat} {cs : Array Value} {v : Value} {l : List UInt8} {w w' : World} (h : BHas T b o cs v l w) (hk : ∀ k, k = b ∨ v.ownBlock = some k → w'.heap[k]? = w.heap[k]?) : BHas T b o cs v l w' :=
  ⟨(hk b (.inl rfl)).trans h.heap, h.addr, h.buf, ownsRowF_heap h.own (fun k e => hk k (.inr e))⟩
theorem BHas.apart {T : TypeId} {b o : Nat} {cs : Array Value} {v : Value} {l : List UInt8} {w : World} (h : BHas T b o cs v l w) (hT : T ≠ 5) : v.ownBlock ≠ some b := by
  intro e
  rcases h.own.2 with ⟨rfl, _⟩ | ⟨g, cap, cur, fz, rfl, _, hg, _⟩
  · simp [Value.ownBlock] at e
  · simp [Value.ownBlock] at e
    subst e
    rw [h.heap] at hg
    simp only [Option.some.injEq, Obj.cells.injEq] at hg
    exact hT hg.2.1
theorem BHas.lt {T : TypeId} {b o : Nat} {cs : Array Value} {v : Value} {l : List UInt8} {w : World} (h : BHas T b o cs v l w) : b < w.heap.size := (Array.getElem?_eq_some_iff.1 h.heap).1

theorem byteInfo : (Tryz.prog.info? 5).map (fun i => (i.zero, i.size, i.bytes)) = some (some (.int .u8 0), 1, 1) := by kernel_rfl
theorem bldInfo : (Tryz.prog.info? 193).map (·.size) = some 2 := by kernel_rfl

set_option maxHeartbeats 1000000 in
set_option maxRecDepth 100000 in
theorem copyCheck_any {T : TypeId} {b o : Nat} {cs : Array Value} {v : Value} {l : List UInt8} (w : World) (hT : BLies T cs.size o) (h : BHas T b o cs v l w) :
    Calls Tryz.prog 142 #[.pointer (some ⟨b, o, none⟩)] w fun e w' => e = .returned (.tuple #[]) ∧ BHas T b o (cs.setIfInBounds o (.pointer (some ⟨b, o, none⟩))) v l w' ∧ Keeps w.heap.size (fun k => k = b) w w' := by
  obtain ⟨j, hj, hjs⟩ := Option.map_eq_some_iff.1 bldInfo
  rcases h.addr with h0 | h0
  · have c0 : w.cell? ⟨b, o, none⟩ = some (.pointer none) := by rw [Lib.cell_of_heap h.heap]; exact h0
    have hfz : w.frozen? ⟨b, o, none⟩ = false := Lib.frozen_of_heap h.heap o
    have hsh : w.shape? b = some (T, cs.size) := by simp [World.shape?, h.heap]
    have hlt := hT.lt
    have hlies := Lib.hid hT.lies
    have H := Lib.hid h
    have HT := Lib.hid hT
    clear h hT h0 hjs
    go_enter Tryz.func142, Tryz.ntmps142
    go_wp2
    rw [Lib.run_to_unsafe w ⟨b, o, none⟩ Tryz.underlying191 Tryz.underlying232 hj (by obtain ⟨j', hj', hjs'⟩ := Option.map_eq_some_iff.1 bldInfo; rw [hj] at hj'; cases hj'; omega) hsh (by simp; omega)]
    simp only [Result.andThen]
    rw [Oper.upon_value]
    go_wp2
    rw [run_callFunc_extern Tryz.func156 (by kernel_rfl) (by kernel_rfl) (by kernel_rfl) (e := Extern.AbiNoEscape.same) (by kernel_rfl)]
    rw [Lib.run_noEscape]
    simp only [Result.andThen]
    rw [Oper.upon_value]
    go_wp2
    rw [Lib.run_from_unsafe w ⟨b, o, none⟩ Tryz.underlying232 Tryz.underlying191 hj hsh hlies.out]
    simp only [Result.andThen]
    rw [Oper.upon_value]
    go_wp2
    go_end0
    refine ⟨rfl, ⟨heap_set H.out.heap o _, .inr ?_, ?_, ?_⟩, (Keeps.refl _ (fun k => k = b) _).setCell (p := ⟨b, o, none⟩) (.inr rfl) _⟩
    · rw [Array.getElem?_setIfInBounds_self_of_lt (by omega)]
    · rw [Array.getElem?_setIfInBounds_ne (by omega)]; exact H.out.buf
    · refine ownsRowF_heap H.out.own (fun k hk => Below.heap_setCell _ _ _ _ ?_)
      intro e
      exact H.out.apart HT.out.ne (by rw [hk, e])
  · have c0 : w.cell? ⟨b, o, none⟩ = some (.pointer (some ⟨b, o, none⟩)) := by rw [Lib.cell_of_heap h.heap]; exact h0
    have hlt := hT.lt
    have H := Lib.hid h
    clear h hT hjs
    have hcs : cs.setIfInBounds o (.pointer (some ⟨b, o, none⟩)) = cs := by
      apply Array.ext'
      rw [Array.toList_setIfInBounds]
      apply List.ext_getElem?
      intro i
      rw [List.getElem?_set]
      split
      · subst i
        rw [Array.getElem?_toList, h0]
        simp; omega
      · rfl
    rw [hcs]
    clear hcs h0
    go_enter Tryz.func142, Tryz.ntmps142
    go_wp2
    rw [Lib.run_neq_ptr_same w _ Tryz.underlying191 hj]
    go_wp2
    go_end0
    exact ⟨rfl, H.out, Keeps.refl _ _ _⟩

set_option maxHeartbeats 1000000 in
set_option maxRecDepth 100000 in
theorem bldLen_any {T : TypeId} {b o : Nat} {cs : Array Value} {v : Value} {l : List UInt8} (w : World) (h : BHas T b o cs v l w) :
    Calls Tryz.prog 125 #[.pointer (some ⟨b, o, none⟩)] w fun e w' => e = .returned (.int .i64 l.length) ∧ w = w' := by
  obtain ⟨ao, cap, rfl⟩ : ∃ ao cap, v = .slice ao l.length cap := by
    rcases h.own.2 with ⟨hv, h0⟩ | ⟨g, cap, cur, fz, hv, _⟩
    · exact ⟨none, 0, by rw [hv, h0]⟩
    · exact ⟨_, _, hv⟩
  have c1 : w.cell? ⟨b, o + 1, none⟩ = some (.slice ao l.length cap) := by rw [Lib.cell_of_heap h.heap]; exact h.buf
  clear h
  go_enter Tryz.func125, Tryz.ntmps125
  go_wp2
  go_ret
  exact ⟨rfl, rfl⟩

theorem byteCells_app (l r : List UInt8) : Lib.byteCells (l ++ r) = Lib.byteCells l ++ Lib.byteCells r := Lib.byteCells_append l r

set_option maxHeartbeats 2000000 in
set_option maxRecDepth 100000 in
theorem writeString_any {T : TypeId} {b o : Nat} {cs : Array Value} {v : Value} {l : List UInt8} (w : World) (hT : BLies T cs.size o) (h : BHas T b o cs v l w) (s : ByteArray) (hlen : l.length + s.size ≤ 140737488355328) :
    Calls Tryz.prog 116 #[.pointer (some ⟨b, o, none⟩), .string s] w fun e w' => e = .returned (.tuple #[.int .i64 s.size, .nilIface]) ∧
      ∃ v', BHas T b o ((cs.setIfInBounds o (.pointer (some ⟨b, o, none⟩))).setIfInBounds (o + 1) v') v' (l ++ s.data.toList) w' ∧ RowFrom w.heap.size v v' ∧ Keeps w.heap.size (fun k => k = b ∨ v.ownBlock = some k) w w' := by
  obtain ⟨i0, hi, hz0, hz1, hz2⟩ := info_parts byteInfo
  have HC := Lib.hid (copyCheck_any w hT h)
  have Hap := Lib.hid (h.apart hT.ne)
  have hlt := hT.lt
  have HT := Lib.hid hT.ne
  have hblt := h.lt
  clear h hT
  go_enter Tryz.func116, Tryz.ntmps116
  go_wp2_with (go_at_call 142; refine HC.out.mono ?_)
  rintro e w1 ⟨rfl, h1, hk1⟩
  clear HC
  have H1 := Lib.hid h1
  have HK1 := Lib.hid hk1
  have hsz1 := hk1.size
  have c0 : w1.cell? ⟨b, o, none⟩ = some (.pointer (some ⟨b, o, none⟩)) := by
    rw [Lib.cell_of_heap h1.heap, Array.getElem?_setIfInBounds_self_of_lt (by omega)]
  have c1 : w1.cell? ⟨b, o + 1, none⟩ = some v := by rw [Lib.cell_of_heap h1.heap]; exact h1.buf
  clear h1 hk1
  go_wp2_with (at_builtin; refine wp_append_str_from _ rfl _ _ 76 9 rfl 5 i0 Tryz.underlying76 Tryz.underlying9 hi hz0 hz1 hz2 _ _ _ rfl H1.out.own s rfl ?c3 ?_)
  case c3 => omega
  intro v' w2 hown' hgrow hfrom
  have hb2 : w2.heap[b]? = some (.cells (cs.setIfInBounds o (.pointer (some ⟨b, o, none⟩))) T (0, 0)) := by
    rw [hgrow.block b (by omega) (fun e => Hap.out e.symm)]
    exact H1.out.heap
  have d0 : w2.cell? ⟨b, o, none⟩ = some (.pointer (some ⟨b, o, none⟩)) := by
    rw [Lib.cell_of_heap hb2, Array.getElem?_setIfInBounds_self_of_lt (by omega)]
  have d1 : w2.cell? ⟨b, o + 1, none⟩ = some v := by rw [Lib.cell_of_heap hb2]; exact H1.out.buf
  have f1 : w2.frozen? ⟨b, o + 1, none⟩ = false := Lib.frozen_of_heap hb2 (o + 1)
  obtain ⟨ao, n', cap, rfl⟩ : ∃ ao n' cap, v' = .slice ao n' cap := by
    rcases hown'.2 with ⟨hv, _⟩ | ⟨g, cap, cur, fz, hv, _⟩
    · exact ⟨_, _, _, hv⟩
    · exact ⟨_, _, _, hv⟩
  have HG := Lib.hid hgrow
  have HF := Lib.hid hfrom
  have HO := Lib.hid hown'
  have HB2 := Lib.hid hb2
  clear hgrow hfrom hown' hb2
  go_wp2
  go_ret2
  refine ⟨rfl, _, ⟨heap_set HB2.out (o + 1) _, .inr ?_, ?_, ?_⟩, HF.out.mono hsz1, ?_⟩
  · rw [Array.getElem?_setIfInBounds_ne (by omega), Array.getElem?_setIfInBounds_self_of_lt (by omega)]
  · rw [Array.getElem?_setIfInBounds_self_of_lt (by simp; omega)]
  · refine ownsRowF_heap (w := w2) ?_ (fun k hk => Below.heap_setCell _ _ _ _ ?_)
    · rw [byteCells_app, List.length_append, ← Lib.strCells_eq]
      have : s.data.toList.length = s.size := by simp
      rw [this]
      exact HO.out
    · intro e
      simp only at e
      subst e
      rcases HO.out.2 with ⟨hv, _⟩ | ⟨g, cap', cur, fz, hv, _, hg, _⟩
      · rw [hv] at hk; simp [Value.ownBlock] at hk
      · rw [hv] at hk
        simp [Value.ownBlock] at hk
        subst hk
        rw [HB2.out] at hg
        simp only [Option.some.injEq, Obj.cells.injEq] at hg
        exact HT.out hg.2.1
  · exact (((HK1.out.mono (M' := fun k => k = b ∨ v.ownBlock = some k) (Nat.le_refl _) (fun k _ h => .inl h)).grown HG.out hsz1 (fun k hk => .inr (.inr hk)))).setCell (p := ⟨b, o + 1, none⟩) (.inr (.inl rfl)) _

set_option maxHeartbeats 2000000 in
set_option maxRecDepth 100000 in
theorem writeByte_any {T : TypeId} {b o : Nat} {cs : Array Value} {v : Value} {l : List UInt8} (w : World) (hT : BLies T cs.size o) (h : BHas T b o cs v l w) (c : UInt8) (hlen : l.length + 1 ≤ 140737488355328) :
    Calls Tryz.prog 129 #[.pointer (some ⟨b, o, none⟩), .int .u8 (c.toNat : Int)] w fun e w' => e = .returned .nilIface ∧
      ∃ v', BHas T b o ((cs.setIfInBounds o (.pointer (some ⟨b, o, none⟩))).setIfInBounds (o + 1) v') v' (l ++ [c]) w' ∧ RowFrom w.heap.size v v' ∧ Keeps w.heap.size (fun k => k = b ∨ v.ownBlock = some k) w w' := by
  obtain ⟨i0, hi, hz0, hz1, hz2⟩ := info_parts byteInfo
  have HC := Lib.hid (copyCheck_any w hT h)
  have Hap := Lib.hid (h.apart hT.ne)
  have hlt := hT.lt
  have HT := Lib.hid hT.ne
  have hblt := h.lt
  clear h hT
  go_enter Tryz.func129, Tryz.ntmps129
  go_wp2_with (go_at_call 142; refine HC.out.mono ?_)
  rintro e w1 ⟨rfl, h1, hk1⟩
  clear HC
  have H1 := Lib.hid h1
  have HK1 := Lib.hid hk1
  have hsz1 := hk1.size
  have c0 : w1.cell? ⟨b, o, none⟩ = some (.pointer (some ⟨b, o, none⟩)) := by
    rw [Lib.cell_of_heap h1.heap, Array.getElem?_setIfInBounds_self_of_lt (by omega)]
  have c1 : w1.cell? ⟨b, o + 1, none⟩ = some v := by rw [Lib.cell_of_heap h1.heap]; exact h1.buf
  clear h1 hk1
  go_wp2_with (at_builtin; refine wp_append_cells_from _ rfl _ _ 76 rfl 5 i0 (.int .u8 0) 1 1 Tryz.underlying76 hi hz0 hz1 hz2 rfl (by decide) _ _ _ rfl (H1.out.own.alloc _) ⟨w1.heap.size, 0, none⟩ 1 1 [.int .u8 (c.toNat : Int)] rfl rfl ?c1 ?c2 ?c3 ?c4 ?_)
  case c1 =>
    intro j u hj
    match j, hj with
    | 0, hj => simp at hj; subst hj; simp [Addr.add]
  case c2 => intro u hu; simp at hu; subst hu; rfl
  case c3 => unfold maxLen; omega
  case c4 => omega
  intro v' w2 hown' hgrow hfrom
  have hb2 : w2.heap[b]? = some (.cells (cs.setIfInBounds o (.pointer (some ⟨b, o, none⟩))) T (0, 0)) := by
    rw [hgrow.block b (by simp; omega) (fun e => Hap.out e.symm), Lib.alloc_old w1 _ b (by omega)]
    exact H1.out.heap
  have d0 : w2.cell? ⟨b, o, none⟩ = some (.pointer (some ⟨b, o, none⟩)) := by
    rw [Lib.cell_of_heap hb2, Array.getElem?_setIfInBounds_self_of_lt (by omega)]
  have d1 : w2.cell? ⟨b, o + 1, none⟩ = some v := by rw [Lib.cell_of_heap hb2]; exact H1.out.buf
  have f1 : w2.frozen? ⟨b, o + 1, none⟩ = false := Lib.frozen_of_heap hb2 (o + 1)
  obtain ⟨ao, n', cap, rfl⟩ : ∃ ao n' cap, v' = .slice ao n' cap := by
    rcases hown'.2 with ⟨hv, _⟩ | ⟨g, cap, cur, fz, hv, _⟩
    · exact ⟨_, _, _, hv⟩
    · exact ⟨_, _, _, hv⟩
  have HG := Lib.hid hgrow
  have HF := Lib.hid hfrom
  have HO := Lib.hid hown'
  have HB2 := Lib.hid hb2
  clear hgrow hfrom hown' hb2
  go_wp2
  go_ret
  refine ⟨rfl, _, ⟨heap_set HB2.out (o + 1) _, .inr ?_, ?_, ?_⟩, HF.out.mono (Nat.le_trans hsz1 (by simp)), ?_⟩
  · rw [Array.getElem?_setIfInBounds_ne (by omega), Array.getElem?_setIfInBounds_self_of_lt (by omega)]
  · rw [Array.getElem?_setIfInBounds_self_of_lt (by simp; omega)]
  · refine ownsRowF_heap (w := w2) ?_ (fun k hk => Below.heap_setCell _ _ _ _ ?_)
    · rw [byteCells_app, List.length_append]
      exact HO.out
    · intro e
      simp only at e
      subst e
      rcases HO.out.2 with ⟨hv, _⟩ | ⟨g, cap', cur, fz, hv, _, hg, _⟩
      · rw [hv] at hk; simp [Value.ownBlock] at hk
      · rw [hv] at hk
        simp [Value.ownBlock] at hk
        subst hk
        rw [HB2.out] at hg
        simp only [Option.some.injEq, Obj.cells.injEq] at hg
        exact HT.out hg.2.1
  · exact ((((HK1.out.mono (M' := fun k => k = b ∨ v.ownBlock = some k) (Nat.le_refl _) (fun k _ h => .inl h)).alloc hsz1 _).grown HG.out (by simp; omega) (fun k hk => .inr (.inr hk)))).setCell (p := ⟨b, o + 1, none⟩) (.inr (.inl rfl)) _

theorem BHas.froze {T : TypeId} {b o g cap : Nat} {cs : Array Value} {l : List UInt8} {w : World} (h : BHas T b o cs (.slice (some ⟨g, 0, none⟩) l.length cap) l w) (hT : T ≠ 5) :
    BHas T b o cs (.slice (some ⟨g, 0, none⟩) l.length cap) l (w.freeze ⟨g, 0, none⟩ l.length) := by
  have hne := h.apart hT
  have hgb : g ≠ b := fun e => hne (by simp [Value.ownBlock, e])
  obtain ⟨hh, ha, hb, ho⟩ := h
  unfold World.freeze
  split
  · exact ⟨hh, ha, hb, ho⟩
  · refine ⟨?_, ha, hb, ho.1, ?_⟩
    · simp only [Array.getElem?_modify]
      rw [if_neg hgb]
      exact hh
    · rcases ho.2 with ⟨hv, _⟩ | ⟨g', cap', cur, fz, hv, hbg, hg, hfz, rest⟩
      · cases hv
      · injection hv with hx _ hcap
        injection hx with hx
        injection hx with hgg _ _
        subst hgg
        subst hcap
        obtain ⟨x, y⟩ := fz
        refine .inr ⟨g, _, cur, (if x == y then (0, 0 + l.length) else (min x 0, max y (0 + l.length))), rfl, hbg, ?_, ?_, rest⟩
        · simp [Array.getElem?_modify, hg]
        · simp only at hfz
          split <;> simp <;> omega
set_option maxHeartbeats 1000000 in
set_option maxRecDepth 100000 in
theorem bldString_any {T : TypeId} {b o : Nat} {cs : Array Value} {v : Value} {l : List UInt8} (w : World) (hT : T ≠ 5) (h : BHas T b o cs v l w) :
    Calls Tryz.prog 117 #[.pointer (some ⟨b, o, none⟩)] w fun e w' => e = .returned (.string ⟨l.toArray⟩) ∧ BHas T b o cs v l w' ∧ Keeps w.heap.size (fun k => v.ownBlock = some k) w w' := by
  have hS0 : ∀ (W : World) (q : Option Addr), (Builtin.unsafeString_ #[220, 3] 9 #[.pointer q, .int .i64 0]).run Tryz.prog W = .ok (.string .empty) W := fun W q => Lib.run_unsafeString_none W _ _ _ q
  rcases h.own.2 with ⟨rfl, h0⟩ | ⟨g, cap, cur, fz, rfl, hbg, hg, hfz, hnc, hcm, hcs, htake⟩
  · have hl : l = [] := List.eq_nil_of_length_eq_zero h0
    subst hl
    have c1 : w.cell? ⟨b, o + 1, none⟩ = some (.slice none 0 0) := by rw [Lib.cell_of_heap h.heap]; exact h.buf
    have H := Lib.hid h
    clear h
    have hSD : ∀ W, (Builtin.unsafeSliceData_ #[76] 220 #[.slice none 0 0]).run Tryz.prog W = .ok (.pointer none) W := fun _ => rfl
    go_enter Tryz.func117, Tryz.ntmps117
    go_wp2
    go_region
    all_goals (go_wp2; go_ret; exact ⟨rfl, H.out.keep (fun _ _ => rfl), (Keeps.refl _ _ _).drew⟩)
  · by_cases h0 : l.length = 0
    · have hl : l = [] := List.eq_nil_of_length_eq_zero h0
      subst hl
      have c1 : w.cell? ⟨b, o + 1, none⟩ = some (.slice (some ⟨g, 0, none⟩) 0 cap) := by rw [Lib.cell_of_heap h.heap]; exact h.buf
      have H := Lib.hid h
      by_cases hc0 : cap = 0
      · subst hc0
        have hblt := h.lt
        have hglt : g < w.heap.size := (Array.getElem?_eq_some_iff.1 hg).1
        have hSD : ∀ W : World, W.heap[g]? = w.heap[g]? → (Builtin.unsafeSliceData_ #[76] 220 #[.slice (some ⟨g, 0, none⟩) 0 0]).run Tryz.prog W = .ok (.pointer (some ⟨W.heap.size, 0, none⟩)) (W.alloc (.view ⟨g, 0, none⟩ 5)) := fun W hW =>
          Lib.run_unsafeSliceData_zero W _ _ 5 Tryz.underlying220 ⟨g, 0, none⟩ 0 (5, cur.size) (by simp [World.shape?, hW, hg])
        have hSD1 := hSD w.drew rfl
        have hSD2 := hSD w rfl
        have c2 : (w.drew.alloc (.view ⟨g, 0, none⟩ 5)).cell? ⟨b, o + 1, none⟩ = some (.slice (some ⟨g, 0, none⟩) 0 0) := by
          rw [World.cell?_of_block (w := w) (Lib.alloc_old w.drew _ b hblt)]; exact c1
        have c3 : (w.alloc (.view ⟨g, 0, none⟩ 5)).drew.cell? ⟨b, o + 1, none⟩ = some (.slice (some ⟨g, 0, none⟩) 0 0) := c2
        clear h hg hfz hSD hcs htake
        go_enter Tryz.func117, Tryz.ntmps117
        go_wp2
        go_region
        all_goals (
          go_wp2
          go_ret
          refine ⟨rfl, H.out.keep (fun k hk => ?_), ((Keeps.refl _ _ _).drew).alloc (Nat.le_refl _) _⟩
          have hk2 : k < w.heap.size := by
            rcases hk with rfl | hk
            · exact hblt
            · simp [Value.ownBlock] at hk; subst hk; exact hglt
          exact Lib.alloc_old w _ k hk2)
      · have hSD : ∀ W : World, (Builtin.unsafeSliceData_ #[76] 220 #[.slice (some ⟨g, 0, none⟩) 0 cap]).run Tryz.prog W = .ok (.pointer (some ⟨g, 0, none⟩)) W := fun _ =>
          Lib.run_unsafeSliceData_row _ _ _ _ _ _ hc0
        clear h hc0 hg hfz hcs htake hnc hcm
        go_enter Tryz.func117, Tryz.ntmps117
        go_wp2
        go_region
        all_goals (go_wp2; go_ret; exact ⟨rfl, H.out.keep (fun _ _ => rfl), (Keeps.refl _ _ _).drew⟩)
    · have hl : l ≠ [] := fun e => h0 (by rw [e]; rfl)
      have c1 : w.cell? ⟨b, o + 1, none⟩ = some (.slice (some ⟨g, 0, none⟩) l.length cap) := by rw [Lib.cell_of_heap h.heap]; exact h.buf
      have hown := h.own
      have H := Lib.hid (h.froze hT)
      have HB := Lib.hid h.lt
      have hSD : ∀ W : World, (Builtin.unsafeSliceData_ #[76] 220 #[.slice (some ⟨g, 0, none⟩) l.length cap]).run Tryz.prog W = .ok (.pointer (some ⟨g, 0, none⟩)) W := fun W =>
        Lib.run_unsafeSliceData_row _ _ _ _ _ _ (by omega)
      have hUS : ∀ W : World, W.heap[g]? = w.heap[g]? → (Builtin.unsafeString_ #[220, 3] 9 #[.pointer (some ⟨g, 0, none⟩), .int .i64 l.length]).run Tryz.prog W = .ok (.string ⟨l.toArray⟩) (W.freeze ⟨g, 0, none⟩ l.length) := fun W hW => by
        refine Lib.run_unsafeString_row W 220 3 9 5 Tryz.underlying220 (by kernel_rfl) g cur.size (by simp [World.shape?, hW, hg]) l hl (by omega) (by unfold maxLen at hcm; omega) ?_
        intro j x hx
        have := hown.cells (g := g) rfl j (.int .u8 x.toNat) (by simp [Lib.byteCells, hx])
        rw [World.cell?_of_block (w := w) (by unfold Addr.add; split <;> exact hW)]
        exact this
      have hUS1 := hUS w.drew rfl
      have hUS2 := hUS w rfl
      clear h hg hfz hcs htake hUS hown
      go_enter Tryz.func117, Tryz.ntmps117
      go_wp2
      go_region
      all_goals (go_wp2; go_ret; exact ⟨rfl, H.out.keep (fun _ _ => by first | rfl | (unfold World.freeze; split <;> rfl)), ((Keeps.refl w.heap.size (fun k => (Value.slice (some ⟨g, 0, none⟩) l.length cap).ownBlock = some k) w).drew).freeze (p := ⟨g, 0, none⟩) (.inr rfl) _⟩)
end Go.Proofs.YtpjmccajkcmmaaaGreatDoor

namespace Go.Proofs.YtpjmccajkcmmaaaGreatDoor
open Go.RowKit

/-- a builder of the caller's own: from B on -/
def BLoc (B b : Nat) (l : List UInt8) (w : World) : Prop := ∃ cs v, B ≤ b ∧ cs.size = 2 ∧ BHas 193 b 0 cs v l w ∧ ∀ k, v.ownBlock = some k → B ≤ k

theorem BLoc.fresh {B : Nat} {w : World} (hB : B ≤ w.heap.size) : BLoc B w.heap.size [] (w.alloc (.cells #[.pointer none, .slice none 0 0] 193)) :=
  ⟨_, .slice none 0 0, hB, rfl, ⟨heap_alloc_new w _, .inl rfl, rfl, World.ownsRowF_nil _ _ _ _⟩, fun k h => by simp [Value.ownBlock] at h⟩
theorem BLoc.keep {B b : Nat} {l : List UInt8} {w w' : World} (h : BLoc B b l w) (hk : ∀ k, B ≤ k → k < w.heap.size → w'.heap[k]? = w.heap[k]?) : BLoc B b l w' := by
  obtain ⟨cs, v, hB, hs, hb, hv⟩ := h
  refine ⟨cs, v, hB, hs, hb.keep (fun k hkk => hk k ?_ ?_), hv⟩
  · rcases hkk with rfl | h
    · exact hB
    · exact hv k h
  · rcases hkk with rfl | h
    · exact hb.lt
    · exact (hb.own.lt k h).2
theorem BLoc.drew {B b : Nat} {l : List UInt8} {w : World} (h : BLoc B b l w) : BLoc B b l w.drew := h.keep (fun _ _ _ => rfl)
theorem BLoc.below {B b : Nat} {l : List UInt8} {w w' : World} (h : BLoc B b l w) (hk : Below w.heap.size w w') : BLoc B b l w' := h.keep (fun k _ h => hk.block k h)
theorem BLoc.mono {B B' b : Nat} {l : List UInt8} {w : World} (h : BLoc B b l w) (hB : B' ≤ B) : BLoc B' b l w := by
  obtain ⟨cs, v, h1, hs, hb, hv⟩ := h
  exact ⟨cs, v, by omega, hs, hb, fun k hk => Nat.le_trans hB (hv k hk)⟩

theorem bldLen_own {B b : Nat} {l : List UInt8} (w : World) (h : BLoc B b l w) : Calls Tryz.prog 125 #[.pointer (some ⟨b, 0, none⟩)] w fun e w' => e = .returned (.int .i64 l.length) ∧ w = w' := by
  obtain ⟨cs, v, h1, hs, hb, hv⟩ := h
  exact bldLen_any w hb
theorem writeString_own {B b : Nat} {l : List UInt8} (w : World) (h : BLoc B b l w) (hB : B ≤ w.heap.size) (s : ByteArray) (hlen : l.length + s.size ≤ 140737488355328) :
    Calls Tryz.prog 116 #[.pointer (some ⟨b, 0, none⟩), .string s] w fun e w' => e = .returned (.tuple #[.int .i64 s.size, .nilIface]) ∧ BLoc B b (l ++ s.data.toList) w' ∧ Below B w w' := by
  obtain ⟨cs, v, h1, hs, hb, hv⟩ := h
  refine (writeString_any w (by rw [hs]; exact BLies.own) hb s hlen).mono ?_
  rintro e w' ⟨rfl, v', hb', hf, hk⟩
  refine ⟨rfl, ⟨_, v', h1, by simpa using hs, hb', fun k hk => ?_⟩, (hk.mono hB (M' := fun _ => False) ?_).below (fun _ _ h => h)⟩
  · rcases hf k hk with h | h
    · exact hv k h
    · omega
  · rintro k hk (rfl | h)
    · omega
    · have := hv k h; omega
theorem writeByte_own {B b : Nat} {l : List UInt8} (w : World) (h : BLoc B b l w) (hB : B ≤ w.heap.size) (c : UInt8) (hlen : l.length + 1 ≤ 140737488355328) :
    Calls Tryz.prog 129 #[.pointer (some ⟨b, 0, none⟩), .int .u8 (c.toNat : Int)] w fun e w' => e = .returned .nilIface ∧ BLoc B b (l ++ [c]) w' ∧ Below B w w' := by
  obtain ⟨cs, v, h1, hs, hb, hv⟩ := h
  refine (writeByte_any w (by rw [hs]; exact BLies.own) hb c hlen).mono ?_
  rintro e w' ⟨rfl, v', hb', hf, hk⟩
  refine ⟨rfl, ⟨_, v', h1, by simpa using hs, hb', fun k hk => ?_⟩, (hk.mono hB (M' := fun _ => False) ?_).below (fun _ _ h => h)⟩
  · rcases hf k hk with h | h
    · exact hv k h
    · omega
  · rintro k hk (rfl | h)
    · omega
    · have := hv k h; omega
theorem bldString_own {B b : Nat} {l : List UInt8} (w : World) (h : BLoc B b l w) (hB : B ≤ w.heap.size) :
    Calls Tryz.prog 117 #[.pointer (some ⟨b, 0, none⟩)] w fun e w' => e = .returned (.string ⟨l.toArray⟩) ∧ BLoc B b l w' ∧ Below B w w' := by
  obtain ⟨cs, v, h1, hs, hb, hv⟩ := h
  refine (bldString_any w (by decide) hb).mono ?_
  rintro e w' ⟨rfl, hb', hk⟩
  refine ⟨rfl, ⟨cs, v, h1, hs, hb', hv⟩, (hk.mono hB (M' := fun _ => False) ?_).below (fun _ _ h => h)⟩
  intro k hk h
  have := hv k h; omega
end Go.Proofs.YtpjmccajkcmmaaaGreatDoor
