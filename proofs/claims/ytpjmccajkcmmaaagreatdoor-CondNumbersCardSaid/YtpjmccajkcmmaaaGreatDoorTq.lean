/- expand.text: the builder beside the state; the plain law of a piece. expand.text. Printed by wip/genexpf.py. -/
import Derived.Test.YtpjmccajkcmmaaaGreatDoorTp
import Derived.Test.YtpjmccajkcmmaaaGreatDoorTa
namespace Go.Proofs.YtpjmccajkcmmaaaGreatDoor
open Go.RowKit

theorem heap_ne {w : World} {i j : Nat} {o p : Obj} (hi : w.heap[i]? = some o) (hj : w.heap[j]? = some p) (hne : o ≠ p) : i ≠ j := by
  rintro rfl
  rw [hi] at hj
  exact hne (Option.some.inj hj)
theorem BHas.row {b o : Nat} {cs : Array Value} {v : Value} {l : List UInt8} {w : World} (h : BHas 193 b o cs v l w) (k : Nat) (hk : v.ownBlock = some k) : ∃ cur fz, w.heap[k]? = some (.cells cur 5 fz) := by
  rcases h.own.2 with ⟨rfl, _⟩ | ⟨g, cap, cur, fz, rfl, _, hg, _⟩
  · simp [Value.ownBlock] at hk
  · simp [Value.ownBlock] at hk
    subst hk
    exact ⟨cur, fz, hg⟩
theorem IsEx.rowAt {B xb vb : Nat} {mb : Nat → Nat} {vs : Nat → TMap} {sl : Value} {inn : List (List UInt8)} {f : Int} {w : World} (h : IsEx B xb vb mb vs sl inn f w) (k : Nat) (hk : sl.ownBlock = some k) : ∃ cur fz, w.heap[k]? = some (.cells cur 9 fz) := by
  rcases h.row.2 with ⟨rfl, _⟩ | ⟨g, cap, cur, rfl, _, hg, _⟩
  · simp [Value.ownBlock] at hk
  · simp [Value.ownBlock] at hk
    subst hk
    exact ⟨cur, _, hg⟩
/-- the state stands where a builder is written -/
theorem IsEx.bld {B xb vb b : Nat} {mb : Nat → Nat} {vs : Nat → TMap} {sl : Value} {inn : List (List UInt8)} {f : Int} {w w' : World} {cs : Array Value} {v : Value} {l : List UInt8} (h : IsEx B xb vb mb vs sl inn f w) (hb : BHas 193 b 0 cs v l w) (hk : Keeps w.heap.size (fun k => k = b ∨ v.ownBlock = some k) w w') : IsEx B xb vb mb vs sl inn f w' := by
  have hkeep : ∀ (k : Nat) (o : Obj), w.heap[k]? = some o → (∀ c fz, o ≠ .cells c 193 fz) → (∀ c fz, o ≠ .cells c 5 fz) → w'.heap[k]? = w.heap[k]? := fun k o ho h1 h2 => by
    refine hk.block k (Array.getElem?_eq_some_iff.1 ho).1 ?_
    rintro (e | e)
    · exact heap_ne ho hb.heap (h1 _ _) e
    · obtain ⟨cur, fz, hc⟩ := hb.row k e
      exact heap_ne ho hc (h2 _ _) rfl
  refine ⟨(hkeep xb _ h.cells (fun c fz => by simp) (fun c fz => by simp)).trans h.cells, ownsRow_heap h.row (fun k hk => ?_), h.deep, h.fuel0, h.fuelMax, h.lo, h.vars.keep (hkeep vb _ h.vars.cells (fun c fz => by simp) (fun c fz => by simp)) (fun i hi => ?_), h.vlt, h.mlt⟩
  · obtain ⟨cur, fz, hc⟩ := h.rowAt k hk
    exact hkeep k _ hc (fun c fz => by simp) (fun c fz => by simp)
  · obtain ⟨es, mc, hm, _⟩ := h.vars.maps i hi
    exact hkeep (mb i) _ hm (fun c fz => by simp) (fun c fz => by simp)
/-- a builder stands where the state turns -/
theorem BHas.ex {B xb vb b : Nat} {mb : Nat → Nat} {vs : Nat → TMap} {sl : Value} {inn : List (List UInt8)} {f : Int} {w w' : World} {cs : Array Value} {v : Value} {l : List UInt8} (hb : BHas 193 b 0 cs v l w) (h : IsEx B xb vb mb vs sl inn f w) (hk : ExK xb sl w w') : BHas 193 b 0 cs v l w' := by
  refine hb.keep (fun k e => ?_)
  rcases e with rfl | e
  · refine hk.block k hb.lt ?_
    rintro (e | e)
    · exact heap_ne hb.heap h.cells (by simp) e
    · obtain ⟨cur, fz, hc⟩ := h.rowAt k e
      exact heap_ne hb.heap hc (by simp) rfl
  · obtain ⟨cur, fz, hc⟩ := hb.row k e
    refine hk.block k (Array.getElem?_eq_some_iff.1 hc).1 ?_
    rintro (e2 | e2)
    · exact heap_ne hc h.cells (by simp) e2
    · obtain ⟨cur2, fz2, hc2⟩ := h.rowAt k e2
      exact heap_ne hc hc2 (by simp) rfl

structure TxJ (B xb vb : Nat) (mb : Nat → Nat) (vs : Nat → TMap) (inn : List (List UInt8)) (sl0 : Value) (w0 : World) (b : Nat) (sl : Value) (f : Int) (acc : List UInt8) (W : World) : Prop where
  j : ExJ B xb vb mb vs inn sl0 w0 sl f W
  bld : ∃ cs v, cs.size = 2 ∧ BHas 193 b 0 cs v acc W ∧ ∀ k, v.ownBlock = some k → w0.heap.size ≤ k
  lo : w0.heap.size ≤ b
section
variable {B xb vb b : Nat} {mb : Nat → Nat} {vs : Nat → TMap} {inn : List (List UInt8)} {sl0 sl : Value} {w0 W : World} {f : Int} {acc : List UInt8}
theorem TxJ.below (h : TxJ B xb vb mb vs inn sl0 w0 b sl f acc W) {W' : World} (hb : Below W.heap.size W W') : TxJ B xb vb mb vs inn sl0 w0 b sl f acc W' := by
  obtain ⟨cs, v, h1, h2, h3⟩ := h.bld
  refine ⟨h.j.below hb, ⟨cs, v, h1, h2.keep (fun k e => hb.block k ?_), h3⟩, h.lo⟩
  rcases e with rfl | e
  · exact h2.lt
  · obtain ⟨cur, fz, hc⟩ := h2.row k e
    exact (Array.getElem?_eq_some_iff.1 hc).1
theorem TxJ.ex (h : TxJ B xb vb mb vs inn sl0 w0 b sl f acc W) {W' : World} {sl' : Value} {f' : Int} (hx : IsEx B xb vb mb vs sl' inn f' W') (hr : RowFrom W.heap.size sl sl') (hk : ExK xb sl W W') : TxJ B xb vb mb vs inn sl0 w0 b sl' f' acc W' := by
  obtain ⟨cs, v, h1, h2, h3⟩ := h.bld
  exact ⟨h.j.step hx hr hk, ⟨cs, v, h1, h2.ex h.j.ex hk, h3⟩, h.lo⟩
theorem TxJ.written (h : TxJ B xb vb mb vs inn sl0 w0 b sl f acc W) {W' : World} {cs v cs' v' : _} {acc' : List UInt8} (h2 : BHas 193 b 0 cs v acc W) (h3 : ∀ k, v.ownBlock = some k → w0.heap.size ≤ k) (h1' : cs'.size = 2) (hb : BHas 193 b 0 cs' v' acc' W') (hf : RowFrom W.heap.size v v') (hk : Keeps W.heap.size (fun k => k = b ∨ v.ownBlock = some k) W W') : TxJ B xb vb mb vs inn sl0 w0 b sl f acc' W' := by
  have hs := h.j.keeps.size
  refine ⟨⟨h.j.ex.bld h2 hk, h.j.row, Keeps.trans h.j.keeps (hk.mono hs (fun k hlt e => ?_))⟩, ⟨cs', v', h1', hb, fun k e => ?_⟩, h.lo⟩
  · rcases e with e | e
    · have := h.lo; omega
    · have := h3 k e; omega
  · rcases hf k e with e | e
    · exact h3 k e
    · omega
theorem TxJ.ws (h : TxJ B xb vb mb vs inn sl0 w0 b sl f acc W) (t : List UInt8) (hl : acc.length + t.length ≤ 140737488355328) :
    Calls Tryz.prog 116 #[.pointer (some ⟨b, 0, none⟩), .string ⟨t.toArray⟩] W fun e w' => e = .returned (.tuple #[.int .i64 t.length, .nilIface]) ∧ TxJ B xb vb mb vs inn sl0 w0 b sl f (acc ++ t) w' := by
  obtain ⟨cs, v, h1, h2, h3⟩ := h.bld
  have hsz : (⟨t.toArray⟩ : ByteArray).size = t.length := by show t.toArray.size = _; simp
  refine (writeString_any W (by rw [h1]; exact BLies.own) h2 ⟨t.toArray⟩ (by rw [hsz]; exact hl)).mono ?_
  rintro e w' ⟨rfl, v', hb', hf, hk⟩
  rw [hsz]
  rw [show (⟨t.toArray⟩ : ByteArray).data.toList = t by simp] at hb'
  exact ⟨rfl, h.written h2 h3 (by simpa using h1) hb' hf hk⟩
theorem TxJ.wb (h : TxJ B xb vb mb vs inn sl0 w0 b sl f acc W) (hl : acc.length + 1 ≤ 140737488355328) :
    Calls Tryz.prog 129 #[.pointer (some ⟨b, 0, none⟩), .int .u8 36] W fun e w' => e = .returned .nilIface ∧ TxJ B xb vb mb vs inn sl0 w0 b sl f (acc ++ [36]) w' := by
  obtain ⟨cs, v, h1, h2, h3⟩ := h.bld
  refine (writeByte_any W (by rw [h1]; exact BLies.own) h2 36 hl).mono ?_
  rintro e w' ⟨rfl, v', hb', hf, hk⟩
  exact ⟨rfl, h.written h2 h3 (by simpa using h1) hb' hf hk⟩
theorem TxJ.len (h : TxJ B xb vb mb vs inn sl0 w0 b sl f acc W) :
    Calls Tryz.prog 125 #[.pointer (some ⟨b, 0, none⟩)] W fun e w' => e = .returned (.int .i64 acc.length) ∧ W = w' := by
  obtain ⟨cs, v, h1, h2, h3⟩ := h.bld
  exact bldLen_any W h2
theorem TxJ.str (h : TxJ B xb vb mb vs inn sl0 w0 b sl f acc W) :
    Calls Tryz.prog 117 #[.pointer (some ⟨b, 0, none⟩)] W fun e w' => e = .returned (.string ⟨acc.toArray⟩) ∧ TxJ B xb vb mb vs inn sl0 w0 b sl f acc w' := by
  obtain ⟨cs, v, h1, h2, h3⟩ := h.bld
  refine (bldString_any W (by decide) h2).mono ?_
  rintro e w' ⟨rfl, hb', hk⟩
  exact ⟨rfl, h.written h2 h3 h1 hb' (RowFrom.refl _ _) (hk.mono (Nat.le_refl _) (fun k _ e => .inr e))⟩
end

/-- the start: the builder is made -/
theorem TxJ.start {B xb vb : Nat} {mb : Nat → Nat} {vs : Nat → TMap} {inn : List (List UInt8)} {sl : Value} {f : Int} {w : World} (h : IsEx B xb vb mb vs sl inn f w) :
    TxJ B xb vb mb vs inn sl w w.heap.size sl f [] (w.alloc (.cells #[.pointer none, .slice none 0 0] 193)) :=
  ⟨(ExJ.start h).below ((Below.refl _ _).alloc (Nat.le_refl _) _), ⟨_, .slice none 0 0, rfl, ⟨heap_alloc_new w _, .inl rfl, rfl, World.ownsRowF_nil _ _ _ _⟩, fun k h => by simp [Value.ownBlock] at h⟩, Nat.le_refl _⟩

/-- what a piece is -/
theorem piece_cases {E : XEnv} {n : Nat} {inn : List (List UInt8)} {fuel : Int} {r : List UInt8} {pr : Except Int (List UInt8 × Int)} (h : pieceE E (n + 1) inn fuel (36 :: r) = some pr) :
    (wholeS (36 :: r) = 0 ∧ pr = .error 4) ∨
    (wholeS (36 :: r) ≠ 0 ∧ innerS ((36 :: r).take (wholeS (36 :: r))) = none ∧ ((36 :: r).take (wholeS (36 :: r)) = [36] ∨ (36 :: r).take (wholeS (36 :: r)) = [36, 36]) ∧ pr = .ok ([36], fuel)) ∨
    (wholeS (36 :: r) ≠ 0 ∧ ∃ x, innerS ((36 :: r).take (wholeS (36 :: r))) = some x ∧ 3 ≤ ((36 :: r).take (wholeS (36 :: r))).length ∧ ((fuel < 1 ∧ pr = .error 10) ∨ (¬ fuel < 1 ∧ useE E n inn (fuel - 1) x = some pr))) ∨
    (wholeS (36 :: r) ≠ 0 ∧ innerS ((36 :: r).take (wholeS (36 :: r))) = none ∧ (36 :: r).take (wholeS (36 :: r)) ≠ [36] ∧ (36 :: r).take (wholeS (36 :: r)) ≠ [36, 36] ∧ ∃ t, (36 :: r).take (wholeS (36 :: r)) = 36 :: t ∧ ((fuel < 1 ∧ pr = .error 10) ∨ (¬ fuel < 1 ∧ meanE E n inn (fuel - 1) t = some pr))) := by
  unfold pieceE at h
  by_cases h0 : wholeS (36 :: r) = 0
  · rw [if_pos h0] at h
    left
    exact ⟨h0, (Option.some.inj h).symm⟩
  · rw [if_neg h0] at h
    right
    have hle := wholeS_le (36 :: r)
    match r, h, h0, hle with
    | [], h, h0, _ =>
      left
      have e : wholeS [36] = 1 := wholeS_one 36
      rw [e] at h ⊢
      refine ⟨by omega, rfl, .inl rfl, ?_⟩
      exact (Option.some.inj h).symm
    | d :: r, h, h0, hle =>
      by_cases h1 : d = 123
      · subst h1
        have e := wholeS_brace 36 r
        right; left
        refine ⟨h0, ?_⟩
        have hin : insideS 123 125 0 r ≠ 0 := fun e0 => h0 (by rw [e, e0]; rfl)
        have ew : wholeS (36 :: 123 :: r) = insideS 123 125 0 r + 2 := by rw [e]; unfold plusN; rw [if_neg hin]
        obtain ⟨m, hm⟩ : ∃ m, insideS 123 125 0 r = m + 1 := ⟨insideS 123 125 0 r - 1, by omega⟩
        rw [hm] at ew
        rw [ew] at h hle ⊢
        cases r with
        | nil => simp at hle
        | cons y r =>
          simp only [List.take_succ_cons] at h ⊢
          refine ⟨(y :: r.take m).dropLast, by simp [innerS], by first | (simp at hle ⊢; done) | (simp at hle ⊢; omega), ?_⟩
          by_cases hf : fuel < 1
          · rw [if_pos hf] at h
            exact .inl ⟨hf, (Option.some.inj h).symm⟩
          · rw [if_neg hf, if_pos (by simp)] at h
            exact .inr ⟨hf, h⟩
      · by_cases h2 : d = 40
        · subst h2
          have e := wholeS_paren 36 r
          right; left
          refine ⟨h0, ?_⟩
          have hin : insideS 40 41 0 r ≠ 0 := fun e0 => h0 (by rw [e, e0]; rfl)
          have ew : wholeS (36 :: 40 :: r) = insideS 40 41 0 r + 2 := by rw [e]; unfold plusN; rw [if_neg hin]
          obtain ⟨m, hm⟩ : ∃ m, insideS 40 41 0 r = m + 1 := ⟨insideS 40 41 0 r - 1, by omega⟩
          rw [hm] at ew
          rw [ew] at h hle ⊢
          cases r with
          | nil => simp at hle
          | cons y r =>
            simp only [List.take_succ_cons] at h ⊢
            refine ⟨(y :: r.take m).dropLast, by simp [innerS], by first | (simp at hle ⊢; done) | (simp at hle ⊢; omega), ?_⟩
            by_cases hf : fuel < 1
            · rw [if_pos hf] at h
              exact .inl ⟨hf, (Option.some.inj h).symm⟩
            · rw [if_neg hf, if_pos (by simp)] at h
              exact .inr ⟨hf, h⟩
        · have e := wholeS_plain 36 d r h1 h2
          rw [e] at h ⊢
          simp only [List.take_succ_cons, List.take_zero] at h ⊢
          by_cases h3 : d = 36
          · subst h3
            left
            rw [if_pos rfl] at h
            exact ⟨by omega, by simp [innerS], .inr rfl, (Option.some.inj h).symm⟩
          · rw [if_neg h3] at h
            right; right
            refine ⟨by omega, by simp [innerS, h1, h2], by simp, by simpa using h3, [d], rfl, ?_⟩
            by_cases hf : fuel < 1
            · rw [if_pos hf] at h
              exact .inl ⟨hf, (Option.some.inj h).symm⟩
            · rw [if_neg hf] at h
              exact .inr ⟨hf, h⟩
def strSize (v : Value) : Nat := match v with | .string s => s.size | _ => 0
theorem drop_dollar (s : List UInt8) (h : s.dropWhile notDollar ≠ []) : ∃ r, s.dropWhile notDollar = 36 :: r := by
  cases hd : s.dropWhile notDollar with
  | nil => exact absurd hd h
  | cons c r =>
    have : notDollar c = false := by
      have := List.head?_dropWhile_not notDollar s
      rw [hd] at this
      simpa using this
    refine ⟨r, ?_⟩
    have hc : c = 36 := by simpa [notDollar] using this
    rw [hc]
end Go.Proofs.YtpjmccajkcmmaaaGreatDoor

namespace Go.Proofs.YtpjmccajkcmmaaaGreatDoor
open Go.RowKit

theorem inner_len {u x : List UInt8} (h : innerS u = some x) : x.length ≤ u.length := by
  match u, h with
  | [], h => simp [innerS] at h
  | [_], h => simp [innerS] at h
  | a :: d :: r, h =>
    simp only [innerS] at h
    split at h
    · cases h
      simp
      omega
    · cases h

set_option maxHeartbeats 16000000 in
set_option maxRecDepth 100000 in
theorem text_of (E : XEnv) (N : Nat) (HM : ∀ k, k < N → MeanOK E k) (HU : ∀ k, k < N → UseOK E k) : TextOK E N := by
  intro B xb vb mb vs sl0 inn fuel w s r h hE hsl hr
  have HJ0 := Lib.hid (TxJ.start h)
  obtain ⟨post, hpost⟩ : ∃ post, post = ExQ B xb vb mb vs inn sl0 w r := ⟨_, rfl⟩
  rw [← hpost]
  have HPost := Lib.hid hpost
  have HR := Lib.hid hr
  have HL := Lib.hid hsl
  clear h hsl hr hpost
  go_enter Tryz.func103, Tryz.ntmps103
  go_wp2
  go_loopw [1] (fun v1 wr => ∃ (n : Nat) (s : List UInt8) (acc : List UInt8) (f : Int) (sl' : Value), v1 = .string ⟨s.toArray⟩ ∧ n ≤ N ∧ s.length ≤ 70368744177664 ∧ acc.length ≤ 65536 ∧ Hid (textE E n inn acc f s = some r) ∧ Hid (TxJ B xb vb mb vs inn sl0 w w.heap.size sl' f acc wr)) (fun v1 _ => strSize v1)
  case atStart => exact ⟨N, s, [], fuel, sl0, rfl, Nat.le_refl _, HL.out, Nat.zero_le _, HR, HJ0⟩
  case round =>
    clear HR HJ0 HL s fuel
    obtain ⟨n, s, acc, f, sl, rfl, hnN, hsl, hacc, HR, HJ⟩ := hrel
    obtain ⟨n, rfl⟩ : ∃ k, n = k + 1 := by
      cases n with
      | zero => have := HR.out; simp [textE] at this
      | succ k => exact ⟨k, rfl⟩
    have hr := HR.out
    unfold textE at hr
    have hssz : (⟨s.toArray⟩ : ByteArray).size = s.length := by show s.toArray.size = _; simp
    by_cases hs0 : s = []
    · rw [if_pos hs0] at hr
      cases hr
      have hse : s.isEmpty = true := by rw [hs0]; rfl
      have HS := Lib.hid HJ.out.str
      clear hs0
      go_wp2_with fail
      go_at_call 117
      refine HS.out.mono ?_
      rintro e w2 ⟨rfl, hj2⟩
      have HJ2 := Lib.hid hj2
      clear hj2
      go_wp2
      rw [HPost.out]
      exact HJ2.out.j.out _ hacc _ rfl
    · have hse : s.isEmpty = false := by
        cases s with
        | nil => exact absurd rfl hs0
        | cons a b => rfl
      rw [if_neg hs0] at hr
      have HCut := Lib.hid (fun W => cut_any ⟨s.toArray⟩ (by rw [hssz]; omega) W)
      unfold CutQ at HCut
      rw [show (⟨s.toArray⟩ : ByteArray).data.toList = s by simp] at HCut
      have happ := List.takeWhile_append_dropWhile (p := notDollar) (l := s)
      have hdd := drop_dollar s
      generalize hplain : s.takeWhile notDollar = plain at hr HCut happ
      generalize s.dropWhile notDollar = q at hr HCut happ hdd
      have hlen := congrArg List.length happ
      rw [List.length_append] at hlen
      have hdq : s.drop plain.length = q := by rw [← happ]; simp
      have HWs := Lib.hid (fun W (h : TxJ B xb vb mb vs inn sl0 w w.heap.size sl f acc W) => h.ws plain (by omega))
      clear hs0 hplain
      go_wp2_with fail
      go_at_call 124
      refine (HCut.out _).mono ?_
      rintro e w1 ⟨rfl, hb1⟩
      have HJ1 := Lib.hid (HJ.out.below hb1)
      clear hb1
      have HW1 := Lib.hid (HWs.out w1 HJ1.out)
      go_wp2_with fail
      go_at_call 116
      refine HW1.out.mono ?_
      rintro e w2 ⟨rfl, hj2⟩
      have HJ2 := Lib.hid hj2
      have HLen := Lib.hid hj2.len
      clear hj2 HW1 HJ1 HWs
      go_wp2_with fail
      go_at_call 125
      refine HLen.out.mono ?_
      rintro e wb ⟨rfl, hwb⟩
      subst hwb
      by_cases hbig : 65536 < (acc ++ plain).length
      · rw [if_pos hbig] at hr
        cases hr
        have hb : (65536 : Int) < ((acc ++ plain).length : Int) := by omega
        have HFl := Lib.hid (fun W => fail_any 5 W)
        clear hbig
        generalize (acc ++ plain).length = ln at hb
        go_wp2_with fail
        go_at_call 126
        refine (HFl.out _).mono ?_
        rintro e wb ⟨rfl, rfl⟩
        exact ⟨rfl, by rw [HPost.out]; exact ⟨rfl, HJ2.out.j.keeps⟩⟩
      · rw [if_neg hbig] at hr
        have hb : ¬ (65536 : Int) < ((acc ++ plain).length : Int) := by omega
        by_cases hq0 : q = []
        · rw [if_pos hq0] at hr
          cases hr
          subst hq0
          have HS := Lib.hid HJ2.out.str
          have hacc2 : (acc ++ plain).length ≤ 65536 := by omega
          have HA := Lib.hid hacc2
          clear hbig hacc2
          generalize acc ++ plain = acc2 at hb HS HA HJ2 HPost
          go_wp2_with fail
          go_at_call 117
          refine HS.out.mono ?_
          rintro e w3 ⟨rfl, hj3⟩
          have HJ3 := Lib.hid hj3
          clear hj3
          go_wp2
          rw [HPost.out]
          exact HJ3.out.j.out _ HA.out _ rfl
        · rw [if_neg hq0] at hr
          obtain ⟨qr, hqr⟩ := hdd hq0
          have hqe : q.isEmpty = false := by rw [hqr]; rfl
          have hs2 : ∀ W : World, (Instr.slice 9 (.string ⟨s.toArray⟩) (some (.int .i64 (plain.length : Int))) none none).run Tryz.prog W = .ok (.string ⟨q.toArray⟩) W := fun W => by
            have := run_slice_string_l W 9 ⟨s.toArray⟩ Tryz.underlying9 .i64 (plain.length : Int) (by omega) (by rw [hssz]; omega)
            rw [this]
            congr 2
            apply bs_ext
            rw [tail_list]
            show List.drop plain.length s = q
            exact hdq
          have hqsz : (⟨q.toArray⟩ : ByteArray).size = q.length := by show q.toArray.size = _; simp
          have hW := fun W => whole_any ⟨q.toArray⟩ (by rw [hqsz]; omega) W
          unfold WholeQ at hW
          rw [show (⟨q.toArray⟩ : ByteArray).data.toList = q by simp] at hW
          have hwle := wholeS_le q
          obtain ⟨u, hu0⟩ : ∃ u, u = q.take (wholeS q) := ⟨_, rfl⟩
          rw [← hu0] at hW
          have hul : u.length = wholeS q := by rw [hu0, List.length_take]; omega
          cases hp : pieceE E n inn f q with
          | none => rw [hp] at hr; simp at hr
          | some pr =>
            rw [hp] at hr
            obtain ⟨n, rfl⟩ : ∃ k, n = k + 1 := by
              cases n with
              | zero => simp [pieceE] at hp
              | succ k => exact ⟨k, rfl⟩
            rw [hqr] at hp
            have hpc := piece_cases hp
            rw [← hqr, ← hu0] at hpc
            have hin := fun W hb => inner_any u (by omega) hb W
            have hplen : plain.length ≤ 65536 := by rw [List.length_append] at hbig; omega
            have hacp : acc.length + plain.length ≤ 65536 := by rw [List.length_append] at hbig; omega
            obtain ⟨q2, hq2⟩ : ∃ q2, q2 = q.drop (wholeS q) := ⟨_, rfl⟩
            rw [← hq2] at hr
            have hq2l : q2.length = q.length - wholeS q := by rw [hq2, List.length_drop]
            have hs3 : ∀ W : World, (Instr.slice 9 (.string ⟨q.toArray⟩) (some (.int .i64 (u.length : Int))) none none).run Tryz.prog W = .ok (.string ⟨q2.toArray⟩) W := fun W => by
              have := run_slice_string_l W 9 ⟨q.toArray⟩ Tryz.underlying9 .i64 (u.length : Int) (by omega) (by rw [hqsz]; omega)
              rw [this]
              congr 2
              apply bs_ext
              rw [tail_list, hq2]
              show List.drop u.length q = _
              rw [hul]
            have HX : Hid ((⟨q.toArray⟩ : ByteArray).extract (wholeS q) q.length = ⟨q2.toArray⟩) := Lib.hid (by
              apply bs_ext
              rw [hq2, ← hqsz, tail_list])
            have hql : q.length ≤ s.length := by omega
            have hssq : strSize (.string ⟨s.toArray⟩) = s.length := hssz
            have HW3 := Lib.hid hW
            clear hW hp hqr hbig hq0 hdq happ hu0 hdd hq2 hb
            have hb : ¬ (65536 : Int) < ((acc ++ plain).length : Int) := by rw [List.length_append]; omega
            have hapl : (acc ++ plain).length ≤ 65536 := by rw [List.length_append]; omega
            go_wp2_with fail
            go_at_call 127
            refine (HW3.out _).mono ?_
            rintro e w3 ⟨rfl, hb3⟩
            have HJ3 := Lib.hid (HJ2.out.below hb3)
            clear hb3
            rcases hpc with ⟨hz, hpr⟩ | ⟨hz, hin0, hu, hpr⟩ | ⟨hz, x, hinx, h3, hpr⟩ | ⟨hz, hin0, hne1, hne2, t, hut, hpr⟩
            · subst hpr
              cases hr
              have hue : u = [] := List.eq_nil_of_length_eq_zero (by omega)
              subst hue
              have HIn := Lib.hid (fun W => hin W (fun h => by cases h))
              simp only [innerS, innerV] at HIn
              have HFl := Lib.hid (fun W => fail_any 4 W)
              go_wp2_with fail
              go_at_call 128
              refine (HIn.out _).mono ?_
              rintro e w4 ⟨rfl, hb4⟩
              have HJ4 := Lib.hid (HJ3.out.below hb4)
              clear hb4
              go_wp2_with fail
              go_at_call 126
              refine (HFl.out _).mono ?_
              rintro e wb ⟨rfl, rfl⟩
              exact ⟨rfl, by rw [HPost.out]; exact ⟨rfl, HJ4.out.j.keeps⟩⟩
            · have HIn := Lib.hid (fun W => hin W (fun h => by rw [hin0] at h; cases h))
              rw [hin0] at HIn
              simp only [innerV] at HIn
              have hue : u.isEmpty = false := by rcases hu with rfl | rfl <;> rfl
              clear hin
              go_wp2_with fail
              go_at_call 128
              refine (HIn.out _).mono ?_
              rintro e w4 ⟨rfl, hb4⟩
              have HJ4 := Lib.hid (HJ3.out.below hb4)
              clear hb4
              obtain ⟨t6, ht6⟩ : ∃ t6 : List UInt8, t6 = [36] := ⟨_, rfl⟩
              obtain ⟨f6, hf6⟩ : ∃ f6, f6 = f := ⟨_, rfl⟩
              obtain ⟨sl6, hsl6⟩ : ∃ sl6, sl6 = sl := ⟨_, rfl⟩
              cases hpr
              have HW := Lib.hid (HJ4.out.wb (by omega))
              replace hr : (if 65536 < (acc ++ plain ++ [36]).length then some (.error 5) else textE E (n + 1) inn (acc ++ plain ++ [36]) f q2) = some r := hr
              rw [← ht6] at HW
              rw [← ht6, ← hf6] at hr
              have hsw : ((u == [36]) = true) ∨ ((u == [36]) = false ∧ (u == [36, 36]) = true) := by
                rcases hu with rfl | rfl
                · left; rfl
                · right; exact ⟨rfl, rfl⟩
              clear hu
              rcases hsw with e1 | ⟨e1, e2⟩
              all_goals
                go_wp2_with fail
                go_at_call 129
                refine HW.out.mono ?_
                rintro e w6 ⟨rfl, hj6⟩
                rw [← hf6, ← hsl6] at hj6
                have HJ6 := Lib.hid hj6
                clear hj6 HW HJ4 ht6 hf6 hsl6
                have HLen6 := Lib.hid HJ6.out.len
                go_wp2_with fail
                go_at_call 125
                refine HLen6.out.mono ?_
                rintro e wb ⟨rfl, hwb⟩
                subst hwb
                by_cases hbig2 : 65536 < (acc ++ plain ++ t6).length
                · rw [if_pos hbig2] at hr
                  cases hr
                  have hb2 : (65536 : Int) < ((acc ++ plain ++ t6).length : Int) := by omega
                  have HFl := Lib.hid (fun W => fail_any 5 W)
                  clear hbig2
                  generalize (acc ++ plain ++ t6).length = ln6 at hb2
                  go_wp2_with fail
                  go_at_call 126
                  refine (HFl.out _).mono ?_
                  rintro e wb ⟨rfl, rfl⟩
                  exact ⟨rfl, by rw [HPost.out]; exact ⟨rfl, HJ6.out.j.keeps⟩⟩
                · rw [if_neg hbig2] at hr
                  have hb2 : ¬ (65536 : Int) < ((acc ++ plain ++ t6).length : Int) := by omega
                  have HAcc6 : Hid ((acc ++ plain ++ t6).length ≤ 65536) := Lib.hid (by omega)
                  have HR6 := Lib.hid hr
                  clear hbig2 hr
                  generalize acc ++ plain ++ t6 = acc6 at hb2 HAcc6 HR6 HJ6
                  go_wp2
                  go_roundw
                  case rel => exact ⟨n + 1, q2, acc6, f6, sl6, (by first | rfl | exact congrArg Value.string HX.out), by omega, by omega, HAcc6.out, HR6, HJ6⟩
                  case measure => simp [strSize]; omega
            · have HIn := Lib.hid (fun W => hin W (fun _ => h3))
              rw [hinx] at HIn
              simp only [innerV] at HIn
              have hue : u.isEmpty = false := by
                cases u with
                | nil => simp at h3
                | cons a b => rfl
              have hk36 : ∀ c : List UInt8, c.length < 3 → (u == c) = false := fun c hc => beq_eq_false_iff_ne.2 (fun e => by rw [e] at h3; omega)
              have e1 := hk36 [36] (by simp)
              have e2 := hk36 [36, 36] (by simp)
              have hxl : x.length ≤ 70368744177664 := by
                have : x.length ≤ u.length := inner_len hinx
                omega
              clear hin hk36
              go_wp2_with fail
              go_at_call 128
              refine (HIn.out _).mono ?_
              rintro e w4 ⟨rfl, hb4⟩
              have HJ4 := Lib.hid (HJ3.out.below hb4)
              clear hb4
              rcases hpr with ⟨hf, rfl⟩ | ⟨hf, hpr⟩
              · cases hr
                have HT := Lib.hid (fuel_out 1 (by omega) w4 HJ4.out.j.ex)
                go_wp2_with fail
                go_at_call 130
                refine HT.out.mono ?_
                rintro e wb ⟨rfl, rfl⟩
                exact ⟨rfl, by rw [HPost.out]; exact ⟨rfl, HJ4.out.j.keeps⟩⟩
              · have HT := Lib.hid (fuel_any 1 (by omega) w4 HJ4.out.j.ex)
                have HC := Lib.hid (fun W (h : IsEx B xb vb mb vs sl inn (f - 1) W) => HU n (by omega) B xb vb mb vs sl inn (f - 1) W x pr h hE hxl hpr)
                go_wp2_with fail
                go_at_call 130
                refine HT.out.mono ?_
                rintro e w5 ⟨rfl, h5, hk5⟩
                have HJ5 := Lib.hid (HJ4.out.ex h5 (RowFrom.refl _ _) hk5)
                have HC5 := Lib.hid (HC.out w5 h5)
                clear h5 hk5
                go_wp2_with fail
                go_at_call 131
                refine HC5.out.mono ?_
                cases pr with
                | error k =>
                  cases hr
                  rintro e wb ⟨rfl, hkb⟩
                  exact ⟨rfl, by rw [HPost.out]; exact ⟨rfl, HJ5.out.j.keeps.trans HJ5.out.j.row hkb⟩⟩
                | ok pq =>
                  obtain ⟨t6, f6⟩ := pq
                  rintro e wb ⟨rfl, htl6, sl6, h6, hrow6, hk6⟩
                  have HJb := Lib.hid (HJ5.out.ex h6 hrow6 hk6)
                  clear h6 hrow6 hk6
                  have HW := Lib.hid (HJb.out.ws t6 (by omega))
                  replace hr : (if 65536 < (acc ++ plain ++ t6).length then some (.error 5) else textE E (n + 1) inn (acc ++ plain ++ t6) f6 q2) = some r := hr
                  go_wp2_with fail
                  go_at_call 116
                  refine HW.out.mono ?_
                  rintro e w6 ⟨rfl, hj6⟩
                  have HJ6 := Lib.hid hj6
                  clear hj6 HW HJb HC5 HC HT HJ5 HJ4 htl6
                  have HLen6 := Lib.hid HJ6.out.len
                  go_wp2_with fail
                  go_at_call 125
                  refine HLen6.out.mono ?_
                  rintro e wb ⟨rfl, hwb⟩
                  subst hwb
                  by_cases hbig2 : 65536 < (acc ++ plain ++ t6).length
                  · rw [if_pos hbig2] at hr
                    cases hr
                    have hb2 : (65536 : Int) < ((acc ++ plain ++ t6).length : Int) := by omega
                    have HFl := Lib.hid (fun W => fail_any 5 W)
                    clear hbig2
                    generalize (acc ++ plain ++ t6).length = ln6 at hb2
                    go_wp2_with fail
                    go_at_call 126
                    refine (HFl.out _).mono ?_
                    rintro e wb ⟨rfl, rfl⟩
                    exact ⟨rfl, by rw [HPost.out]; exact ⟨rfl, HJ6.out.j.keeps⟩⟩
                  · rw [if_neg hbig2] at hr
                    have hb2 : ¬ (65536 : Int) < ((acc ++ plain ++ t6).length : Int) := by omega
                    have HAcc6 : Hid ((acc ++ plain ++ t6).length ≤ 65536) := Lib.hid (by omega)
                    have HR6 := Lib.hid hr
                    clear hbig2 hr
                    generalize acc ++ plain ++ t6 = acc6 at hb2 HAcc6 HR6 HJ6
                    go_wp2
                    go_roundw
                    case rel => exact ⟨n + 1, q2, acc6, f6, sl6, (by first | rfl | exact congrArg Value.string HX.out), by omega, by omega, HAcc6.out, HR6, HJ6⟩
                    case measure => simp [strSize]; omega
            · have HIn := Lib.hid (fun W => hin W (fun h => by rw [hin0] at h; cases h))
              rw [hin0] at HIn
              simp only [innerV] at HIn
              have hue : u.isEmpty = false := by rw [hut]; rfl
              have e1 : (u == [36]) = false := beq_eq_false_iff_ne.2 hne1
              have e2 : (u == [36, 36]) = false := beq_eq_false_iff_ne.2 hne2
              have hs4 : ∀ W : World, (Instr.slice 9 (.string ⟨u.toArray⟩) (some (.int .i64 1)) none none).run Tryz.prog W = .ok (.string ⟨t.toArray⟩) W := fun W => by
                have hsz : (⟨u.toArray⟩ : ByteArray).size = u.length := by show u.toArray.size = _; simp
                have := run_slice_string_l W 9 ⟨u.toArray⟩ Tryz.underlying9 .i64 (1 : Int) (by omega) (by rw [hsz]; omega)
                rw [this]
                congr 2
                apply bs_ext
                rw [tail_list]
                show List.drop 1 u = t
                rw [hut]
                rfl
              clear hin hut hne1 hne2
              go_wp2_with fail
              go_at_call 128
              refine (HIn.out _).mono ?_
              rintro e w4 ⟨rfl, hb4⟩
              have HJ4 := Lib.hid (HJ3.out.below hb4)
              clear hb4
              rcases hpr with ⟨hf, rfl⟩ | ⟨hf, hpr⟩
              · cases hr
                have HT := Lib.hid (fuel_out 1 (by omega) w4 HJ4.out.j.ex)
                go_wp2_with fail
                go_at_call 130
                refine HT.out.mono ?_
                rintro e wb ⟨rfl, rfl⟩
                exact ⟨rfl, by rw [HPost.out]; exact ⟨rfl, HJ4.out.j.keeps⟩⟩
              · have HT := Lib.hid (fuel_any 1 (by omega) w4 HJ4.out.j.ex)
                have HC := Lib.hid (fun W (h : IsEx B xb vb mb vs sl inn (f - 1) W) => HM n (by omega) B xb vb mb vs sl inn (f - 1) W t pr h hE hpr)
                go_wp2_with fail
                go_at_call 130
                refine HT.out.mono ?_
                rintro e w5 ⟨rfl, h5, hk5⟩
                have HJ5 := Lib.hid (HJ4.out.ex h5 (RowFrom.refl _ _) hk5)
                have HC5 := Lib.hid (HC.out w5 h5)
                clear h5 hk5
                go_wp2_with fail
                go_at_call 132
                refine HC5.out.mono ?_
                cases pr with
                | error k =>
                  cases hr
                  rintro e wb ⟨rfl, hkb⟩
                  exact ⟨rfl, by rw [HPost.out]; exact ⟨rfl, HJ5.out.j.keeps.trans HJ5.out.j.row hkb⟩⟩
                | ok pq =>
                  obtain ⟨t6, f6⟩ := pq
                  rintro e wb ⟨rfl, htl6, sl6, h6, hrow6, hk6⟩
                  have HJb := Lib.hid (HJ5.out.ex h6 hrow6 hk6)
                  clear h6 hrow6 hk6
                  have HW := Lib.hid (HJb.out.ws t6 (by omega))
                  replace hr : (if 65536 < (acc ++ plain ++ t6).length then some (.error 5) else textE E (n + 1) inn (acc ++ plain ++ t6) f6 q2) = some r := hr
                  go_wp2_with fail
                  go_at_call 116
                  refine HW.out.mono ?_
                  rintro e w6 ⟨rfl, hj6⟩
                  have HJ6 := Lib.hid hj6
                  clear hj6 HW HJb HC5 HC HT HJ5 HJ4 htl6
                  have HLen6 := Lib.hid HJ6.out.len
                  go_wp2_with fail
                  go_at_call 125
                  refine HLen6.out.mono ?_
                  rintro e wb ⟨rfl, hwb⟩
                  subst hwb
                  by_cases hbig2 : 65536 < (acc ++ plain ++ t6).length
                  · rw [if_pos hbig2] at hr
                    cases hr
                    have hb2 : (65536 : Int) < ((acc ++ plain ++ t6).length : Int) := by omega
                    have HFl := Lib.hid (fun W => fail_any 5 W)
                    clear hbig2
                    generalize (acc ++ plain ++ t6).length = ln6 at hb2
                    go_wp2_with fail
                    go_at_call 126
                    refine (HFl.out _).mono ?_
                    rintro e wb ⟨rfl, rfl⟩
                    exact ⟨rfl, by rw [HPost.out]; exact ⟨rfl, HJ6.out.j.keeps⟩⟩
                  · rw [if_neg hbig2] at hr
                    have hb2 : ¬ (65536 : Int) < ((acc ++ plain ++ t6).length : Int) := by omega
                    have HAcc6 : Hid ((acc ++ plain ++ t6).length ≤ 65536) := Lib.hid (by omega)
                    have HR6 := Lib.hid hr
                    clear hbig2 hr
                    generalize acc ++ plain ++ t6 = acc6 at hb2 HAcc6 HR6 HJ6
                    go_wp2
                    go_roundw
                    case rel => exact ⟨n + 1, q2, acc6, f6, sl6, (by first | rfl | exact congrArg Value.string HX.out), by omega, by omega, HAcc6.out, HR6, HJ6⟩
                    case measure => simp [strSize]; omega

theorem text_all (E : XEnv) (hm : ∀ a b, E.mods a b = none) (N : Nat) : TextOK E N ∧ MeanOK E N ∧ UseOK E N := by
  induction N using Nat.strongRecOn with
  | ind N ih =>
    refine ⟨text_of E N (fun k hk => (ih k hk).2.1) (fun k hk => (ih k hk).2.2), ?_, ?_⟩
    · cases N with
      | zero => intro B xb vb mb vs sl inn fuel w x r h hE hr; simp [meanE] at hr
      | succ n => exact mean_of E n (ih n (Nat.lt_succ_self n)).1
    · cases N with
      | zero => intro B xb vb mb vs sl inn fuel w x r h hE hl hr; simp [useE] at hr
      | succ n => exact use_of E hm n (ih n (Nat.lt_succ_self n)).1 (ih n (Nat.lt_succ_self n)).2.1
end Go.Proofs.YtpjmccajkcmmaaaGreatDoor
