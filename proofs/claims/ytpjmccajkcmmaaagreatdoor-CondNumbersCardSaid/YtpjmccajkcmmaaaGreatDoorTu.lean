/- bobstaylaw10.digits. The conditions of CondNumbers: what is read of them, and what they mean: plain laws. -/
import Derived.Test.YtpjmccajkcmmaaaGreatDoorTr
namespace Go.Proofs.YtpjmccajkcmmaaaGreatDoor
open Go.RowKit

set_option maxHeartbeats 1000000 in
set_option maxRecDepth 100000 in
theorem digitsPos_any (n : Int) (h0 : 0 ≤ n) (h1 : n ≤ 1099511627776) (w : World) :
    Calls Tryz.prog 11 #[.int .i64 n] w fun e w' => e = .returned (.string ⟨(Lib.decDigits n.toNat).toArray⟩) ∧ Below w.heap.size w w' := by
  have hU : n.toNat ≤ 9223372036854775808 := by omega
  have hn : ¬ n < 0 := by omega
  go_enter Tryz.func11, Tryz.ntmps11
  go_wp2
  go_loopw [0, 3, 4] (fun v3 v4 v5 wr => ∃ (x : Int) (t : ByteArray) (first : Bool), v3 = .int .i64 x ∧ v4 = .string t ∧ v5 = .bool first ∧ 0 ≤ x ∧ x ≤ 1099511627776 ∧ Hid (FmtR n.toNat x t first) ∧ Below w.heap.size w wr)
      (fun v3 _ v5 _ => (intOf v3).toNat + (match v5 with | .bool true => 1 | _ => 0))
  case atStart => exact ⟨n, ⟨#[]⟩, true, rfl, rfl, rfl, h0, h1, Lib.hid ⟨n.toNat, by omega, Nat.le_refl _, (fun _ => ⟨rfl, rfl⟩), (fun h => by cases h)⟩, Below.refl _ _⟩
  case round =>
    obtain ⟨x, t, first, rfl, rfl, rfl, x0, x1, HR, hb⟩ := hrel
    have hcv := fun c => one_byte wr c
    have ht : t.size ≤ 20 := HR.out.small hU
    have hm : x.tmod 10 = x % 10 := Int.tmod_eq_emod_of_nonneg x0
    have hd : x.tdiv 10 = x / 10 := Int.tdiv_eq_ediv_of_nonneg x0
    cases first
    · by_cases hx : 0 < x
      · have HN := Lib.hid (HR.out.next (fun _ => hx))
        go_wp2
        go_roundw
        case rel => exact ⟨_, _, _, rfl, rfl, rfl, by omega, by omega, HN, hb.alloc hb.size _⟩
        case measure => simp [intOf]; omega
      · obtain rfl : x = 0 := by omega
        have HL := Lib.hid HR.out.last
        go_wp2
        go_ret
        refine ⟨?_, hb⟩
        rw [← HL.out]
        rfl
    · have HN := Lib.hid (HR.out.next (fun h => by cases h))
      go_wp2
      go_roundw
      case rel => exact ⟨_, _, _, rfl, rfl, rfl, by omega, by omega, HN, hb.alloc hb.size _⟩
      case measure => simp [intOf]; omega

set_option maxHeartbeats 1000000 in
set_option maxRecDepth 100000 in
theorem digits_any (n : Int) (h0 : -1099511627776 ≤ n) (h1 : n ≤ 1099511627776) (w : World) :
    Calls Tryz.prog 11 #[.int .i64 n] w fun e w' => e = .returned (.string ⟨(Lib.itoa n).toArray⟩) ∧ Below w.heap.size w w' := by
  by_cases hn : n < 0
  · have HI : Hid (Lib.itoa n = 45 :: Lib.decDigits n.natAbs) := Lib.hid (by unfold Lib.itoa; rw [if_pos hn])
    have HP := Lib.hid (fun W => digitsPos_any (-n) (by omega) (by omega) W)
    have hw : IntKind.i64.wrap (-n) = -n := by rw [IntKind.wrap_i64]; omega
    rw [show (-n).toNat = n.natAbs by omega] at HP
    have hsz : (⟨(Lib.decDigits n.natAbs).toArray⟩ : ByteArray).size ≤ 20 := by
      rw [Lib.size_eq]
      show (Lib.decDigits n.natAbs).length ≤ 20
      rw [Lib.decDigits_length]
      exact nDigits_le 19 _ (by omega)
    have hsz2 : (Lib.decDigits n.natAbs).length ≤ 20 := by rw [Lib.decDigits_length]; exact nDigits_le 19 _ (by omega)
    have hbig : ¬ 9223372036854775807 < 1 + (Lib.decDigits n.natAbs).length := by omega
    generalize Lib.decDigits n.natAbs = l at HI HP hsz hsz2 hbig
    go_enter Tryz.func11, Tryz.ntmps11
    go_wp2_with fail
    go_at_call 11
    refine (HP.out _).mono ?_
    rintro e w1 ⟨rfl, hb⟩
    go_wp2
    refine ⟨rfl, _, results_tmp (fn := Tryz.f11) (t := 2) rfl _ _ _, ?_, hb⟩
    rw [HI.out]
    exact congrArg (fun z => Ending.returned (.string z)) (by apply ByteArray.ext; simp)
  · have HI : Lib.itoa n = Lib.decDigits n.toNat := by unfold Lib.itoa; rw [if_neg hn]
    rw [HI]
    exact digitsPos_any n (by omega) h1 w
end Go.Proofs.YtpjmccajkcmmaaaGreatDoor

namespace Go.Proofs.YtpjmccajkcmmaaaGreatDoor
open Go.RowKit

def opTxt (op : List UInt8) : List UInt8 := [36, 123, 65, 125] ++ op ++ [36, 66]
theorem read_eq : readC (opTxt [61, 61]) 12 = some (.cmp [61, 61] [36, 123, 65, 125] false [36, 66] false 0, 0, 0) := by kernel_rfl
theorem read_ne : readC (opTxt [33, 61]) 12 = some (.cmp [33, 61] [36, 123, 65, 125] false [36, 66] false 0, 0, 0) := by kernel_rfl
theorem read_lt : readC (opTxt [60]) 12 = some (.cmp [60] [36, 123, 65, 125] false [36, 66] false 0, 0, 0) := by kernel_rfl
theorem read_le : readC (opTxt [60, 61]) 12 = some (.cmp [60, 61] [36, 123, 65, 125] false [36, 66] false 0, 0, 0) := by kernel_rfl
theorem read_gt : readC (opTxt [62]) 12 = some (.cmp [62] [36, 123, 65, 125] false [36, 66] false 0, 0, 0) := by kernel_rfl
theorem read_ge : readC (opTxt [62, 61]) 12 = some (.cmp [62, 61] [36, 123, 65, 125] false [36, 66] false 0, 0, 0) := by kernel_rfl
theorem text_none (E : XEnv) (n : Nat) (inn : List (List UInt8)) (acc : List UInt8) (f : Int) : textE E (n + 1) inn acc f [] = some (.ok (acc, f)) := by
  unfold textE
  exact if_pos rfl
theorem mean_plain (E : XEnv) (n : Nat) (f : Int) (x l : List UInt8) (h : E.get x = some l) (hp : ∀ c ∈ l, c ≠ 36) (hl : l.length ≤ 100) (hf : (l.length : Int) ≤ f) : meanE E (n + 2) [] f x = some (.ok (l, f - l.length)) := by
  have t2 := textE_plain E n ([] ++ [x]) (f - l.length) l hp (by omega)
  unfold meanE
  rw [h]
  simp only
  rw [if_neg (by simp), if_neg (by omega)]
  exact t2
theorem text_A (E : XEnv) (f : Int) (l : List UInt8) (h : E.get [65] = some l) (hp : ∀ c ∈ l, c ≠ 36) (hl : l.length ≤ 100) (hf : 150 ≤ f) : textE E 20 [] [] f [36, 123, 65, 125] = some (.ok (l, f - 1 - l.length)) := by
  have e1 : wholeS [36, 123, 65, 125] = 4 := by kernel_rfl
  have e2 : headS [65] = some ([65], [], false) := by kernel_rfl
  have t1 := textE_plain E 16 [] (f - 1) [65] (by decide) (by decide)
  have t3 := text_none E 16 [] [] (f - 1)
  have m := mean_plain E 15 (f - 1) [65] l h hp hl (by omega)
  have u : useE E 18 [] (f - 1) [65] = some (.ok (l, f - 1 - l.length)) := by
    unfold useE
    rw [e2]
    simp only
    rw [t1]
    simp only
    rw [t3]
    simp only
    rw [if_neg (by simp), if_neg (by simp), m]
    simp
  have p : pieceE E 19 [] f [36, 123, 65, 125] = some (.ok (l, f - 1 - l.length)) := by
    unfold pieceE
    rw [e1]
    simp only [List.take]
    rw [if_neg (by omega), if_neg (by omega), if_pos (by simp)]
    exact u
  have d1 : List.takeWhile notDollar [36, 123, 65, 125] = [] := rfl
  have d2 : List.dropWhile notDollar [36, 123, 65, 125] = [36, 123, 65, 125] := rfl
  unfold textE
  rw [d1, d2, if_neg (by simp), if_neg (by simp), if_neg (by simp), p]
  simp only
  rw [if_neg (by simp; omega), e1]
  simp only [List.drop]
  rw [text_none]
  rfl
theorem text_B (E : XEnv) (f : Int) (l : List UInt8) (h : E.get [66] = some l) (hp : ∀ c ∈ l, c ≠ 36) (hl : l.length ≤ 100) (hf : 150 ≤ f) : textE E 20 [] [] f [36, 66] = some (.ok (l, f - 1 - l.length)) := by
  have e1 : wholeS [36, 66] = 2 := by kernel_rfl
  have m := mean_plain E 16 (f - 1) [66] l h hp hl (by omega)
  have p : pieceE E 19 [] f [36, 66] = some (.ok (l, f - 1 - l.length)) := by
    unfold pieceE
    rw [e1]
    simp only [List.take]
    rw [if_neg (by omega), if_neg (by decide), if_neg (by omega)]
    exact m
  have d1 : List.takeWhile notDollar [36, 66] = [] := rfl
  have d2 : List.dropWhile notDollar [36, 66] = [36, 66] := rfl
  unfold textE
  rw [d1, d2, if_neg (by simp), if_neg (by simp), if_neg (by simp), p]
  simp only
  rw [if_neg (by simp; omega), e1]
  simp only [List.drop]
  rw [text_none]
  rfl
/-- two numbers that are told stand as they are -/
theorem cmp_nums (A : AEnv) (op la lb : List UInt8) (a b : Int) (hN : A.N = 20) (hf : 150 ≤ A.f0) (ha : A.E.get [65] = some la) (hb : A.E.get [66] = some lb) (pa : ∀ c ∈ la, c ≠ 36) (pb : ∀ c ∈ lb, c ≠ 36) (na : la.length ≤ 100) (nb : lb.length ≤ 100)
    (va : parseS la = (a, 0)) (vb : parseS lb = (b, 0)) (hop : op ≠ []) : asksA A (.cmp op [36, 123, 65, 125] false [36, 66] false 0) (0, 0) = some (
      if op = [61, 61] ∨ op = [33, 61] then (((a == b) == (op == [61, 61])), (0, 0)) else if op = [60] then (decide (a < b), (0, 0)) else if op = [60, 61] then (decide (a ≤ b), (0, 0)) else if op = [62] then (decide (b < a), (0, 0)) else (decide (b ≤ a), (0, 0))) := by
  have hmx : max A.f0 0 = A.f0 := by omega
  have ta := text_A A.E A.f0 la ha pa na hf
  have tb := text_B A.E A.f0 lb hb pb nb hf
  have m1 : meansA A (0, 0) [36, 123, 65, 125] 0 = some (la, (0, 0)) := by
    unfold meansA
    rw [if_neg (by decide), if_neg (by decide), hmx, hN, ta]
  have m2 : meansA A (0, 0) [36, 66] 0 = some (lb, (0, 0)) := by
    unfold meansA
    rw [if_neg (by decide), if_neg (by decide), hmx, hN, tb]
  unfold asksA cmpA
  rw [m1]
  simp only
  rw [if_neg hop, m2]
  simp only
  rw [if_neg (by decide)]
  unfold opA
  rw [va, vb]
  simp
end Go.Proofs.YtpjmccajkcmmaaaGreatDoor
