/- num.Sum, the reference's Sum, and the walk of NumSums. -/
import Derived.Test.YtcflggahmjenfaaDoorNumRefF
import Derived.Test.YtcflggahmjenfaaDoorGlLaid
import Derived.OpenShut
namespace Go.Proofs.YtcflggahmjenfaaDoor
open Go.RowKit

/-- a number, or a sum, that is refused -/
def badSum (n x : Int) : Prop := x < -4611686018427387904 ∨ 4611686018427387904 < x ∨ (0 < x ∧ 4611686018427387904 - x < n) ∨ (x < 0 ∧ n < -4611686018427387904 - x)
instance (n x : Int) : Decidable (badSum n x) := by unfold badSum; exact inferInstance
def sumGo (n : Int) : List Int → Int × Int
  | [] => (n, 0)
  | x :: r => if badSum n x then (0, 5) else sumGo (n + x) r
def sumS (l : List Int) : Int × Int := sumGo 0 l

/-- the cells of a slice of ints -/
def Reads (w : World) (a : Option Addr) (l : List Int) : Prop := ∀ i, i < l.length → ∃ b off, a = some ⟨b, off, none⟩ ∧ w.cell? ⟨b, off + i, none⟩ = some (.int .i64 (l.getD i 0))

theorem reads_of {w : World} {a : Option Addr} {len cap : Nat} {zs : List Int} (h : IsRow w a len cap zs) : Reads w a (zs.take len) ∧ (zs.take len).length = len ∧ len ≤ maxLen ∧ ∀ n ∈ zs.take len, (Lit.int .i64 n).wf = true := by
  rcases h with ⟨rfl, rfl, rfl, rfl⟩ | ⟨x, rfl, h1, h2, h3, h4, h5⟩
  · exact ⟨fun i hi => by simp at hi, rfl, by decide, fun n hn => by simp at hn⟩
  · have hl : (zs.take len).length = len := by rw [List.length_take]; omega
    refine ⟨fun i hi => ?_, hl, by omega, fun n hn => h5 n (List.mem_of_mem_take hn)⟩
    obtain ⟨b, off, rfl, hc⟩ := ints_at h4 (by omega)
    refine ⟨b, off, rfl, ?_⟩
    rw [hc i (by omega)]
    congr 2
    simp [List.getD, List.getElem?_take]
    rw [if_pos (by omega)]

set_option maxHeartbeats 4000000 in
set_option maxRecDepth 100000 in
theorem sum_any (a : Option Addr) (len cap : Nat) (l : List Int) (hl : l.length = len) (hm : len ≤ maxLen) (w : World) (hr : Reads w a l) (hwf : ∀ n ∈ l, (Lit.int .i64 n).wf = true) :
    Calls Tryd.prog 19 #[.slice a len cap] w fun e w' => e = .returned (.tuple #[.int .i64 (sumS l).1, .int .i64 (sumS l).2]) ∧ w = w' := by
  unfold maxLen at hm
  have HS : Hid (sumS l = sumGo 0 (l.drop 0)) := Lib.hid rfl
  generalize sumS l = r at HS ⊢
  have HR := Lib.hid hr
  have HW := Lib.hid hwf
  clear hr hwf
  go_enter Tryd.func19, Tryd.ntmps19
  go_wp2
  go_loop [4, 9] (fun v4 v9 => ∃ (k : Nat) (n : Int), v4 = .int .i64 n ∧ v9 = .int .i64 k ∧ k ≤ len ∧ -4611686018427387904 ≤ n ∧ n ≤ 4611686018427387904 ∧ Hid (r = sumGo n (l.drop k))) (fun _ v9 => len - (intOf v9).toNat)
  case atStart => exact ⟨0, 0, rfl, rfl, by omega, by omega, by omega, HS⟩
  case round =>
    obtain ⟨k, n, rfl, rfl, hk, n0, n1, HK⟩ := hrel
    by_cases hlt : k < len
    · obtain ⟨b, off, rfl, hc⟩ := HR.out k (by omega)
      have hx : (Lit.int .i64 (l.getD k 0)).wf = true := by
        apply HW.out
        rw [List.getD_eq_getElem?_getD, List.getElem?_eq_getElem (by omega)]
        exact List.getElem_mem _
      have hd : l.drop k = l.getD k 0 :: l.drop (k + 1) := by
        rw [List.drop_eq_getElem_cons (by omega), List.getD_eq_getElem?_getD, List.getElem?_eq_getElem (by omega)]
        rfl
      have hxb := int_bounds_i64 hx
      have HK2 := Lib.hid (HK.out.trans (by rw [hd]; rfl : sumGo n (l.drop k) = if badSum n (l.getD k 0) then (0, 5) else sumGo (n + l.getD k 0) (l.drop (k + 1))))
      generalize l.getD k 0 = x at hc hxb HK2
      obtain ⟨x0, x1⟩ := hxb
      clear hd hx HK
      have hbadE : badSum n x → r = (0, 5) := fun h => by rw [HK2.out, if_pos h]
      have hgoE : ¬ badSum n x → Hid (r = sumGo (n + x) (l.drop (k + 1))) := fun h => Lib.hid (by rw [HK2.out, if_neg h])
      clear HK2 HS HR HW
      by_cases A : x < -4611686018427387904
      · obtain rfl := hbadE (.inl A)
        clear hbadE hgoE
        go_wp2
        all_goals (go_ret2; exact ⟨rfl, rfl⟩)
      · by_cases B : 4611686018427387904 < x
        · obtain rfl := hbadE (.inr (.inl B))
          clear hbadE hgoE
          go_wp2
          all_goals (go_ret2; exact ⟨rfl, rfl⟩)
        · have A' : -4611686018427387904 ≤ x := by omega
          have B' : x ≤ 4611686018427387904 := by omega
          by_cases C : 0 < x
          · by_cases C1 : 4611686018427387904 - x < n
            · obtain rfl := hbadE (.inr (.inr (.inl ⟨C, C1⟩)))
              clear hbadE hgoE A B
              go_wp2
              all_goals (go_ret2; exact ⟨rfl, rfl⟩)
            · have HN := hgoE (by unfold badSum; omega)
              have C2 : n ≤ 4611686018427387904 - x := by omega
              have s0 : -4611686018427387904 ≤ n + x := by omega
              have s1 : n + x ≤ 4611686018427387904 := by omega
              clear hbadE hgoE A B C1
              go_wp2
              all_goals
                go_round
                case rel => exact ⟨k + 1, _, by first | rfl | (congr 1; unfold wrap64; omega) | (congr 1; omega), by go_num, by omega, s0, s1, HN⟩
                case measure => simp [intOf]; omega
          · by_cases D : x < 0
            · by_cases D1 : n < -4611686018427387904 - x
              · obtain rfl := hbadE (.inr (.inr (.inr ⟨D, D1⟩)))
                clear hbadE hgoE A B
                go_wp2
                all_goals (go_ret2; exact ⟨rfl, rfl⟩)
              · have HN := hgoE (by unfold badSum; omega)
                have D2 : -4611686018427387904 - x ≤ n := by omega
                have s0 : -4611686018427387904 ≤ n + x := by omega
                have s1 : n + x ≤ 4611686018427387904 := by omega
                clear hbadE hgoE A B D1
                go_wp2
                all_goals
                  go_round
                  case rel => exact ⟨k + 1, _, by first | rfl | (congr 1; unfold wrap64; omega) | (congr 1; omega), by go_num, by omega, s0, s1, HN⟩
                  case measure => simp [intOf]; omega
            · obtain rfl : x = 0 := by omega
              have HN := hgoE (by unfold badSum; omega)
              have s0 : -4611686018427387904 ≤ n + 0 := by omega
              have s1 : n + 0 ≤ 4611686018427387904 := by omega
              clear hbadE hgoE A B
              go_wp2
              all_goals
                go_round
                case rel => exact ⟨k + 1, _, by first | rfl | (congr 1; unfold wrap64; omega) | (congr 1; omega), by go_num, by omega, s0, s1, HN⟩
                case measure => simp [intOf]; omega
    · obtain rfl : k = len := by omega
      have hn : r = (n, 0) := by
        rw [HK.out, List.drop_of_length_le (by omega)]
        rfl
      subst hn
      clear HK HS
      go_wp2
      go_ret2
      exact ⟨rfl, rfl⟩

set_option maxHeartbeats 4000000 in
set_option maxRecDepth 100000 in
theorem refSum_any (a : Option Addr) (len cap : Nat) (l : List Int) (hl : l.length = len) (hm : len ≤ maxLen) (w : World) (hr : Reads w a l) (hwf : ∀ n ∈ l, (Lit.int .i64 n).wf = true) :
    Calls Tryd.prog 20 #[.slice a len cap] w fun e w' => e = .returned (.tuple #[.int .i64 (sumS l).1, .int .i64 (sumS l).2]) ∧ w = w' := by
  unfold maxLen at hm
  have HS : Hid (sumS l = sumGo 0 (l.drop 0)) := Lib.hid rfl
  generalize sumS l = r at HS ⊢
  have HR := Lib.hid hr
  have HW := Lib.hid hwf
  clear hr hwf
  go_enter Tryd.func20, Tryd.ntmps20
  go_wp2
  go_loop [4, 5] (fun v4 v9 => ∃ (k : Nat) (n : Int), v4 = .int .i64 n ∧ v9 = .int .i64 k ∧ k ≤ len ∧ -4611686018427387904 ≤ n ∧ n ≤ 4611686018427387904 ∧ Hid (r = sumGo n (l.drop k))) (fun _ v9 => len - (intOf v9).toNat)
  case atStart => exact ⟨0, 0, rfl, rfl, by omega, by omega, by omega, HS⟩
  case round =>
    obtain ⟨k, n, rfl, rfl, hk, n0, n1, HK⟩ := hrel
    by_cases hlt : k < len
    · obtain ⟨b, off, rfl, hc⟩ := HR.out k (by omega)
      have hx : (Lit.int .i64 (l.getD k 0)).wf = true := by
        apply HW.out
        rw [List.getD_eq_getElem?_getD, List.getElem?_eq_getElem (by omega)]
        exact List.getElem_mem _
      have hd : l.drop k = l.getD k 0 :: l.drop (k + 1) := by
        rw [List.drop_eq_getElem_cons (by omega), List.getD_eq_getElem?_getD, List.getElem?_eq_getElem (by omega)]
        rfl
      have hxb := int_bounds_i64 hx
      have HK2 := Lib.hid (HK.out.trans (by rw [hd]; rfl : sumGo n (l.drop k) = if badSum n (l.getD k 0) then (0, 5) else sumGo (n + l.getD k 0) (l.drop (k + 1))))
      generalize l.getD k 0 = x at hc hxb HK2
      obtain ⟨x0, x1⟩ := hxb
      clear hd hx HK
      have hbadE : badSum n x → r = (0, 5) := fun h => by rw [HK2.out, if_pos h]
      have hgoE : ¬ badSum n x → Hid (r = sumGo (n + x) (l.drop (k + 1))) := fun h => Lib.hid (by rw [HK2.out, if_neg h])
      clear HK2 HS HR HW
      by_cases A : x < -4611686018427387904
      · obtain rfl := hbadE (.inl A)
        clear hbadE hgoE
        go_wp2
        all_goals (go_ret2; exact ⟨rfl, rfl⟩)
      · by_cases B : 4611686018427387904 < x
        · obtain rfl := hbadE (.inr (.inl B))
          clear hbadE hgoE
          go_wp2
          all_goals (go_ret2; exact ⟨rfl, rfl⟩)
        · have A' : -4611686018427387904 ≤ x := by omega
          have B' : x ≤ 4611686018427387904 := by omega
          by_cases C : 0 < x
          · by_cases C1 : 4611686018427387904 - x < n
            · obtain rfl := hbadE (.inr (.inr (.inl ⟨C, C1⟩)))
              clear hbadE hgoE A B
              go_wp2
              all_goals (go_ret2; exact ⟨rfl, rfl⟩)
            · have HN := hgoE (by unfold badSum; omega)
              have C2 : n ≤ 4611686018427387904 - x := by omega
              have s0 : -4611686018427387904 ≤ n + x := by omega
              have s1 : n + x ≤ 4611686018427387904 := by omega
              clear hbadE hgoE A B C1
              go_wp2
              all_goals
                go_round
                case rel => exact ⟨k + 1, _, by first | rfl | (congr 1; unfold wrap64; omega) | (congr 1; omega), by go_num, by omega, s0, s1, HN⟩
                case measure => simp [intOf]; omega
          · by_cases D : x < 0
            · by_cases D1 : n < -4611686018427387904 - x
              · obtain rfl := hbadE (.inr (.inr (.inr ⟨D, D1⟩)))
                clear hbadE hgoE A B
                go_wp2
                all_goals (go_ret2; exact ⟨rfl, rfl⟩)
              · have HN := hgoE (by unfold badSum; omega)
                have D2 : -4611686018427387904 - x ≤ n := by omega
                have s0 : -4611686018427387904 ≤ n + x := by omega
                have s1 : n + x ≤ 4611686018427387904 := by omega
                clear hbadE hgoE A B D1
                go_wp2
                all_goals
                  go_round
                  case rel => exact ⟨k + 1, _, by first | rfl | (congr 1; unfold wrap64; omega) | (congr 1; omega), by go_num, by omega, s0, s1, HN⟩
                  case measure => simp [intOf]; omega
            · obtain rfl : x = 0 := by omega
              have HN := hgoE (by unfold badSum; omega)
              have s0 : -4611686018427387904 ≤ n + 0 := by omega
              have s1 : n + 0 ≤ 4611686018427387904 := by omega
              clear hbadE hgoE A B
              go_wp2
              all_goals
                go_round
                case rel => exact ⟨k + 1, _, by first | rfl | (congr 1; unfold wrap64; omega) | (congr 1; omega), by go_num, by omega, s0, s1, HN⟩
                case measure => simp [intOf]; omega
    · obtain rfl : k = len := by omega
      have hn : r = (n, 0) := by
        rw [HK.out, List.drop_of_length_le (by omega)]
        rfl
      subst hn
      clear HK HS
      go_wp2
      go_ret2
      exact ⟨rfl, rfl⟩

set_option maxHeartbeats 1000000 in
set_option maxRecDepth 100000 in
theorem numSums_walk (a : Option Addr) (len cap : Nat) (zs : List Int) {w0 : World} (h : IsRow w0 a len cap zs) (w : World) (hG : Gl w) (e0 : w0 = w := by rfl) :
    Calls Tryd.prog 8 #[.slice a len cap] w fun e w' => e = .returned (.bool true) ∧ Below w.heap.size w w' := by
  subst e0
  obtain ⟨hr, hl, hm, hwf⟩ := reads_of h
  have H1 := Lib.hid (sum_any a len cap _ hl hm w0 hr hwf)
  have H2 := Lib.hid (refSum_any a len cap _ hl hm w0 hr hwf)
  generalize sumS (zs.take len) = r at H1 H2
  obtain ⟨r, e⟩ := r
  clear hr hl hm hwf h
  go_enter Tryd.func8, Tryd.ntmps8
  go_wp2_with fail
  refine H1.out.mono ?_
  rintro e w1 ⟨rfl, rfl⟩
  go_wp2_with fail
  refine H2.out.mono ?_
  rintro e w2 ⟨rfl, rfl⟩
  go_wp2_with fail
  refine (alive_any _ hG).mono ?_
  rintro e w6 ⟨rfl, hb6⟩
  go_wp2
  go_ret
  exact ⟨rfl, hb6⟩
end Go.Proofs.YtcflggahmjenfaaDoor
