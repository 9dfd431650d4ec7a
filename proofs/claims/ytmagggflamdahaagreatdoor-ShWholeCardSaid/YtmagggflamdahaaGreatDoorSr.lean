/- bobstayref04.kinds, Mean: that they end. Printed by wip/genmean.py. bobstayref17.Read: its error. Printed by wip/genread.py. The document's reading of a line, round by round: plain law. -/
import Derived.Test.YtmagggflamdahaaGreatDoorSq
import Derived.Test.YtmagggflamdahaaGreatDoorSc
namespace Go.Proofs.YtmagggflamdahaaGreatDoor
open Go.RowKit

/-- it ends with a text of n bytes, and a truth -/
def Kinds4Q (n : Nat) (w : World) (e : Ending) (w' : World) : Prop := ∃ (t : ByteArray) (b : Bool), e = .returned (.tuple #[.string t, .bool b]) ∧ t.size = n ∧ Below w.heap.size w w'

set_option maxHeartbeats 16000000 in
set_option maxRecDepth 100000 in
theorem refKinds4_any (s : ByteArray) (hs : s.size ≤ 1073741824) (w : World) : Calls Tryz.prog 48 #[.string s] w (Kinds4Q s.size w) := by
  obtain ⟨i0, hi0, hz0, hz1, hz2⟩ := info_parts byteInfo
  go_enter Tryz.func48, Tryz.ntmps48
  go_wp2
  go_loopw [4, 5, 6, 7] (fun v4 v5 v6 v7 wr => ∃ (i : Nat) (q : UInt8) (t : Bool) (O : List UInt8) (v : Value), v = v4 ∧ v5 = .int .u8 (q.toNat : Int) ∧ v6 = .bool t ∧ v7 = .int .i64 i ∧ i ≤ s.size ∧ (q = 0 ∨ q = 39 ∨ q = 34) ∧ O.length = i ∧
      Hid (wr.ownsRow w.heap.size 5 1 v O.length (Lib.byteCells O)) ∧ Hid (Below w.heap.size w wr)) (fun _ _ _ v7 _ => s.size + 1 - (intOf v7).toNat)
  case atStart => exact ⟨0, 0, false, [], _, rfl, rfl, rfl, rfl, by omega, .inl rfl, rfl, Lib.hid ⟨rfl, .inl ⟨rfl, rfl⟩⟩, Lib.hid (Below.refl _ _)⟩
  case round =>
    obtain ⟨i, q, t, O, v4, rfl, rfl, rfl, rfl, hi, hq, hOl, HR, HB⟩ := hrel
    by_cases hlt : i < s.size
    · cases t with
      | true =>
        have HQ := Lib.hid hq
        clear hq
        go_wp2_with (at_builtin; refine wpList_append_own _ rfl _ _ 43 rfl w.heap.size 5 i0 (.int .u8 0) 1 1 Tryz.underlying43 hi0 hz0 hz1 hz2 rfl (by decide) _ _ _ rfl (HR.out.alloc _) ⟨wr.heap.size, 0, none⟩ 1 1 [.int .u8 112] rfl rfl ?a12 ?b12 ?c12 ?d12 ?e12 ?_)
        try case a12 =>
          intro j y hj
          match j, hj with
          | 0, hj => simp at hj; subst hj; exact Lib.cell_of_heap (heap_alloc_new _ _) 0
        try case b12 => first | rfl | (intro y hy; simp at hy; subst hy; rfl)
        try case c12 => unfold maxLen; omega
        try case d12 => omega
        try case e12 => exact Nat.le_trans HB.out.size (by simp)
        intro v' w3 hown' hgrow _
        have HB3 := Lib.hid ((HB.out.alloc HB.out.size (.cells #[.int .u8 112] 5)).grown hgrow (Nat.le_trans HB.out.size (by simp)) (fun k hk => (HR.out.lt k hk).1))
        have HR3 : Hid (w3.ownsRow w.heap.size 5 1 v' (O ++ [112]).length (Lib.byteCells (O ++ [112]))) := Lib.hid (by
          rw [byteCells_append, List.length_append]
          simpa [Lib.byteCells, hOl] using hown')
        clear hown' hgrow
        go_wp2
        go_roundw
        case rel => exact ⟨i + 1, q, false, O ++ [112], _, rfl, rfl, rfl, by go_num, by omega, HQ.out, by simp; omega, HR3, HB3⟩
        case measure => simp [intOf]; omega
      | false =>
        rcases hq with rfl | rfl | rfl
        · cases h92 : (((s[i]'hlt).toNat : Int) == 92) with
          | true =>
            go_wp2_with (at_builtin; refine wpList_append_own _ rfl _ _ 43 rfl w.heap.size 5 i0 (.int .u8 0) 1 1 Tryz.underlying43 hi0 hz0 hz1 hz2 rfl (by decide) _ _ _ rfl (HR.out.alloc _) ⟨wr.heap.size, 0, none⟩ 1 1 [.int .u8 115] rfl rfl ?a1 ?b1 ?c1 ?d1 ?e1 ?_)
            try case a1 =>
              intro j y hj
              match j, hj with
              | 0, hj => simp at hj; subst hj; exact Lib.cell_of_heap (heap_alloc_new _ _) 0
            try case b1 => first | rfl | (intro y hy; simp at hy; subst hy; rfl)
            try case c1 => unfold maxLen; omega
            try case d1 => omega
            try case e1 => exact Nat.le_trans HB.out.size (by simp)
            intro v' w3 hown' hgrow _
            have HB3 := Lib.hid ((HB.out.alloc HB.out.size (.cells #[.int .u8 115] 5)).grown hgrow (Nat.le_trans HB.out.size (by simp)) (fun k hk => (HR.out.lt k hk).1))
            have HR3 : Hid (w3.ownsRow w.heap.size 5 1 v' (O ++ [115]).length (Lib.byteCells (O ++ [115]))) := Lib.hid (by
              rw [byteCells_append, List.length_append]
              simpa [Lib.byteCells, hOl] using hown')
            clear hown' hgrow
            go_wp2
            go_roundw
            case rel => exact ⟨i + 1, 0, true, O ++ [115], _, rfl, rfl, rfl, by go_num, by omega, .inl rfl, by simp; omega, HR3, HB3⟩
            case measure => simp [intOf]; omega
          | false =>
            cases h39 : (((s[i]'hlt).toNat : Int) == 39) with
            | true =>
              have HCQ : Hid (s[i] = 0 ∨ s[i] = 39 ∨ s[i] = 34) := Lib.hid (.inr (.inl (byte_is s i hlt 39 39 rfl h39)))
              go_wp2_with (at_builtin; refine wpList_append_own _ rfl _ _ 43 rfl w.heap.size 5 i0 (.int .u8 0) 1 1 Tryz.underlying43 hi0 hz0 hz1 hz2 rfl (by decide) _ _ _ rfl (HR.out.alloc _) ⟨wr.heap.size, 0, none⟩ 1 1 [.int .u8 113] rfl rfl ?a2 ?b2 ?c2 ?d2 ?e2 ?_)
              try case a2 =>
                intro j y hj
                match j, hj with
                | 0, hj => simp at hj; subst hj; exact Lib.cell_of_heap (heap_alloc_new _ _) 0
              try case b2 => first | rfl | (intro y hy; simp at hy; subst hy; rfl)
              try case c2 => unfold maxLen; omega
              try case d2 => omega
              try case e2 => exact Nat.le_trans HB.out.size (by simp)
              intro v' w3 hown' hgrow _
              have HB3 := Lib.hid ((HB.out.alloc HB.out.size (.cells #[.int .u8 113] 5)).grown hgrow (Nat.le_trans HB.out.size (by simp)) (fun k hk => (HR.out.lt k hk).1))
              have HR3 : Hid (w3.ownsRow w.heap.size 5 1 v' (O ++ [113]).length (Lib.byteCells (O ++ [113]))) := Lib.hid (by
                rw [byteCells_append, List.length_append]
                simpa [Lib.byteCells, hOl] using hown')
              clear hown' hgrow
              go_wp2
              go_roundw
              case rel => exact ⟨i + 1, s[i], false, O ++ [113], _, rfl, rfl, rfl, by go_num, by omega, HCQ.out, by simp; omega, HR3, HB3⟩
              case measure => simp [intOf]; omega
            | false =>
              cases h34 : (((s[i]'hlt).toNat : Int) == 34) with
              | true =>
                have HCQ : Hid (s[i] = 0 ∨ s[i] = 39 ∨ s[i] = 34) := Lib.hid (.inr (.inr (byte_is s i hlt 34 34 rfl h34)))
                go_wp2_with (at_builtin; refine wpList_append_own _ rfl _ _ 43 rfl w.heap.size 5 i0 (.int .u8 0) 1 1 Tryz.underlying43 hi0 hz0 hz1 hz2 rfl (by decide) _ _ _ rfl (HR.out.alloc _) ⟨wr.heap.size, 0, none⟩ 1 1 [.int .u8 113] rfl rfl ?a3 ?b3 ?c3 ?d3 ?e3 ?_)
                try case a3 =>
                  intro j y hj
                  match j, hj with
                  | 0, hj => simp at hj; subst hj; exact Lib.cell_of_heap (heap_alloc_new _ _) 0
                try case b3 => first | rfl | (intro y hy; simp at hy; subst hy; rfl)
                try case c3 => unfold maxLen; omega
                try case d3 => omega
                try case e3 => exact Nat.le_trans HB.out.size (by simp)
                intro v' w3 hown' hgrow _
                have HB3 := Lib.hid ((HB.out.alloc HB.out.size (.cells #[.int .u8 113] 5)).grown hgrow (Nat.le_trans HB.out.size (by simp)) (fun k hk => (HR.out.lt k hk).1))
                have HR3 : Hid (w3.ownsRow w.heap.size 5 1 v' (O ++ [113]).length (Lib.byteCells (O ++ [113]))) := Lib.hid (by
                  rw [byteCells_append, List.length_append]
                  simpa [Lib.byteCells, hOl] using hown')
                clear hown' hgrow
                go_wp2
                go_roundw
                case rel => exact ⟨i + 1, s[i], false, O ++ [113], _, rfl, rfl, rfl, by go_num, by omega, HCQ.out, by simp; omega, HR3, HB3⟩
                case measure => simp [intOf]; omega
              | false =>
                have HBl : Hid (∀ w, Calls Tryz.prog 47 #[.int .u8 ((s[i]'hlt).toNat : Int)] w fun e w' => e = .returned (.bool (s[i] == 32 || s[i] == 9)) ∧ w = w') := Lib.hid (fun w => refBlank_any s[i] w)
                cases hb : (s[i] == 32 || s[i] == 9) with
                | true =>
                  rw [hb] at HBl
                  clear hb
                  go_wp2_with fail
                  go_at_call 47
                  refine (HBl.out _).mono ?_
                  rintro e w1 ⟨rfl, rfl⟩
                  go_wp2_with (at_builtin; refine wpList_append_own _ rfl _ _ 43 rfl w.heap.size 5 i0 (.int .u8 0) 1 1 Tryz.underlying43 hi0 hz0 hz1 hz2 rfl (by decide) _ _ _ rfl (HR.out.alloc _) ⟨wr.heap.size, 0, none⟩ 1 1 [.int .u8 98] rfl rfl ?a4 ?b4 ?c4 ?d4 ?e4 ?_)
                  try case a4 =>
                    intro j y hj
                    match j, hj with
                    | 0, hj => simp at hj; subst hj; exact Lib.cell_of_heap (heap_alloc_new _ _) 0
                  try case b4 => first | rfl | (intro y hy; simp at hy; subst hy; rfl)
                  try case c4 => unfold maxLen; omega
                  try case d4 => omega
                  try case e4 => exact Nat.le_trans HB.out.size (by simp)
                  intro v' w3 hown' hgrow _
                  have HB3 := Lib.hid ((HB.out.alloc HB.out.size (.cells #[.int .u8 98] 5)).grown hgrow (Nat.le_trans HB.out.size (by simp)) (fun k hk => (HR.out.lt k hk).1))
                  have HR3 : Hid (w3.ownsRow w.heap.size 5 1 v' (O ++ [98]).length (Lib.byteCells (O ++ [98]))) := Lib.hid (by
                    rw [byteCells_append, List.length_append]
                    simpa [Lib.byteCells, hOl] using hown')
                  clear hown' hgrow
                  go_wp2
                  go_roundw
                  case rel => exact ⟨i + 1, 0, false, O ++ [98], _, rfl, rfl, rfl, by go_num, by omega, .inl rfl, by simp; omega, HR3, HB3⟩
                  case measure => simp [intOf]; omega
                | false =>
                  rw [hb] at HBl
                  clear hb
                  go_wp2_with fail
                  go_at_call 47
                  refine (HBl.out _).mono ?_
                  rintro e w1 ⟨rfl, rfl⟩
                  go_wp2_with (at_builtin; refine wpList_append_own _ rfl _ _ 43 rfl w.heap.size 5 i0 (.int .u8 0) 1 1 Tryz.underlying43 hi0 hz0 hz1 hz2 rfl (by decide) _ _ _ rfl (HR.out.alloc _) ⟨wr.heap.size, 0, none⟩ 1 1 [.int .u8 112] rfl rfl ?a5 ?b5 ?c5 ?d5 ?e5 ?_)
                  try case a5 =>
                    intro j y hj
                    match j, hj with
                    | 0, hj => simp at hj; subst hj; exact Lib.cell_of_heap (heap_alloc_new _ _) 0
                  try case b5 => first | rfl | (intro y hy; simp at hy; subst hy; rfl)
                  try case c5 => unfold maxLen; omega
                  try case d5 => omega
                  try case e5 => exact Nat.le_trans HB.out.size (by simp)
                  intro v' w3 hown' hgrow _
                  have HB3 := Lib.hid ((HB.out.alloc HB.out.size (.cells #[.int .u8 112] 5)).grown hgrow (Nat.le_trans HB.out.size (by simp)) (fun k hk => (HR.out.lt k hk).1))
                  have HR3 : Hid (w3.ownsRow w.heap.size 5 1 v' (O ++ [112]).length (Lib.byteCells (O ++ [112]))) := Lib.hid (by
                    rw [byteCells_append, List.length_append]
                    simpa [Lib.byteCells, hOl] using hown')
                  clear hown' hgrow
                  go_wp2
                  go_roundw
                  case rel => exact ⟨i + 1, 0, false, O ++ [112], _, rfl, rfl, rfl, by go_num, by omega, .inl rfl, by simp; omega, HR3, HB3⟩
                  case measure => simp [intOf]; omega
        · cases h39 : (((s[i]'hlt).toNat : Int) == 39) with
          | true =>
            have h92 : (((s[i]'hlt).toNat : Int) == 92) = false := by rw [byte_is s i hlt 39 39 rfl h39]; rfl
            go_wp2_with (at_builtin; refine wpList_append_own _ rfl _ _ 43 rfl w.heap.size 5 i0 (.int .u8 0) 1 1 Tryz.underlying43 hi0 hz0 hz1 hz2 rfl (by decide) _ _ _ rfl (HR.out.alloc _) ⟨wr.heap.size, 0, none⟩ 1 1 [.int .u8 113] rfl rfl ?a6 ?b6 ?c6 ?d6 ?e6 ?_)
            try case a6 =>
              intro j y hj
              match j, hj with
              | 0, hj => simp at hj; subst hj; exact Lib.cell_of_heap (heap_alloc_new _ _) 0
            try case b6 => first | rfl | (intro y hy; simp at hy; subst hy; rfl)
            try case c6 => unfold maxLen; omega
            try case d6 => omega
            try case e6 => exact Nat.le_trans HB.out.size (by simp)
            intro v' w3 hown' hgrow _
            have HB3 := Lib.hid ((HB.out.alloc HB.out.size (.cells #[.int .u8 113] 5)).grown hgrow (Nat.le_trans HB.out.size (by simp)) (fun k hk => (HR.out.lt k hk).1))
            have HR3 : Hid (w3.ownsRow w.heap.size 5 1 v' (O ++ [113]).length (Lib.byteCells (O ++ [113]))) := Lib.hid (by
              rw [byteCells_append, List.length_append]
              simpa [Lib.byteCells, hOl] using hown')
            clear hown' hgrow
            go_wp2
            go_roundw
            case rel => exact ⟨i + 1, 0, false, O ++ [113], _, rfl, rfl, rfl, by go_num, by omega, .inl rfl, by simp; omega, HR3, HB3⟩
            case measure => simp [intOf]; omega
          | false =>
            cases h92 : (((s[i]'hlt).toNat : Int) == 92) with
            | true =>
              go_wp2_with (at_builtin; refine wpList_append_own _ rfl _ _ 43 rfl w.heap.size 5 i0 (.int .u8 0) 1 1 Tryz.underlying43 hi0 hz0 hz1 hz2 rfl (by decide) _ _ _ rfl (HR.out.alloc _) ⟨wr.heap.size, 0, none⟩ 1 1 [.int .u8 112] rfl rfl ?a7 ?b7 ?c7 ?d7 ?e7 ?_)
              try case a7 =>
                intro j y hj
                match j, hj with
                | 0, hj => simp at hj; subst hj; exact Lib.cell_of_heap (heap_alloc_new _ _) 0
              try case b7 => first | rfl | (intro y hy; simp at hy; subst hy; rfl)
              try case c7 => unfold maxLen; omega
              try case d7 => omega
              try case e7 => exact Nat.le_trans HB.out.size (by simp)
              intro v' w3 hown' hgrow _
              have HB3 := Lib.hid ((HB.out.alloc HB.out.size (.cells #[.int .u8 112] 5)).grown hgrow (Nat.le_trans HB.out.size (by simp)) (fun k hk => (HR.out.lt k hk).1))
              have HR3 : Hid (w3.ownsRow w.heap.size 5 1 v' (O ++ [112]).length (Lib.byteCells (O ++ [112]))) := Lib.hid (by
                rw [byteCells_append, List.length_append]
                simpa [Lib.byteCells, hOl] using hown')
              clear hown' hgrow
              go_wp2
              go_roundw
              case rel => exact ⟨i + 1, 39, false, O ++ [112], _, rfl, rfl, rfl, by go_num, by omega, .inr (.inl rfl), by simp; omega, HR3, HB3⟩
              case measure => simp [intOf]; omega
            | false =>
              go_wp2_with (at_builtin; refine wpList_append_own _ rfl _ _ 43 rfl w.heap.size 5 i0 (.int .u8 0) 1 1 Tryz.underlying43 hi0 hz0 hz1 hz2 rfl (by decide) _ _ _ rfl (HR.out.alloc _) ⟨wr.heap.size, 0, none⟩ 1 1 [.int .u8 112] rfl rfl ?a8 ?b8 ?c8 ?d8 ?e8 ?_)
              try case a8 =>
                intro j y hj
                match j, hj with
                | 0, hj => simp at hj; subst hj; exact Lib.cell_of_heap (heap_alloc_new _ _) 0
              try case b8 => first | rfl | (intro y hy; simp at hy; subst hy; rfl)
              try case c8 => unfold maxLen; omega
              try case d8 => omega
              try case e8 => exact Nat.le_trans HB.out.size (by simp)
              intro v' w3 hown' hgrow _
              have HB3 := Lib.hid ((HB.out.alloc HB.out.size (.cells #[.int .u8 112] 5)).grown hgrow (Nat.le_trans HB.out.size (by simp)) (fun k hk => (HR.out.lt k hk).1))
              have HR3 : Hid (w3.ownsRow w.heap.size 5 1 v' (O ++ [112]).length (Lib.byteCells (O ++ [112]))) := Lib.hid (by
                rw [byteCells_append, List.length_append]
                simpa [Lib.byteCells, hOl] using hown')
              clear hown' hgrow
              go_wp2
              go_roundw
              case rel => exact ⟨i + 1, 39, false, O ++ [112], _, rfl, rfl, rfl, by go_num, by omega, .inr (.inl rfl), by simp; omega, HR3, HB3⟩
              case measure => simp [intOf]; omega
        · cases h92 : (((s[i]'hlt).toNat : Int) == 92) with
          | true =>
            go_wp2_with (at_builtin; refine wpList_append_own _ rfl _ _ 43 rfl w.heap.size 5 i0 (.int .u8 0) 1 1 Tryz.underlying43 hi0 hz0 hz1 hz2 rfl (by decide) _ _ _ rfl (HR.out.alloc _) ⟨wr.heap.size, 0, none⟩ 1 1 [.int .u8 115] rfl rfl ?a9 ?b9 ?c9 ?d9 ?e9 ?_)
            try case a9 =>
              intro j y hj
              match j, hj with
              | 0, hj => simp at hj; subst hj; exact Lib.cell_of_heap (heap_alloc_new _ _) 0
            try case b9 => first | rfl | (intro y hy; simp at hy; subst hy; rfl)
            try case c9 => unfold maxLen; omega
            try case d9 => omega
            try case e9 => exact Nat.le_trans HB.out.size (by simp)
            intro v' w3 hown' hgrow _
            have HB3 := Lib.hid ((HB.out.alloc HB.out.size (.cells #[.int .u8 115] 5)).grown hgrow (Nat.le_trans HB.out.size (by simp)) (fun k hk => (HR.out.lt k hk).1))
            have HR3 : Hid (w3.ownsRow w.heap.size 5 1 v' (O ++ [115]).length (Lib.byteCells (O ++ [115]))) := Lib.hid (by
              rw [byteCells_append, List.length_append]
              simpa [Lib.byteCells, hOl] using hown')
            clear hown' hgrow
            go_wp2
            go_roundw
            case rel => exact ⟨i + 1, 34, true, O ++ [115], _, rfl, rfl, rfl, by go_num, by omega, .inr (.inr rfl), by simp; omega, HR3, HB3⟩
            case measure => simp [intOf]; omega
          | false =>
            cases h34 : (((s[i]'hlt).toNat : Int) == 34) with
            | true =>
              go_wp2_with (at_builtin; refine wpList_append_own _ rfl _ _ 43 rfl w.heap.size 5 i0 (.int .u8 0) 1 1 Tryz.underlying43 hi0 hz0 hz1 hz2 rfl (by decide) _ _ _ rfl (HR.out.alloc _) ⟨wr.heap.size, 0, none⟩ 1 1 [.int .u8 113] rfl rfl ?a10 ?b10 ?c10 ?d10 ?e10 ?_)
              try case a10 =>
                intro j y hj
                match j, hj with
                | 0, hj => simp at hj; subst hj; exact Lib.cell_of_heap (heap_alloc_new _ _) 0
              try case b10 => first | rfl | (intro y hy; simp at hy; subst hy; rfl)
              try case c10 => unfold maxLen; omega
              try case d10 => omega
              try case e10 => exact Nat.le_trans HB.out.size (by simp)
              intro v' w3 hown' hgrow _
              have HB3 := Lib.hid ((HB.out.alloc HB.out.size (.cells #[.int .u8 113] 5)).grown hgrow (Nat.le_trans HB.out.size (by simp)) (fun k hk => (HR.out.lt k hk).1))
              have HR3 : Hid (w3.ownsRow w.heap.size 5 1 v' (O ++ [113]).length (Lib.byteCells (O ++ [113]))) := Lib.hid (by
                rw [byteCells_append, List.length_append]
                simpa [Lib.byteCells, hOl] using hown')
              clear hown' hgrow
              go_wp2
              go_roundw
              case rel => exact ⟨i + 1, 0, false, O ++ [113], _, rfl, rfl, rfl, by go_num, by omega, .inl rfl, by simp; omega, HR3, HB3⟩
              case measure => simp [intOf]; omega
            | false =>
              go_wp2_with (at_builtin; refine wpList_append_own _ rfl _ _ 43 rfl w.heap.size 5 i0 (.int .u8 0) 1 1 Tryz.underlying43 hi0 hz0 hz1 hz2 rfl (by decide) _ _ _ rfl (HR.out.alloc _) ⟨wr.heap.size, 0, none⟩ 1 1 [.int .u8 112] rfl rfl ?a11 ?b11 ?c11 ?d11 ?e11 ?_)
              try case a11 =>
                intro j y hj
                match j, hj with
                | 0, hj => simp at hj; subst hj; exact Lib.cell_of_heap (heap_alloc_new _ _) 0
              try case b11 => first | rfl | (intro y hy; simp at hy; subst hy; rfl)
              try case c11 => unfold maxLen; omega
              try case d11 => omega
              try case e11 => exact Nat.le_trans HB.out.size (by simp)
              intro v' w3 hown' hgrow _
              have HB3 := Lib.hid ((HB.out.alloc HB.out.size (.cells #[.int .u8 112] 5)).grown hgrow (Nat.le_trans HB.out.size (by simp)) (fun k hk => (HR.out.lt k hk).1))
              have HR3 : Hid (w3.ownsRow w.heap.size 5 1 v' (O ++ [112]).length (Lib.byteCells (O ++ [112]))) := Lib.hid (by
                rw [byteCells_append, List.length_append]
                simpa [Lib.byteCells, hOl] using hown')
              clear hown' hgrow
              go_wp2
              go_roundw
              case rel => exact ⟨i + 1, 34, false, O ++ [112], _, rfl, rfl, rfl, by go_num, by omega, .inr (.inr rfl), by simp; omega, HR3, HB3⟩
              case measure => simp [intOf]; omega
    · rcases hq with rfl | rfl | rfl
      · have hcv := conv_own HR.out
        have HOL : Hid (O.length = s.size) := Lib.hid (by omega)
        cases t with
        | true =>
          go_wp2
          go_ret2
          exact ⟨⟨O.toArray⟩, _, rfl, by show O.toArray.size = _; simp; exact HOL.out, HB.out⟩
        | false =>
          go_wp2
          go_ret2
          exact ⟨⟨O.toArray⟩, _, rfl, by show O.toArray.size = _; simp; exact HOL.out, HB.out⟩
      · have hcv := conv_own HR.out
        have HOL : Hid (O.length = s.size) := Lib.hid (by omega)
        cases t with
        | true =>
          go_wp2
          go_ret2
          exact ⟨⟨O.toArray⟩, _, rfl, by show O.toArray.size = _; simp; exact HOL.out, HB.out⟩
        | false =>
          go_wp2
          go_ret2
          exact ⟨⟨O.toArray⟩, _, rfl, by show O.toArray.size = _; simp; exact HOL.out, HB.out⟩
      · have hcv := conv_own HR.out
        have HOL : Hid (O.length = s.size) := Lib.hid (by omega)
        cases t with
        | true =>
          go_wp2
          go_ret2
          exact ⟨⟨O.toArray⟩, _, rfl, by show O.toArray.size = _; simp; exact HOL.out, HB.out⟩
        | false =>
          go_wp2
          go_ret2
          exact ⟨⟨O.toArray⟩, _, rfl, by show O.toArray.size = _; simp; exact HOL.out, HB.out⟩

/-- it ends with a text, and a number -/
def Mean4Q (w : World) (e : Ending) (w' : World) : Prop := ∃ (t : ByteArray) (n : Int), e = .returned (.tuple #[.string t, .int .i64 n]) ∧ Below w.heap.size w w'

set_option maxHeartbeats 16000000 in
set_option maxRecDepth 100000 in
theorem refMean_any (s : ByteArray) (hs : s.size ≤ 1073741824) (w : World) : Calls Tryz.prog 26 #[.string s] w (Mean4Q w) := by
  obtain ⟨i0, hi0, hz0, hz1, hz2⟩ := info_parts byteInfo
  have HK := Lib.hid (refKinds4_any s hs w)
  go_enter Tryz.func26, Tryz.ntmps26
  go_wp2_with fail
  go_at_call 48
  refine HK.out.mono ?_
  rintro e w1 ⟨kb, b, rfl, hkb, hb1⟩
  have HB1 := Lib.hid hb1
  clear hb1
  cases b with
  | true =>
    go_wp2
    go_ret2
    exact ⟨_, _, rfl, HB1.out⟩
  | false =>
    go_wp2
    go_loopw [6, 7] (fun v6 v7 wr => ∃ (i : Nat) (O : List UInt8) (v : Value), v = v6 ∧ v7 = .int .i64 i ∧ i ≤ s.size ∧ O.length ≤ i ∧ Hid (wr.ownsRow w.heap.size 5 1 v O.length (Lib.byteCells O)) ∧ Hid (Below w.heap.size w wr)) (fun _ v7 _ => s.size + 1 - (intOf v7).toNat)
    case atStart => exact ⟨0, [], _, rfl, rfl, by omega, by simp, Lib.hid ⟨rfl, .inl ⟨rfl, rfl⟩⟩, HB1⟩
    case round =>
      obtain ⟨i, O, v6, rfl, rfl, hi, hOl, HR, HB⟩ := hrel
      by_cases hlt : i < s.size
      · have hlk : i < kb.size := by omega
        cases h112 : (((kb[i]'hlk).toNat : Int) == 112) with
        | true =>
          go_wp2_with (at_builtin; refine wpList_append_own _ rfl _ _ 43 rfl w.heap.size 5 i0 (.int .u8 0) 1 1 Tryz.underlying43 hi0 hz0 hz1 hz2 rfl (by decide) _ _ _ rfl (HR.out.alloc _) ⟨wr.heap.size, 0, none⟩ 1 1 [.int .u8 ((s[i]'hlt).toNat : Int)] rfl rfl ?a13 ?b13 ?c13 ?d13 ?e13 ?_)
          try case a13 =>
            intro j y hj
            match j, hj with
            | 0, hj => simp at hj; subst hj; exact Lib.cell_of_heap (heap_alloc_new _ _) 0
          try case b13 => first | rfl | (intro y hy; simp at hy; subst hy; rfl)
          try case c13 => unfold maxLen; omega
          try case d13 => omega
          try case e13 => exact Nat.le_trans HB.out.size (by simp)
          intro v' w3 hown' hgrow _
          have HB3 := Lib.hid ((HB.out.alloc HB.out.size (.cells #[.int .u8 ((s[i]'hlt).toNat : Int)] 5)).grown hgrow (Nat.le_trans HB.out.size (by simp)) (fun k hk => (HR.out.lt k hk).1))
          have HR3 : Hid (w3.ownsRow w.heap.size 5 1 v' (O ++ [s[i]'hlt]).length (Lib.byteCells (O ++ [s[i]'hlt]))) := Lib.hid (by
            rw [byteCells_append, List.length_append]
            exact hown')
          clear hown' hgrow
          go_wp2
          go_roundw
          case rel => exact ⟨i + 1, O ++ [s[i]'hlt], _, rfl, by go_num, by omega, by simp; omega, HR3, HB3⟩
          case measure => simp [intOf]; omega
        | false =>
          cases h98 : (((kb[i]'hlk).toNat : Int) == 98) with
          | true =>
            go_wp2_with (at_builtin; refine wpList_append_own _ rfl _ _ 43 rfl w.heap.size 5 i0 (.int .u8 0) 1 1 Tryz.underlying43 hi0 hz0 hz1 hz2 rfl (by decide) _ _ _ rfl (HR.out.alloc _) ⟨wr.heap.size, 0, none⟩ 1 1 [.int .u8 ((s[i]'hlt).toNat : Int)] rfl rfl ?a14 ?b14 ?c14 ?d14 ?e14 ?_)
            try case a14 =>
              intro j y hj
              match j, hj with
              | 0, hj => simp at hj; subst hj; exact Lib.cell_of_heap (heap_alloc_new _ _) 0
            try case b14 => first | rfl | (intro y hy; simp at hy; subst hy; rfl)
            try case c14 => unfold maxLen; omega
            try case d14 => omega
            try case e14 => exact Nat.le_trans HB.out.size (by simp)
            intro v' w3 hown' hgrow _
            have HB3 := Lib.hid ((HB.out.alloc HB.out.size (.cells #[.int .u8 ((s[i]'hlt).toNat : Int)] 5)).grown hgrow (Nat.le_trans HB.out.size (by simp)) (fun k hk => (HR.out.lt k hk).1))
            have HR3 : Hid (w3.ownsRow w.heap.size 5 1 v' (O ++ [s[i]'hlt]).length (Lib.byteCells (O ++ [s[i]'hlt]))) := Lib.hid (by
              rw [byteCells_append, List.length_append]
              exact hown')
            clear hown' hgrow
            go_wp2
            go_roundw
            case rel => exact ⟨i + 1, O ++ [s[i]'hlt], _, rfl, by go_num, by omega, by simp; omega, HR3, HB3⟩
            case measure => simp [intOf]; omega
          | false =>
            go_wp2
            go_roundw
            case rel => exact ⟨i + 1, O, _, rfl, by go_num, by omega, by omega, HR, HB⟩
            case measure => simp [intOf]; omega
      · have hcv := conv_own HR.out
        go_wp2
        go_ret2
        exact ⟨_, _, rfl, HB.out⟩
end Go.Proofs.YtmagggflamdahaaGreatDoor

namespace Go.Proofs.YtmagggflamdahaaGreatDoor
open Go.RowKit

/-- the operators -/
def opList : List (List UInt8) := [[59], [38], [124], [60], [62], [38, 38], [124, 124], [62, 62]]
theorem toks_ops : ∀ (m : Nat) (l : List UInt8), l.length ≤ m → ∀ L, toksS l = some L → ∀ t ∈ L, t ≠ [] ∧ (flagT t = true → t ∈ opList)
  | _, [], _, L, hL, t, ht => by
    rw [toksS_none [] rfl] at hL
    injection hL with hL
    subst hL
    cases ht
  | 0, c :: r, h, _, _, _, _ => by simp at h
  | m + 1, c :: r, h, L, hL, t, ht => by
    have hrl : r.length ≤ m := by simpa using h
    cases hb : blankB c with
    | true =>
      rw [toksS_bl c r hb] at hL
      exact toks_ops m r hrl L hL t ht
    | false =>
      have hd : (c :: r).dropWhile blankB = c :: r := by rw [List.dropWhile_cons, hb]; simp
      rw [toksS_cons _ c r hd] at hL
      cases ho : opB c with
      | true =>
        rw [tokS_op c r ho] at hL
        have hc : c = 59 ∨ c = 38 ∨ c = 124 ∨ c = 60 ∨ c = 62 := by simpa [opB] using ho
        by_cases h2 : (r.head? == some c && twiceB c) = true
        · rw [if_pos h2] at hL
          cases r with
          | nil => simp at h2
          | cons d r =>
            have hdc : d = c ∧ twiceB c = true := by simpa using h2
            obtain ⟨rfl, ht2⟩ := hdc
            simp only [List.drop_succ_cons, List.drop_zero, List.take_succ_cons, List.take_zero] at hL
            obtain ⟨L', h3, rfl⟩ := Option.map_eq_some_iff.1 hL
            rcases List.mem_cons.1 ht with rfl | ht
            · refine ⟨by simp, fun _ => ?_⟩
              rcases hc with rfl | rfl | rfl | rfl | rfl
              · cases ht2
              · decide
              · decide
              · cases ht2
              · decide
            · exact toks_ops m r (by simp at hrl; omega) L' h3 t ht
        · rw [if_neg h2] at hL
          simp only [List.drop_succ_cons, List.drop_zero, List.take_succ_cons, List.take_zero] at hL
          obtain ⟨L', h3, rfl⟩ := Option.map_eq_some_iff.1 hL
          rcases List.mem_cons.1 ht with rfl | ht
          · refine ⟨by simp, fun _ => ?_⟩
            rcases hc with rfl | rfl | rfl | rfl | rfl <;> decide
          · exact toks_ops m r hrl L' h3 t ht
      | false =>
        rw [tokS_word c r ho] at hL
        cases hww : wordS (c :: r) with
        | none => rw [hww] at hL; cases hL
        | some n =>
          rw [hww] at hL
          have hn : 1 ≤ n := tokS_pos c r n hb (by rw [tokS_word c r ho]; exact hww)
          obtain ⟨k, rfl⟩ : ∃ k, n = k + 1 := ⟨n - 1, by omega⟩
          obtain ⟨L', h3, rfl⟩ := Option.map_eq_some_iff.1 hL
          rcases List.mem_cons.1 ht with rfl | ht
          · refine ⟨by simp, fun hf => ?_⟩
            change opB c = true at hf
            rw [ho] at hf
            cases hf
          · exact toks_ops m _ (by rw [List.length_drop]; simp at h ⊢; omega) L' h3 t ht

/-- the error of what is read -/
def errX : Except Nat (List PCmd) → Nat
  | .error n => n
  | .ok _ => 0
def errL (L : List (List UInt8)) : Nat := if L = [] then 0 else errX (readGo L [] (PCmd.fresh []) false)
theorem errS_toks (l : List UInt8) (hl : l.length ≤ 65536) : errS l = match toksS l with | none => 4 | some L => errL L := by
  unfold errS readS
  rw [if_neg (by omega)]
  cases toksS l with
  | none => rfl
  | some L =>
    cases L with
    | nil => rfl
    | cons t r =>
      show _ = errL (t :: r)
      unfold errL
      rw [if_neg (List.cons_ne_nil _ _)]
      rfl

def wZero (w : World) (b : Nat) : World :=
  ((((((w.setCell ⟨b, 0, none⟩ (.string ⟨#[]⟩)).setCell ⟨b, 1, none⟩ (.slice none 0 0)).setCell ⟨b, 2, none⟩ (.string ⟨#[]⟩)).setCell ⟨b, 3, none⟩ (.string ⟨#[]⟩)).setCell ⟨b, 4, none⟩ (.bool false)).setCell ⟨b, 5, none⟩ (.bool false)).setCell ⟨b, 6, none⟩ (.bool false)
theorem wZero_heap {w : World} {b : Nat} {a0 a1 a2 a3 a4 a5 a6 : Value} {T : TypeId} {fr : Nat × Nat} (h : w.heap[b]? = some (.cells #[a0, a1, a2, a3, a4, a5, a6] T fr)) :
    (wZero w b).heap[b]? = some (.cells #[.string ⟨#[]⟩, .slice none 0 0, .string ⟨#[]⟩, .string ⟨#[]⟩, .bool false, .bool false, .bool false] T fr) := by
  have h0 : (w.setCell ⟨b, 0, none⟩ (.string ⟨#[]⟩)).heap[b]? = some (.cells #[.string ⟨#[]⟩, a1, a2, a3, a4, a5, a6] T fr) := heap_set h 0 _
  have h1 : ((w.setCell ⟨b, 0, none⟩ (.string ⟨#[]⟩)).setCell ⟨b, 1, none⟩ (.slice none 0 0)).heap[b]? = some (.cells #[.string ⟨#[]⟩, .slice none 0 0, a2, a3, a4, a5, a6] T fr) := heap_set h0 1 _
  have h2 : (((w.setCell ⟨b, 0, none⟩ (.string ⟨#[]⟩)).setCell ⟨b, 1, none⟩ (.slice none 0 0)).setCell ⟨b, 2, none⟩ (.string ⟨#[]⟩)).heap[b]? = some (.cells #[.string ⟨#[]⟩, .slice none 0 0, .string ⟨#[]⟩, a3, a4, a5, a6] T fr) := heap_set h1 2 _
  have h3 : ((((w.setCell ⟨b, 0, none⟩ (.string ⟨#[]⟩)).setCell ⟨b, 1, none⟩ (.slice none 0 0)).setCell ⟨b, 2, none⟩ (.string ⟨#[]⟩)).setCell ⟨b, 3, none⟩ (.string ⟨#[]⟩)).heap[b]? = some (.cells #[.string ⟨#[]⟩, .slice none 0 0, .string ⟨#[]⟩, .string ⟨#[]⟩, a4, a5, a6] T fr) := heap_set h2 3 _
  have h4 : (((((w.setCell ⟨b, 0, none⟩ (.string ⟨#[]⟩)).setCell ⟨b, 1, none⟩ (.slice none 0 0)).setCell ⟨b, 2, none⟩ (.string ⟨#[]⟩)).setCell ⟨b, 3, none⟩ (.string ⟨#[]⟩)).setCell ⟨b, 4, none⟩ (.bool false)).heap[b]? = some (.cells #[.string ⟨#[]⟩, .slice none 0 0, .string ⟨#[]⟩, .string ⟨#[]⟩, .bool false, a5, a6] T fr) := heap_set h3 4 _
  have h5 : ((((((w.setCell ⟨b, 0, none⟩ (.string ⟨#[]⟩)).setCell ⟨b, 1, none⟩ (.slice none 0 0)).setCell ⟨b, 2, none⟩ (.string ⟨#[]⟩)).setCell ⟨b, 3, none⟩ (.string ⟨#[]⟩)).setCell ⟨b, 4, none⟩ (.bool false)).setCell ⟨b, 5, none⟩ (.bool false)).heap[b]? = some (.cells #[.string ⟨#[]⟩, .slice none 0 0, .string ⟨#[]⟩, .string ⟨#[]⟩, .bool false, .bool false, a6] T fr) := heap_set h4 5 _
  have h6 : (((((((w.setCell ⟨b, 0, none⟩ (.string ⟨#[]⟩)).setCell ⟨b, 1, none⟩ (.slice none 0 0)).setCell ⟨b, 2, none⟩ (.string ⟨#[]⟩)).setCell ⟨b, 3, none⟩ (.string ⟨#[]⟩)).setCell ⟨b, 4, none⟩ (.bool false)).setCell ⟨b, 5, none⟩ (.bool false)).setCell ⟨b, 6, none⟩ (.bool false)).heap[b]? = some (.cells #[.string ⟨#[]⟩, .slice none 0 0, .string ⟨#[]⟩, .string ⟨#[]⟩, .bool false, .bool false, .bool false] T fr) := heap_set h5 6 _
  exact h6
theorem wZero_other (w : World) (b k : Nat) (h : k ≠ b) : (wZero w b).heap[k]? = w.heap[k]? := by
  unfold wZero
  rw [Below.heap_setCell _ _ _ _ h, Below.heap_setCell _ _ _ _ h, Below.heap_setCell _ _ _ _ h, Below.heap_setCell _ _ _ _ h, Below.heap_setCell _ _ _ _ h, Below.heap_setCell _ _ _ _ h, Below.heap_setCell _ _ _ _ h]
theorem wZero_size (w : World) (b : Nat) : (wZero w b).heap.size = w.heap.size := by simp [wZero, World.setCell]
theorem wZero_below {B : Nat} {a w : World} (h : Below B a w) {b : Nat} (hb : B ≤ b) : Below B a (wZero w b) :=
  ((((((h.setCell (p := ⟨b, 0, none⟩) hb _).setCell (p := ⟨b, 1, none⟩) hb _).setCell (p := ⟨b, 2, none⟩) hb _).setCell (p := ⟨b, 3, none⟩) hb _).setCell (p := ⟨b, 4, none⟩) hb _).setCell (p := ⟨b, 5, none⟩) hb _).setCell (p := ⟨b, 6, none⟩) hb _

/-- the command in the making lies at b0; what is read lies in a row of its own -/
structure RdB (b0 : Nat) (w2 : World) (op : List UInt8) (out : Value) (m : Nat) (w : World) : Prop where
  box : ∃ (aw : Option Addr) (nw cw : Nat) (x2 x3 : ByteArray) (b4 b5 b6 : Bool) (xw : List Value), w.heap[b0]? = some (.cells #[.string ⟨op.toArray⟩, .slice aw nw cw, .string x2, .string x3, .bool b4, .bool b5, .bool b6] 66 (0, 0)) ∧ nw ≤ m ∧ w.ownsRow (b0 + 1) 9 1 (.slice aw nw cw) nw xw
  row : ∃ (no : Nat) (xo : List Value), no ≤ m ∧ w.ownsRow (b0 + 1) 66 7 out no xo
  below : Below b0 w2 w
  size : b0 + 1 ≤ w.heap.size
theorem RdB.setOp {b0 m : Nat} {w2 w : World} {op : List UInt8} {out : Value} (h : RdB b0 w2 op out m w) (op2 : List UInt8) : RdB b0 w2 op2 out m (w.setCell ⟨b0, 0, none⟩ (.string ⟨op2.toArray⟩)) := by
  obtain ⟨⟨aw, nw, cw, x2, x3, b4, b5, b6, xw, hbox, hnw, hwords⟩, ⟨no, xo, hno, hout⟩, hbel, hsz⟩ := h
  have hk : ∀ k, b0 + 1 ≤ k → (w.setCell ⟨b0, 0, none⟩ (.string ⟨op2.toArray⟩)).heap[k]? = w.heap[k]? := fun k hk => Below.heap_setCell w ⟨b0, 0, none⟩ _ k (by show k ≠ b0; omega)
  exact ⟨⟨aw, nw, cw, x2, x3, b4, b5, b6, xw, heap_set hbox 0 _, hnw, ownsRow_heap hwords (fun k h => hk k (hwords.lt k h).1)⟩, ⟨no, xo, hno, ownsRow_heap hout (fun k h => hk k (hout.lt k h).1)⟩, hbel.setCell (show b0 ≤ (⟨b0, 0, none⟩ : Addr).block from Nat.le_refl _) _, by simpa [World.setCell] using hsz⟩
theorem RdB.more {b0 m m' : Nat} {w2 w : World} {op : List UInt8} {out : Value} (h : RdB b0 w2 op out m w) (hm : m ≤ m') : RdB b0 w2 op out m' w := by
  obtain ⟨⟨aw, nw, cw, x2, x3, b4, b5, b6, xw, hbox, hnw, hwords⟩, ⟨no, xo, hno, hout⟩, hbel, hsz⟩ := h
  exact ⟨⟨aw, nw, cw, x2, x3, b4, b5, b6, xw, hbox, by omega, hwords⟩, ⟨no, xo, by omega, hout⟩, hbel, hsz⟩
theorem RdB.below' {b0 m : Nat} {w2 w w' : World} {op : List UInt8} {out : Value} (h : RdB b0 w2 op out m w) (hb : Below w.heap.size w w') : RdB b0 w2 op out m w' := by
  obtain ⟨⟨aw, nw, cw, x2, x3, b4, b5, b6, xw, hbox, hnw, hwords⟩, ⟨no, xo, hno, hout⟩, hbel, hsz⟩ := h
  exact ⟨⟨aw, nw, cw, x2, x3, b4, b5, b6, xw, (hb.block b0 (by omega)).trans hbox, hnw, ownsRow_heap hwords (fun k h => hb.block k (hwords.lt k h).2)⟩, ⟨no, xo, hno, ownsRow_heap hout (fun k h => hb.block k (hout.lt k h).2)⟩, hbel.trans (hb.mono (by omega)), Nat.le_trans hsz hb.size⟩
theorem RdB.setAt {b0 m : Nat} {w2 w : World} {op : List UInt8} {out : Value} (h : RdB b0 w2 op out m w) (o : Nat) (u : Value)
    (hu : (o = 2 ∧ ∃ x, u = .string x) ∨ (o = 3 ∧ ∃ x, u = .string x) ∨ (o = 4 ∧ ∃ x, u = .bool x) ∨ (o = 5 ∧ ∃ x, u = .bool x) ∨ (o = 6 ∧ ∃ x, u = .bool x)) : RdB b0 w2 op out m (w.setCell ⟨b0, o, none⟩ u) := by
  obtain ⟨⟨aw, nw, cw, x2, x3, b4, b5, b6, xw, hbox, hnw, hwords⟩, ⟨no, xo, hno, hout⟩, hbel, hsz⟩ := h
  have hk : ∀ k, b0 + 1 ≤ k → (w.setCell ⟨b0, o, none⟩ u).heap[k]? = w.heap[k]? := fun k hk => Below.heap_setCell w ⟨b0, o, none⟩ _ k (by show k ≠ b0; omega)
  refine ⟨?_, ⟨no, xo, hno, ownsRow_heap hout (fun k h => hk k (hout.lt k h).1)⟩, hbel.setCell (show b0 ≤ (⟨b0, o, none⟩ : Addr).block from Nat.le_refl _) _, by simpa [World.setCell] using hsz⟩
  have hw' := ownsRow_heap hwords (fun k h => hk k (hwords.lt k h).1)
  rcases hu with ⟨rfl, x, rfl⟩ | ⟨rfl, x, rfl⟩ | ⟨rfl, x, rfl⟩ | ⟨rfl, x, rfl⟩ | ⟨rfl, x, rfl⟩
  · exact ⟨aw, nw, cw, x, x3, b4, b5, b6, xw, heap_set hbox 2 _, hnw, hw'⟩
  · exact ⟨aw, nw, cw, x2, x, b4, b5, b6, xw, heap_set hbox 3 _, hnw, hw'⟩
  · exact ⟨aw, nw, cw, x2, x3, x, b5, b6, xw, heap_set hbox 4 _, hnw, hw'⟩
  · exact ⟨aw, nw, cw, x2, x3, b4, x, b6, xw, heap_set hbox 5 _, hnw, hw'⟩
  · exact ⟨aw, nw, cw, x2, x3, b4, b5, x, xw, heap_set hbox 6 _, hnw, hw'⟩
theorem RdB.push {b0 i nw cw no' : Nat} {aw a' : Option Addr} {c' : Nat} {w2 w3 w4 : World} {op : List UInt8} {vo : Value} {x2 x3 m : ByteArray} {b4 b5 b6 : Bool} {xw : List Value} (h : RdB b0 w2 op vo i w3)
    (hbox : w3.heap[b0]? = some (.cells #[.string ⟨op.toArray⟩, .slice aw nw cw, .string x2, .string x3, .bool b4, .bool b5, .bool b6] 66 (0, 0))) (hw : w3.ownsRow (b0 + 1) 9 1 (.slice aw nw cw) nw xw) (hn : nw ≤ i)
    (hown : w4.ownsRow (b0 + 1) 9 1 (.slice a' no' c') no' (xw ++ [.string m])) (hno : no' = nw + 1) (hg : (w3.alloc (.cells #[.string m] 9)).grownBy w4 (Value.slice aw nw cw).ownBlock) :
    RdB b0 w2 op vo (i + 1) (w4.setCell ⟨b0, 1, none⟩ (.slice a' no' c')) := by
  obtain ⟨_, ⟨no, xo, hno2, hout⟩, hbel, hsz⟩ := h
  have hx4 : w4.heap[b0]? = _ := (hg.block b0 (by simp; omega) (fun e => by have := (hw.lt b0 e.symm).1; omega)).trans ((Below.heap_alloc w3 _ b0 (by omega)).trans hbox)
  have hk : ∀ k, b0 + 1 ≤ k → (w4.setCell ⟨b0, 1, none⟩ (.slice a' no' c')).heap[k]? = w4.heap[k]? := fun k hk => Below.heap_setCell w4 ⟨b0, 1, none⟩ _ k (by show k ≠ b0; omega)
  have hout4 : w4.ownsRow (b0 + 1) 66 7 vo no xo := (hout.alloc _).kept hg (apart_rows hout hw (by decide))
  exact ⟨⟨a', no', c', x2, x3, b4, b5, b6, xw ++ [.string m], heap_set hx4 1 _, by omega, ownsRow_heap hown (fun k h => hk k (hown.lt k h).1)⟩, ⟨no, xo, by omega, ownsRow_heap hout4 (fun k h => hk k (hout4.lt k h).1)⟩,
    ((hbel.alloc (by omega) _).grown hg (by simp; omega) (fun k h => by have := (hw.lt k h).1; omega)).setCell (show b0 ≤ (⟨b0, 1, none⟩ : Addr).block from Nat.le_refl _) _, by have := hg.size; simp [World.setCell] at this ⊢; omega⟩
theorem rcmdInfo : (Tryz.prog.info? 66).map (fun i => (i.zero, i.size, i.bytes)) = some (some (.agg #[.string ⟨#[]⟩, .slice none 0 0, .string ⟨#[]⟩, .string ⟨#[]⟩, .bool false, .bool false, .bool false]), 7, 80) := by kernel_rfl
end Go.Proofs.YtmagggflamdahaaGreatDoor

namespace Go.Proofs.YtmagggflamdahaaGreatDoor
open Go.RowKit

/-- how far a line is read -/
structure RdE (L : List (List UInt8)) (i : Nat) (form some : Bool) (op : List UInt8) : Prop where
  none : i ≤ L.length → L = [] → form = false ∧ some = false
  here : i ≤ L.length → L ≠ [] → ∃ cmds c, c.any = some ∧ c.op = op ∧ errX (readGo L [] (PCmd.fresh []) false) = errX (readGo (L.drop i) cmds c form)
  done : i = L.length + 1 → errL L = if form then 3 else 0
theorem drop_get {L : List (List UInt8)} {i : Nat} {t : List UInt8} (h : L[i]? = Option.some t) : L.drop i = t :: L.drop (i + 1) := by
  have hi : i < L.length := (List.getElem?_eq_some_iff.1 h).1
  rw [List.drop_eq_getElem_cons hi]
  congr 1
  rw [List.getElem?_eq_getElem hi] at h
  exact Option.some.inj h
theorem RdE.start (L : List (List UInt8)) : RdE L 0 false false [] :=
  ⟨fun _ _ => ⟨rfl, rfl⟩, fun _ _ => ⟨[], PCmd.fresh [], rfl, rfl, rfl⟩, fun h => by omega⟩
section
variable {L : List (List UInt8)} {i : Nat} {form some : Bool} {op t : List UInt8}
theorem get_ne (ht : L[i]? = Option.some t) : L ≠ [] := by rintro rfl; simp at ht
theorem get_lt (ht : L[i]? = Option.some t) : i < L.length := (List.getElem?_eq_some_iff.1 ht).1
theorem RdE.sep (h : RdE L i form some op) (ht : L[i]? = Option.some t) (hs : t = [59] ∨ t = [38, 38] ∨ t = [124, 124]) : RdE L (i + 1) (form || !some) false t := by
  have hi := get_lt ht
  refine ⟨fun _ e => absurd e (get_ne ht), fun _ hne => ?_, fun e => by omega⟩
  obtain ⟨cmds, c, h1, h2, h3⟩ := h.here (by omega) hne
  rw [drop_get ht, readGo_sep t _ _ _ _ hs] at h3
  refine ⟨(nextS t cmds c form).1, PCmd.fresh t, rfl, rfl, ?_⟩
  rw [h3]
  have : (nextS t cmds c form).2 = (form || !some) := by
    unfold nextS
    have htn : t ≠ [] := by rcases hs with rfl | rfl | rfl <;> simp
    rw [h1]
    cases some with
    | true => simp
    | false => simp [htn]
  rw [this]
theorem RdE.amp (h : RdE L i form some op) (ht : L[i]? = Option.some t) (hs : t = [38] ∨ t = [124]) : RdE L (i + 1) true some op := by
  have hi := get_lt ht
  refine ⟨fun _ e => absurd e (get_ne ht), fun _ hne => ?_, fun e => by omega⟩
  obtain ⟨cmds, c, h1, h2, h3⟩ := h.here (by omega) hne
  rw [drop_get ht, readGo_bad t _ _ _ _ hs] at h3
  exact ⟨_, c, h1, h2, h3⟩
theorem RdE.word (h : RdE L i form some op) (ht : L[i]? = Option.some t) (hf : flagT t = false) : RdE L (i + 1) form true op := by
  have hi := get_lt ht
  refine ⟨fun _ e => absurd e (get_ne ht), fun _ hne => ?_, fun e => by omega⟩
  obtain ⟨cmds, c, h1, h2, h3⟩ := h.here (by omega) hne
  have hw : ∀ o, flagT o = true → t ≠ o := by rintro o ho rfl; rw [hf] at ho; cases ho
  rw [drop_get ht, readGo_word t _ _ _ _ (hw _ rfl) (hw _ rfl) (hw _ rfl) (hw _ rfl) (hw _ rfl) (hw _ rfl) (hw _ rfl) (hw _ rfl)] at h3
  exact ⟨cmds, { c with words := c.words ++ [meanW t] }, by simp [PCmd.any], h2, h3⟩
theorem RdE.redirBad (h : RdE L i form some op) (ht : L[i]? = Option.some t) (hs : t = [60] ∨ t = [62] ∨ t = [62, 62]) (hb : i + 1 = L.length ∨ ∃ u, L[i + 1]? = Option.some u ∧ flagT u = true ∧ u ≠ []) : errL L = 4 := by
  have hi := get_lt ht
  have hne := get_ne ht
  obtain ⟨cmds, c, h1, h2, h3⟩ := h.here (by omega) hne
  unfold errL
  rw [if_neg hne, h3, drop_get ht]
  rcases hb with e | ⟨u, hu, hf, hun⟩
  · rw [List.drop_of_length_le (by omega), readGo_end t _ _ _ hs]
    rfl
  · rw [drop_get hu, readGo_op t u _ _ _ _ hs ?_]
    · rfl
    · cases u with
      | nil => exact absurd rfl hun
      | cons d u => exact hf
theorem RdE.redir (h : RdE L i form some op) (ht : L[i]? = Option.some t) (hs : t = [60] ∨ t = [62] ∨ t = [62, 62]) {u : List UInt8} (hu : L[i + 1]? = Option.some u) (hf : flagT u = false) (hun : u ≠ []) : RdE L (i + 2) form true op := by
  have hi := get_lt hu
  refine ⟨fun _ e => absurd e (get_ne ht), fun _ hne => ?_, fun e => by omega⟩
  obtain ⟨cmds, c, h1, h2, h3⟩ := h.here (by omega) hne
  have ho : opB (u.getD 0 0) = false := by
    cases u with
    | nil => exact absurd rfl hun
    | cons d u => exact hf
  rw [drop_get ht, drop_get hu] at h3
  rcases hs with rfl | hs
  · rw [readGo_in _ _ _ _ _ ho] at h3
    exact ⟨cmds, { c with inn := Option.some (meanW u) }, by simp [PCmd.any], h2, h3⟩
  · rw [readGo_out _ _ _ _ _ _ hs ho] at h3
    exact ⟨cmds, { c with out := Option.some (meanW u), add := t == [62, 62] }, by simp [PCmd.any], h2, h3⟩
theorem RdE.finish (h : RdE L L.length form some op) : RdE L (L.length + 1) (form || (!some && !(op == [59] || L.isEmpty))) false [] := by
  refine ⟨fun e => by omega, fun e => by omega, fun _ => ?_⟩
  by_cases hne : L = []
  · obtain ⟨rfl, rfl⟩ := h.none (Nat.le_refl _) hne
    subst hne
    simp [errL]
  · obtain ⟨cmds, c, h1, h2, h3⟩ := h.here (Nat.le_refl _) hne
    unfold errL
    rw [if_neg hne, h3, List.drop_of_length_le (Nat.le_refl _)]
    have hem : L.isEmpty = false := by cases L with | nil => exact absurd rfl hne | cons _ _ => rfl
    rw [hem, Bool.or_false]
    have : (nextS [] cmds c form).2 = (form || (!some && !(op == [59]))) := by
      unfold nextS
      rw [h1, h2]
      cases some with
      | true => simp
      | false =>
        by_cases ho : op = [59]
        · simp [ho]
        · simp [ho]
    simp only [readGo, this]
    cases (form || (!some && !(op == [59]))) <;> rfl
end
theorem toks_count : ∀ (m : Nat) (l : List UInt8), l.length ≤ m → ∀ L, toksS l = some L → L.length ≤ l.length
  | _, [], _, L, hL => by
    rw [toksS_none [] rfl] at hL
    injection hL with hL
    subst hL
    simp
  | 0, c :: r, h, _, _ => by simp at h
  | m + 1, c :: r, h, L, hL => by
    have hrl : r.length ≤ m := by simpa using h
    cases hb : blankB c with
    | true =>
      rw [toksS_bl c r hb] at hL
      have := toks_count m r hrl L hL
      simp only [List.length_cons]
      omega
    | false =>
      have hd : (c :: r).dropWhile blankB = c :: r := by rw [List.dropWhile_cons, hb]; simp
      rw [toksS_cons _ c r hd] at hL
      cases ht : tokS (c :: r) with
      | none => rw [ht] at hL; cases hL
      | some n =>
        rw [ht] at hL
        have hn := tokS_pos c r n hb ht
        obtain ⟨L', h3, rfl⟩ := Option.map_eq_some_iff.1 hL
        have := toks_count m _ (by rw [List.length_drop]; simp only [List.length_cons] at h ⊢; omega) L' h3
        rw [List.length_drop] at this
        simp only [List.length_cons] at this ⊢
        omega
theorem not_whole {q : UInt8} {t : Bool} (h : (q, t) ≠ (0, false)) : (q == 0 && !t) = false := by
  cases t with
  | true => simp
  | false =>
    have : q ≠ 0 := fun e => h (by rw [e])
    simp [this]
end Go.Proofs.YtmagggflamdahaaGreatDoor
