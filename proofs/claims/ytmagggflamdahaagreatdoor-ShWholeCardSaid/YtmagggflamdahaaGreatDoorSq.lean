/- bobstayref17.kinds. Printed by wip/genkinds.py. The document's kinds of bytes, and the words of sh. bobstayref17.tokens. Printed by wip/gentokens.py. -/
import Derived.Test.YtmagggflamdahaaGreatDoorSp
namespace Go.Proofs.YtmagggflamdahaaGreatDoor
open Go.RowKit

/-- what a byte is, and what quote is open behind it, and whether the next one is taken -/
def kStep (q : UInt8) (t : Bool) (c : UInt8) : UInt8 × UInt8 × Bool :=
  if t then (112, q, false)
  else if c == 92 && q != 39 then (112, q, true)
  else if q != 0 && c == q then (112, 0, false)
  else if q == 0 && (c == 39 || c == 34) then (112, c, false)
  else if q == 0 && blankB c then (98, q, false)
  else if q == 0 && opB c then (111, q, false)
  else (112, q, false)
def kindsS (q : UInt8) (t : Bool) : List UInt8 → List UInt8 × UInt8 × Bool
  | [] => ([], q, t)
  | c :: r => ((kStep q t c).1 :: (kindsS (kStep q t c).2.1 (kStep q t c).2.2 r).1, (kindsS (kStep q t c).2.1 (kStep q t c).2.2 r).2)
theorem kindsS_step {q : UInt8} {t : Bool} (c : UInt8) (r : List UInt8) (k q2 : UInt8) (t2 : Bool) (h : kStep q t c = (k, q2, t2)) : kindsS q t (c :: r) = (k :: (kindsS q2 t2 r).1, (kindsS q2 t2 r).2) := by
  show ((kStep q t c).1 :: (kindsS (kStep q t c).2.1 (kStep q t c).2.2 r).1, (kindsS (kStep q t c).2.1 (kStep q t c).2.2 r).2) = _
  rw [h]
theorem kindsS_len (q : UInt8) (t : Bool) (l : List UInt8) : (kindsS q t l).1.length = l.length := by
  induction l generalizing q t with
  | nil => rfl
  | cons c r ih => simp [kindsS, ih]
theorem byte_is (s : ByteArray) (i : Nat) (p : i < s.size) (c : UInt8) (n : Int) (hn : n = (c.toNat : Int)) (h : (((s[i]'p).toNat : Int) == n) = true) : s[i]'p = c := by
  rw [hn, beq_iff_eq] at h
  exact UInt8.toNat_inj.1 (Int.ofNat_inj.1 h)
theorem byte_not (s : ByteArray) (i : Nat) (p : i < s.size) (c : UInt8) (n : Int) (hn : n = (c.toNat : Int)) (h : (((s[i]'p).toNat : Int) == n) = false) : s[i]'p ≠ c := by
  intro e
  rw [e, hn] at h
  simp at h
theorem blank_two (c : UInt8) : blankB c = (c == 32 || c == 9) := by unfold blankB; simp only [List.contains_cons, List.contains_nil, Bool.or_false]
theorem op_none (c : UInt8) (h1 : c ≠ 59) (h2 : c ≠ 38) (h3 : c ≠ 124) (h4 : c ≠ 60) (h5 : c ≠ 62) : opB c = false := by simp [opB, h1, h2, h3, h4, h5]
theorem kStep_bare (c : UInt8) (h1 : c ≠ 92) (h2 : c ≠ 39) (h3 : c ≠ 34) : kStep 0 false c = if blankB c = true then (98, 0, false) else if opB c = true then (111, 0, false) else (112, 0, false) := by
  simp [kStep, h1, h2, h3]
theorem kStep_sq (c : UInt8) (h : c ≠ 39) : kStep 39 false c = (112, 39, false) := by simp [kStep, h]
theorem kStep_dq (c : UInt8) (h1 : c ≠ 92) (h2 : c ≠ 34) : kStep 34 false c = (112, 34, false) := by simp [kStep, h1, h2]

set_option maxHeartbeats 16000000 in
set_option maxRecDepth 100000 in
theorem refKinds_any (s : ByteArray) (hs : s.size ≤ 1073741824) (w : World) :
    Calls Tryz.prog 24 #[.string s] w fun e w' => e = .returned (.tuple #[.string ⟨(kindsS 0 false s.data.toList).1.toArray⟩, .bool ((kindsS 0 false s.data.toList).2.1 == 0 && !(kindsS 0 false s.data.toList).2.2)]) ∧ Below w.heap.size w w' := by
  obtain ⟨i0, hi0, hz0, hz1, hz2⟩ := info_parts byteInfo
  have hsl : s.data.toList.length = s.size := by simp
  go_enter Tryz.func24, Tryz.ntmps24
  go_wp2
  go_loopw [4, 5, 6, 7] (fun v4 v5 v6 v7 wr => ∃ (i : Nat) (q : UInt8) (t : Bool) (O : List UInt8) (v : Value), v = v4 ∧ v5 = .int .u8 (q.toNat : Int) ∧ v6 = .bool t ∧ v7 = .int .i64 i ∧ i ≤ s.size ∧ (q = 0 ∨ q = 39 ∨ q = 34) ∧ O.length = i ∧
      Hid (kindsS 0 false s.data.toList = (O ++ (kindsS q t (s.data.toList.drop i)).1, (kindsS q t (s.data.toList.drop i)).2)) ∧ Hid (wr.ownsRow w.heap.size 5 1 v O.length (Lib.byteCells O)) ∧ Hid (Below w.heap.size w wr)) (fun _ _ _ v7 _ => s.size + 1 - (intOf v7).toNat)
  case atStart => exact ⟨0, 0, false, [], _, rfl, rfl, rfl, rfl, by omega, .inl rfl, rfl, Lib.hid rfl, Lib.hid ⟨rfl, .inl ⟨rfl, rfl⟩⟩, Lib.hid (Below.refl _ _)⟩
  case round =>
    obtain ⟨i, q, t, O, v4, rfl, rfl, rfl, rfl, hi, hq, hOl, HK, HR, HB⟩ := hrel
    by_cases hlt : i < s.size
    · cases t with
      | true =>
        have HS : Hid (kStep q true s[i] = (112, q, false)) := Lib.hid (by rfl)
        go_wp2_with (at_builtin; refine wpList_append_own _ rfl _ _ 43 rfl w.heap.size 5 i0 (.int .u8 0) 1 1 Tryz.underlying43 hi0 hz0 hz1 hz2 rfl (by decide) _ _ _ rfl (HR.out.alloc _) ⟨wr.heap.size, 0, none⟩ 1 1 [.int .u8 112] rfl rfl ?a1 ?b1 ?c1 ?d1 ?e1 ?_)
        try case a1 =>
          intro j y hj
          match j, hj with
          | 0, hj => simp at hj; subst hj; simp [Addr.add]
        try case b1 =>
          intro y hy
          simp only [List.mem_cons, List.not_mem_nil, or_false] at hy
          subst hy
          rfl
        try case c1 => unfold maxLen; omega
        try case d1 => omega
        try case e1 => have := HB.out.size; simp; omega
        intro v' w3 hown' hgrow _
        have HB3 := Lib.hid ((HB.out.alloc HB.out.size (.cells #[.int .u8 112] 5)).grown hgrow (by have := HB.out.size; simp; omega) (fun k hk => (HR.out.lt k hk).1))
        have HR3 : Hid (w3.ownsRow w.heap.size 5 1 v' (O ++ [112]).length (Lib.byteCells (O ++ [112]))) := Lib.hid (by
          rw [byteCells_append, List.length_append]
          simpa [Lib.byteCells, hOl] using hown')
        have HK3 : Hid (kindsS 0 false s.data.toList = ((O ++ [112]) ++ (kindsS q false (s.data.toList.drop (i + 1))).1, (kindsS q false (s.data.toList.drop (i + 1))).2)) := Lib.hid (by
          rw [HK.out, drop_at s i hlt, kindsS_step s[i] _ _ _ _ HS.out]
          simp)
        clear hown' hgrow
        go_wp2
        go_roundw
        case rel => exact ⟨i + 1, q, false, _, _, rfl, rfl, rfl, by go_num, by omega, hq, by simp; omega, HK3, HR3, HB3⟩
        case measure => simp [intOf]; omega
      | false =>
        rcases hq with rfl | rfl | rfl
        · cases h92 : (((s[i]'hlt).toNat : Int) == 92) with
          | true =>
            have HC := Lib.hid (byte_is s i hlt 92 92 rfl h92)
            have HS : Hid (kStep 0 false s[i] = (112, 0, true)) := Lib.hid (by rw [HC.out]; rfl)
            go_wp2_with (at_builtin; refine wpList_append_own _ rfl _ _ 43 rfl w.heap.size 5 i0 (.int .u8 0) 1 1 Tryz.underlying43 hi0 hz0 hz1 hz2 rfl (by decide) _ _ _ rfl (HR.out.alloc _) ⟨wr.heap.size, 0, none⟩ 1 1 [.int .u8 112] rfl rfl ?a2 ?b2 ?c2 ?d2 ?e2 ?_)
            try case a2 =>
              intro j y hj
              match j, hj with
              | 0, hj => simp at hj; subst hj; simp [Addr.add]
            try case b2 =>
              intro y hy
              simp only [List.mem_cons, List.not_mem_nil, or_false] at hy
              subst hy
              rfl
            try case c2 => unfold maxLen; omega
            try case d2 => omega
            try case e2 => have := HB.out.size; simp; omega
            intro v' w3 hown' hgrow _
            have HB3 := Lib.hid ((HB.out.alloc HB.out.size (.cells #[.int .u8 112] 5)).grown hgrow (by have := HB.out.size; simp; omega) (fun k hk => (HR.out.lt k hk).1))
            have HR3 : Hid (w3.ownsRow w.heap.size 5 1 v' (O ++ [112]).length (Lib.byteCells (O ++ [112]))) := Lib.hid (by
              rw [byteCells_append, List.length_append]
              simpa [Lib.byteCells, hOl] using hown')
            have HK3 : Hid (kindsS 0 false s.data.toList = ((O ++ [112]) ++ (kindsS 0 true (s.data.toList.drop (i + 1))).1, (kindsS 0 true (s.data.toList.drop (i + 1))).2)) := Lib.hid (by
              rw [HK.out, drop_at s i hlt, kindsS_step s[i] _ _ _ _ HS.out]
              simp)
            clear hown' hgrow
            go_wp2
            go_roundw
            case rel => exact ⟨i + 1, 0, true, _, _, rfl, rfl, rfl, by go_num, by omega, .inl rfl, by simp; omega, HK3, HR3, HB3⟩
            case measure => simp [intOf]; omega
          | false =>
            cases h39 : (((s[i]'hlt).toNat : Int) == 39) with
            | true =>
              have HC := Lib.hid (byte_is s i hlt 39 39 rfl h39)
              have hcq : s[i] = 0 ∨ s[i] = 39 ∨ s[i] = 34 := .inr (.inl HC.out)
              have HCQ := Lib.hid hcq
              clear hcq
              have HS : Hid (kStep 0 false s[i] = (112, s[i], false)) := Lib.hid (by rw [HC.out]; rfl)
              go_wp2_with (at_builtin; refine wpList_append_own _ rfl _ _ 43 rfl w.heap.size 5 i0 (.int .u8 0) 1 1 Tryz.underlying43 hi0 hz0 hz1 hz2 rfl (by decide) _ _ _ rfl (HR.out.alloc _) ⟨wr.heap.size, 0, none⟩ 1 1 [.int .u8 112] rfl rfl ?a3 ?b3 ?c3 ?d3 ?e3 ?_)
              try case a3 =>
                intro j y hj
                match j, hj with
                | 0, hj => simp at hj; subst hj; simp [Addr.add]
              try case b3 =>
                intro y hy
                simp only [List.mem_cons, List.not_mem_nil, or_false] at hy
                subst hy
                rfl
              try case c3 => unfold maxLen; omega
              try case d3 => omega
              try case e3 => have := HB.out.size; simp; omega
              intro v' w3 hown' hgrow _
              have HB3 := Lib.hid ((HB.out.alloc HB.out.size (.cells #[.int .u8 112] 5)).grown hgrow (by have := HB.out.size; simp; omega) (fun k hk => (HR.out.lt k hk).1))
              have HR3 : Hid (w3.ownsRow w.heap.size 5 1 v' (O ++ [112]).length (Lib.byteCells (O ++ [112]))) := Lib.hid (by
                rw [byteCells_append, List.length_append]
                simpa [Lib.byteCells, hOl] using hown')
              have HK3 : Hid (kindsS 0 false s.data.toList = ((O ++ [112]) ++ (kindsS s[i] false (s.data.toList.drop (i + 1))).1, (kindsS s[i] false (s.data.toList.drop (i + 1))).2)) := Lib.hid (by
                rw [HK.out, drop_at s i hlt, kindsS_step s[i] _ _ _ _ HS.out]
                simp)
              clear hown' hgrow
              go_wp2
              go_roundw
              case rel => exact ⟨i + 1, s[i], false, _, _, rfl, rfl, rfl, by go_num, by omega, HCQ.out, by simp; omega, HK3, HR3, HB3⟩
              case measure => simp [intOf]; omega
            | false =>
              cases h34 : (((s[i]'hlt).toNat : Int) == 34) with
              | true =>
                have HC := Lib.hid (byte_is s i hlt 34 34 rfl h34)
                have hcq : s[i] = 0 ∨ s[i] = 39 ∨ s[i] = 34 := .inr (.inr HC.out)
                have HCQ := Lib.hid hcq
                clear hcq
                have HS : Hid (kStep 0 false s[i] = (112, s[i], false)) := Lib.hid (by rw [HC.out]; rfl)
                go_wp2_with (at_builtin; refine wpList_append_own _ rfl _ _ 43 rfl w.heap.size 5 i0 (.int .u8 0) 1 1 Tryz.underlying43 hi0 hz0 hz1 hz2 rfl (by decide) _ _ _ rfl (HR.out.alloc _) ⟨wr.heap.size, 0, none⟩ 1 1 [.int .u8 112] rfl rfl ?a4 ?b4 ?c4 ?d4 ?e4 ?_)
                try case a4 =>
                  intro j y hj
                  match j, hj with
                  | 0, hj => simp at hj; subst hj; simp [Addr.add]
                try case b4 =>
                  intro y hy
                  simp only [List.mem_cons, List.not_mem_nil, or_false] at hy
                  subst hy
                  rfl
                try case c4 => unfold maxLen; omega
                try case d4 => omega
                try case e4 => have := HB.out.size; simp; omega
                intro v' w3 hown' hgrow _
                have HB3 := Lib.hid ((HB.out.alloc HB.out.size (.cells #[.int .u8 112] 5)).grown hgrow (by have := HB.out.size; simp; omega) (fun k hk => (HR.out.lt k hk).1))
                have HR3 : Hid (w3.ownsRow w.heap.size 5 1 v' (O ++ [112]).length (Lib.byteCells (O ++ [112]))) := Lib.hid (by
                  rw [byteCells_append, List.length_append]
                  simpa [Lib.byteCells, hOl] using hown')
                have HK3 : Hid (kindsS 0 false s.data.toList = ((O ++ [112]) ++ (kindsS s[i] false (s.data.toList.drop (i + 1))).1, (kindsS s[i] false (s.data.toList.drop (i + 1))).2)) := Lib.hid (by
                  rw [HK.out, drop_at s i hlt, kindsS_step s[i] _ _ _ _ HS.out]
                  simp)
                clear hown' hgrow
                go_wp2
                go_roundw
                case rel => exact ⟨i + 1, s[i], false, _, _, rfl, rfl, rfl, by go_num, by omega, HCQ.out, by simp; omega, HK3, HR3, HB3⟩
                case measure => simp [intOf]; omega
              | false =>
                have HBl : Hid (∀ w, Calls Tryz.prog 47 #[.int .u8 ((s[i]'hlt).toNat : Int)] w fun e w' => e = .returned (.bool (s[i] == 32 || s[i] == 9)) ∧ w = w') := Lib.hid (fun w => refBlank_any s[i] w)
                have HN1 := Lib.hid (byte_not s i hlt 92 92 rfl h92)
                have HN2 := Lib.hid (byte_not s i hlt 39 39 rfl h39)
                have HN3 := Lib.hid (byte_not s i hlt 34 34 rfl h34)
                cases hb : (s[i] == 32 || s[i] == 9) with
                | true =>
                  rw [hb] at HBl
                  go_wp2_with fail
                  go_at_call 47
                  refine (HBl.out _).mono ?_
                  rintro e w1 ⟨rfl, rfl⟩
                  have HS : Hid (kStep 0 false s[i] = (98, 0, false)) := Lib.hid (by rw [kStep_bare _ HN1.out HN2.out HN3.out, if_pos (by rw [← hb]; exact blank_two _)])
                  go_wp2_with (at_builtin; refine wpList_append_own _ rfl _ _ 43 rfl w.heap.size 5 i0 (.int .u8 0) 1 1 Tryz.underlying43 hi0 hz0 hz1 hz2 rfl (by decide) _ _ _ rfl (HR.out.alloc _) ⟨wr.heap.size, 0, none⟩ 1 1 [.int .u8 98] rfl rfl ?a5 ?b5 ?c5 ?d5 ?e5 ?_)
                  try case a5 =>
                    intro j y hj
                    match j, hj with
                    | 0, hj => simp at hj; subst hj; simp [Addr.add]
                  try case b5 =>
                    intro y hy
                    simp only [List.mem_cons, List.not_mem_nil, or_false] at hy
                    subst hy
                    rfl
                  try case c5 => unfold maxLen; omega
                  try case d5 => omega
                  try case e5 => have := HB.out.size; simp; omega
                  intro v' w3 hown' hgrow _
                  have HB3 := Lib.hid ((HB.out.alloc HB.out.size (.cells #[.int .u8 98] 5)).grown hgrow (by have := HB.out.size; simp; omega) (fun k hk => (HR.out.lt k hk).1))
                  have HR3 : Hid (w3.ownsRow w.heap.size 5 1 v' (O ++ [98]).length (Lib.byteCells (O ++ [98]))) := Lib.hid (by
                    rw [byteCells_append, List.length_append]
                    simpa [Lib.byteCells, hOl] using hown')
                  have HK3 : Hid (kindsS 0 false s.data.toList = ((O ++ [98]) ++ (kindsS 0 false (s.data.toList.drop (i + 1))).1, (kindsS 0 false (s.data.toList.drop (i + 1))).2)) := Lib.hid (by
                    rw [HK.out, drop_at s i hlt, kindsS_step s[i] _ _ _ _ HS.out]
                    simp)
                  clear hown' hgrow
                  go_wp2
                  go_roundw
                  case rel => exact ⟨i + 1, 0, false, _, _, rfl, rfl, rfl, by go_num, by omega, .inl rfl, by simp; omega, HK3, HR3, HB3⟩
                  case measure => simp [intOf]; omega
                | false =>
                  rw [hb] at HBl
                  have HNb : Hid (blankB s[i] = false) := Lib.hid (by rw [← hb]; exact blank_two _)
                  cases h59 : (((s[i]'hlt).toNat : Int) == 59) with
                  | true =>
                    have HC := Lib.hid (byte_is s i hlt 59 59 rfl h59)
                    go_wp2_with fail
                    go_at_call 47
                    refine (HBl.out _).mono ?_
                    rintro e w1 ⟨rfl, rfl⟩
                    have HS : Hid (kStep 0 false s[i] = (111, 0, false)) := Lib.hid (by rw [HC.out]; rfl)
                    go_wp2_with (at_builtin; refine wpList_append_own _ rfl _ _ 43 rfl w.heap.size 5 i0 (.int .u8 0) 1 1 Tryz.underlying43 hi0 hz0 hz1 hz2 rfl (by decide) _ _ _ rfl (HR.out.alloc _) ⟨wr.heap.size, 0, none⟩ 1 1 [.int .u8 111] rfl rfl ?a6 ?b6 ?c6 ?d6 ?e6 ?_)
                    try case a6 =>
                      intro j y hj
                      match j, hj with
                      | 0, hj => simp at hj; subst hj; simp [Addr.add]
                    try case b6 =>
                      intro y hy
                      simp only [List.mem_cons, List.not_mem_nil, or_false] at hy
                      subst hy
                      rfl
                    try case c6 => unfold maxLen; omega
                    try case d6 => omega
                    try case e6 => have := HB.out.size; simp; omega
                    intro v' w3 hown' hgrow _
                    have HB3 := Lib.hid ((HB.out.alloc HB.out.size (.cells #[.int .u8 111] 5)).grown hgrow (by have := HB.out.size; simp; omega) (fun k hk => (HR.out.lt k hk).1))
                    have HR3 : Hid (w3.ownsRow w.heap.size 5 1 v' (O ++ [111]).length (Lib.byteCells (O ++ [111]))) := Lib.hid (by
                      rw [byteCells_append, List.length_append]
                      simpa [Lib.byteCells, hOl] using hown')
                    have HK3 : Hid (kindsS 0 false s.data.toList = ((O ++ [111]) ++ (kindsS 0 false (s.data.toList.drop (i + 1))).1, (kindsS 0 false (s.data.toList.drop (i + 1))).2)) := Lib.hid (by
                      rw [HK.out, drop_at s i hlt, kindsS_step s[i] _ _ _ _ HS.out]
                      simp)
                    clear hown' hgrow
                    go_wp2
                    go_roundw
                    case rel => exact ⟨i + 1, 0, false, _, _, rfl, rfl, rfl, by go_num, by omega, .inl rfl, by simp; omega, HK3, HR3, HB3⟩
                    case measure => simp [intOf]; omega
                  | false =>
                    cases h38 : (((s[i]'hlt).toNat : Int) == 38) with
                    | true =>
                      have HC := Lib.hid (byte_is s i hlt 38 38 rfl h38)
                      go_wp2_with fail
                      go_at_call 47
                      refine (HBl.out _).mono ?_
                      rintro e w1 ⟨rfl, rfl⟩
                      have HS : Hid (kStep 0 false s[i] = (111, 0, false)) := Lib.hid (by rw [HC.out]; rfl)
                      go_wp2_with (at_builtin; refine wpList_append_own _ rfl _ _ 43 rfl w.heap.size 5 i0 (.int .u8 0) 1 1 Tryz.underlying43 hi0 hz0 hz1 hz2 rfl (by decide) _ _ _ rfl (HR.out.alloc _) ⟨wr.heap.size, 0, none⟩ 1 1 [.int .u8 111] rfl rfl ?a7 ?b7 ?c7 ?d7 ?e7 ?_)
                      try case a7 =>
                        intro j y hj
                        match j, hj with
                        | 0, hj => simp at hj; subst hj; simp [Addr.add]
                      try case b7 =>
                        intro y hy
                        simp only [List.mem_cons, List.not_mem_nil, or_false] at hy
                        subst hy
                        rfl
                      try case c7 => unfold maxLen; omega
                      try case d7 => omega
                      try case e7 => have := HB.out.size; simp; omega
                      intro v' w3 hown' hgrow _
                      have HB3 := Lib.hid ((HB.out.alloc HB.out.size (.cells #[.int .u8 111] 5)).grown hgrow (by have := HB.out.size; simp; omega) (fun k hk => (HR.out.lt k hk).1))
                      have HR3 : Hid (w3.ownsRow w.heap.size 5 1 v' (O ++ [111]).length (Lib.byteCells (O ++ [111]))) := Lib.hid (by
                        rw [byteCells_append, List.length_append]
                        simpa [Lib.byteCells, hOl] using hown')
                      have HK3 : Hid (kindsS 0 false s.data.toList = ((O ++ [111]) ++ (kindsS 0 false (s.data.toList.drop (i + 1))).1, (kindsS 0 false (s.data.toList.drop (i + 1))).2)) := Lib.hid (by
                        rw [HK.out, drop_at s i hlt, kindsS_step s[i] _ _ _ _ HS.out]
                        simp)
                      clear hown' hgrow
                      go_wp2
                      go_roundw
                      case rel => exact ⟨i + 1, 0, false, _, _, rfl, rfl, rfl, by go_num, by omega, .inl rfl, by simp; omega, HK3, HR3, HB3⟩
                      case measure => simp [intOf]; omega
                    | false =>
                      cases h124 : (((s[i]'hlt).toNat : Int) == 124) with
                      | true =>
                        have HC := Lib.hid (byte_is s i hlt 124 124 rfl h124)
                        go_wp2_with fail
                        go_at_call 47
                        refine (HBl.out _).mono ?_
                        rintro e w1 ⟨rfl, rfl⟩
                        have HS : Hid (kStep 0 false s[i] = (111, 0, false)) := Lib.hid (by rw [HC.out]; rfl)
                        go_wp2_with (at_builtin; refine wpList_append_own _ rfl _ _ 43 rfl w.heap.size 5 i0 (.int .u8 0) 1 1 Tryz.underlying43 hi0 hz0 hz1 hz2 rfl (by decide) _ _ _ rfl (HR.out.alloc _) ⟨wr.heap.size, 0, none⟩ 1 1 [.int .u8 111] rfl rfl ?a8 ?b8 ?c8 ?d8 ?e8 ?_)
                        try case a8 =>
                          intro j y hj
                          match j, hj with
                          | 0, hj => simp at hj; subst hj; simp [Addr.add]
                        try case b8 =>
                          intro y hy
                          simp only [List.mem_cons, List.not_mem_nil, or_false] at hy
                          subst hy
                          rfl
                        try case c8 => unfold maxLen; omega
                        try case d8 => omega
                        try case e8 => have := HB.out.size; simp; omega
                        intro v' w3 hown' hgrow _
                        have HB3 := Lib.hid ((HB.out.alloc HB.out.size (.cells #[.int .u8 111] 5)).grown hgrow (by have := HB.out.size; simp; omega) (fun k hk => (HR.out.lt k hk).1))
                        have HR3 : Hid (w3.ownsRow w.heap.size 5 1 v' (O ++ [111]).length (Lib.byteCells (O ++ [111]))) := Lib.hid (by
                          rw [byteCells_append, List.length_append]
                          simpa [Lib.byteCells, hOl] using hown')
                        have HK3 : Hid (kindsS 0 false s.data.toList = ((O ++ [111]) ++ (kindsS 0 false (s.data.toList.drop (i + 1))).1, (kindsS 0 false (s.data.toList.drop (i + 1))).2)) := Lib.hid (by
                          rw [HK.out, drop_at s i hlt, kindsS_step s[i] _ _ _ _ HS.out]
                          simp)
                        clear hown' hgrow
                        go_wp2
                        go_roundw
                        case rel => exact ⟨i + 1, 0, false, _, _, rfl, rfl, rfl, by go_num, by omega, .inl rfl, by simp; omega, HK3, HR3, HB3⟩
                        case measure => simp [intOf]; omega
                      | false =>
                        cases h60 : (((s[i]'hlt).toNat : Int) == 60) with
                        | true =>
                          have HC := Lib.hid (byte_is s i hlt 60 60 rfl h60)
                          go_wp2_with fail
                          go_at_call 47
                          refine (HBl.out _).mono ?_
                          rintro e w1 ⟨rfl, rfl⟩
                          have HS : Hid (kStep 0 false s[i] = (111, 0, false)) := Lib.hid (by rw [HC.out]; rfl)
                          go_wp2_with (at_builtin; refine wpList_append_own _ rfl _ _ 43 rfl w.heap.size 5 i0 (.int .u8 0) 1 1 Tryz.underlying43 hi0 hz0 hz1 hz2 rfl (by decide) _ _ _ rfl (HR.out.alloc _) ⟨wr.heap.size, 0, none⟩ 1 1 [.int .u8 111] rfl rfl ?a9 ?b9 ?c9 ?d9 ?e9 ?_)
                          try case a9 =>
                            intro j y hj
                            match j, hj with
                            | 0, hj => simp at hj; subst hj; simp [Addr.add]
                          try case b9 =>
                            intro y hy
                            simp only [List.mem_cons, List.not_mem_nil, or_false] at hy
                            subst hy
                            rfl
                          try case c9 => unfold maxLen; omega
                          try case d9 => omega
                          try case e9 => have := HB.out.size; simp; omega
                          intro v' w3 hown' hgrow _
                          have HB3 := Lib.hid ((HB.out.alloc HB.out.size (.cells #[.int .u8 111] 5)).grown hgrow (by have := HB.out.size; simp; omega) (fun k hk => (HR.out.lt k hk).1))
                          have HR3 : Hid (w3.ownsRow w.heap.size 5 1 v' (O ++ [111]).length (Lib.byteCells (O ++ [111]))) := Lib.hid (by
                            rw [byteCells_append, List.length_append]
                            simpa [Lib.byteCells, hOl] using hown')
                          have HK3 : Hid (kindsS 0 false s.data.toList = ((O ++ [111]) ++ (kindsS 0 false (s.data.toList.drop (i + 1))).1, (kindsS 0 false (s.data.toList.drop (i + 1))).2)) := Lib.hid (by
                            rw [HK.out, drop_at s i hlt, kindsS_step s[i] _ _ _ _ HS.out]
                            simp)
                          clear hown' hgrow
                          go_wp2
                          go_roundw
                          case rel => exact ⟨i + 1, 0, false, _, _, rfl, rfl, rfl, by go_num, by omega, .inl rfl, by simp; omega, HK3, HR3, HB3⟩
                          case measure => simp [intOf]; omega
                        | false =>
                          cases h62 : (((s[i]'hlt).toNat : Int) == 62) with
                          | true =>
                            have HC := Lib.hid (byte_is s i hlt 62 62 rfl h62)
                            go_wp2_with fail
                            go_at_call 47
                            refine (HBl.out _).mono ?_
                            rintro e w1 ⟨rfl, rfl⟩
                            have HS : Hid (kStep 0 false s[i] = (111, 0, false)) := Lib.hid (by rw [HC.out]; rfl)
                            go_wp2_with (at_builtin; refine wpList_append_own _ rfl _ _ 43 rfl w.heap.size 5 i0 (.int .u8 0) 1 1 Tryz.underlying43 hi0 hz0 hz1 hz2 rfl (by decide) _ _ _ rfl (HR.out.alloc _) ⟨wr.heap.size, 0, none⟩ 1 1 [.int .u8 111] rfl rfl ?a10 ?b10 ?c10 ?d10 ?e10 ?_)
                            try case a10 =>
                              intro j y hj
                              match j, hj with
                              | 0, hj => simp at hj; subst hj; simp [Addr.add]
                            try case b10 =>
                              intro y hy
                              simp only [List.mem_cons, List.not_mem_nil, or_false] at hy
                              subst hy
                              rfl
                            try case c10 => unfold maxLen; omega
                            try case d10 => omega
                            try case e10 => have := HB.out.size; simp; omega
                            intro v' w3 hown' hgrow _
                            have HB3 := Lib.hid ((HB.out.alloc HB.out.size (.cells #[.int .u8 111] 5)).grown hgrow (by have := HB.out.size; simp; omega) (fun k hk => (HR.out.lt k hk).1))
                            have HR3 : Hid (w3.ownsRow w.heap.size 5 1 v' (O ++ [111]).length (Lib.byteCells (O ++ [111]))) := Lib.hid (by
                              rw [byteCells_append, List.length_append]
                              simpa [Lib.byteCells, hOl] using hown')
                            have HK3 : Hid (kindsS 0 false s.data.toList = ((O ++ [111]) ++ (kindsS 0 false (s.data.toList.drop (i + 1))).1, (kindsS 0 false (s.data.toList.drop (i + 1))).2)) := Lib.hid (by
                              rw [HK.out, drop_at s i hlt, kindsS_step s[i] _ _ _ _ HS.out]
                              simp)
                            clear hown' hgrow
                            go_wp2
                            go_roundw
                            case rel => exact ⟨i + 1, 0, false, _, _, rfl, rfl, rfl, by go_num, by omega, .inl rfl, by simp; omega, HK3, HR3, HB3⟩
                            case measure => simp [intOf]; omega
                          | false =>
                            have HNo : Hid (opB s[i] = false) := Lib.hid (op_none _ (byte_not s i hlt 59 59 rfl h59) (byte_not s i hlt 38 38 rfl h38) (byte_not s i hlt 124 124 rfl h124) (byte_not s i hlt 60 60 rfl h60) (byte_not s i hlt 62 62 rfl h62))
                            go_wp2_with fail
                            go_at_call 47
                            refine (HBl.out _).mono ?_
                            rintro e w1 ⟨rfl, rfl⟩
                            have HS : Hid (kStep 0 false s[i] = (112, 0, false)) := Lib.hid (by rw [kStep_bare _ HN1.out HN2.out HN3.out, if_neg (by rw [HNb.out]; simp), if_neg (by rw [HNo.out]; simp)])
                            go_wp2_with (at_builtin; refine wpList_append_own _ rfl _ _ 43 rfl w.heap.size 5 i0 (.int .u8 0) 1 1 Tryz.underlying43 hi0 hz0 hz1 hz2 rfl (by decide) _ _ _ rfl (HR.out.alloc _) ⟨wr.heap.size, 0, none⟩ 1 1 [.int .u8 112] rfl rfl ?a11 ?b11 ?c11 ?d11 ?e11 ?_)
                            try case a11 =>
                              intro j y hj
                              match j, hj with
                              | 0, hj => simp at hj; subst hj; simp [Addr.add]
                            try case b11 =>
                              intro y hy
                              simp only [List.mem_cons, List.not_mem_nil, or_false] at hy
                              subst hy
                              rfl
                            try case c11 => unfold maxLen; omega
                            try case d11 => omega
                            try case e11 => have := HB.out.size; simp; omega
                            intro v' w3 hown' hgrow _
                            have HB3 := Lib.hid ((HB.out.alloc HB.out.size (.cells #[.int .u8 112] 5)).grown hgrow (by have := HB.out.size; simp; omega) (fun k hk => (HR.out.lt k hk).1))
                            have HR3 : Hid (w3.ownsRow w.heap.size 5 1 v' (O ++ [112]).length (Lib.byteCells (O ++ [112]))) := Lib.hid (by
                              rw [byteCells_append, List.length_append]
                              simpa [Lib.byteCells, hOl] using hown')
                            have HK3 : Hid (kindsS 0 false s.data.toList = ((O ++ [112]) ++ (kindsS 0 false (s.data.toList.drop (i + 1))).1, (kindsS 0 false (s.data.toList.drop (i + 1))).2)) := Lib.hid (by
                              rw [HK.out, drop_at s i hlt, kindsS_step s[i] _ _ _ _ HS.out]
                              simp)
                            clear hown' hgrow
                            go_wp2
                            go_roundw
                            case rel => exact ⟨i + 1, 0, false, _, _, rfl, rfl, rfl, by go_num, by omega, .inl rfl, by simp; omega, HK3, HR3, HB3⟩
                            case measure => simp [intOf]; omega
        · cases h39 : (((s[i]'hlt).toNat : Int) == 39) with
          | true =>
            have HC := Lib.hid (byte_is s i hlt 39 39 rfl h39)
            have h92 : (((s[i]'hlt).toNat : Int) == 92) = false := by rw [HC.out]; rfl
            have HS : Hid (kStep 39 false s[i] = (112, 0, false)) := Lib.hid (by rw [HC.out]; rfl)
            go_wp2_with (at_builtin; refine wpList_append_own _ rfl _ _ 43 rfl w.heap.size 5 i0 (.int .u8 0) 1 1 Tryz.underlying43 hi0 hz0 hz1 hz2 rfl (by decide) _ _ _ rfl (HR.out.alloc _) ⟨wr.heap.size, 0, none⟩ 1 1 [.int .u8 112] rfl rfl ?a12 ?b12 ?c12 ?d12 ?e12 ?_)
            try case a12 =>
              intro j y hj
              match j, hj with
              | 0, hj => simp at hj; subst hj; simp [Addr.add]
            try case b12 =>
              intro y hy
              simp only [List.mem_cons, List.not_mem_nil, or_false] at hy
              subst hy
              rfl
            try case c12 => unfold maxLen; omega
            try case d12 => omega
            try case e12 => have := HB.out.size; simp; omega
            intro v' w3 hown' hgrow _
            have HB3 := Lib.hid ((HB.out.alloc HB.out.size (.cells #[.int .u8 112] 5)).grown hgrow (by have := HB.out.size; simp; omega) (fun k hk => (HR.out.lt k hk).1))
            have HR3 : Hid (w3.ownsRow w.heap.size 5 1 v' (O ++ [112]).length (Lib.byteCells (O ++ [112]))) := Lib.hid (by
              rw [byteCells_append, List.length_append]
              simpa [Lib.byteCells, hOl] using hown')
            have HK3 : Hid (kindsS 0 false s.data.toList = ((O ++ [112]) ++ (kindsS 0 false (s.data.toList.drop (i + 1))).1, (kindsS 0 false (s.data.toList.drop (i + 1))).2)) := Lib.hid (by
              rw [HK.out, drop_at s i hlt, kindsS_step s[i] _ _ _ _ HS.out]
              simp)
            clear hown' hgrow
            go_wp2
            go_roundw
            case rel => exact ⟨i + 1, 0, false, _, _, rfl, rfl, rfl, by go_num, by omega, .inl rfl, by simp; omega, HK3, HR3, HB3⟩
            case measure => simp [intOf]; omega
          | false =>
            have HN := Lib.hid (byte_not s i hlt 39 39 rfl h39)
            cases h92 : (((s[i]'hlt).toNat : Int) == 92) with
            | true =>
              have HS : Hid (kStep 39 false s[i] = (112, 39, false)) := Lib.hid (by exact kStep_sq _ HN.out)
              go_wp2_with (at_builtin; refine wpList_append_own _ rfl _ _ 43 rfl w.heap.size 5 i0 (.int .u8 0) 1 1 Tryz.underlying43 hi0 hz0 hz1 hz2 rfl (by decide) _ _ _ rfl (HR.out.alloc _) ⟨wr.heap.size, 0, none⟩ 1 1 [.int .u8 112] rfl rfl ?a13 ?b13 ?c13 ?d13 ?e13 ?_)
              try case a13 =>
                intro j y hj
                match j, hj with
                | 0, hj => simp at hj; subst hj; simp [Addr.add]
              try case b13 =>
                intro y hy
                simp only [List.mem_cons, List.not_mem_nil, or_false] at hy
                subst hy
                rfl
              try case c13 => unfold maxLen; omega
              try case d13 => omega
              try case e13 => have := HB.out.size; simp; omega
              intro v' w3 hown' hgrow _
              have HB3 := Lib.hid ((HB.out.alloc HB.out.size (.cells #[.int .u8 112] 5)).grown hgrow (by have := HB.out.size; simp; omega) (fun k hk => (HR.out.lt k hk).1))
              have HR3 : Hid (w3.ownsRow w.heap.size 5 1 v' (O ++ [112]).length (Lib.byteCells (O ++ [112]))) := Lib.hid (by
                rw [byteCells_append, List.length_append]
                simpa [Lib.byteCells, hOl] using hown')
              have HK3 : Hid (kindsS 0 false s.data.toList = ((O ++ [112]) ++ (kindsS 39 false (s.data.toList.drop (i + 1))).1, (kindsS 39 false (s.data.toList.drop (i + 1))).2)) := Lib.hid (by
                rw [HK.out, drop_at s i hlt, kindsS_step s[i] _ _ _ _ HS.out]
                simp)
              clear hown' hgrow
              go_wp2
              go_roundw
              case rel => exact ⟨i + 1, 39, false, _, _, rfl, rfl, rfl, by go_num, by omega, .inr (.inl rfl), by simp; omega, HK3, HR3, HB3⟩
              case measure => simp [intOf]; omega
            | false =>
              have HS : Hid (kStep 39 false s[i] = (112, 39, false)) := Lib.hid (by exact kStep_sq _ HN.out)
              go_wp2_with (at_builtin; refine wpList_append_own _ rfl _ _ 43 rfl w.heap.size 5 i0 (.int .u8 0) 1 1 Tryz.underlying43 hi0 hz0 hz1 hz2 rfl (by decide) _ _ _ rfl (HR.out.alloc _) ⟨wr.heap.size, 0, none⟩ 1 1 [.int .u8 112] rfl rfl ?a14 ?b14 ?c14 ?d14 ?e14 ?_)
              try case a14 =>
                intro j y hj
                match j, hj with
                | 0, hj => simp at hj; subst hj; simp [Addr.add]
              try case b14 =>
                intro y hy
                simp only [List.mem_cons, List.not_mem_nil, or_false] at hy
                subst hy
                rfl
              try case c14 => unfold maxLen; omega
              try case d14 => omega
              try case e14 => have := HB.out.size; simp; omega
              intro v' w3 hown' hgrow _
              have HB3 := Lib.hid ((HB.out.alloc HB.out.size (.cells #[.int .u8 112] 5)).grown hgrow (by have := HB.out.size; simp; omega) (fun k hk => (HR.out.lt k hk).1))
              have HR3 : Hid (w3.ownsRow w.heap.size 5 1 v' (O ++ [112]).length (Lib.byteCells (O ++ [112]))) := Lib.hid (by
                rw [byteCells_append, List.length_append]
                simpa [Lib.byteCells, hOl] using hown')
              have HK3 : Hid (kindsS 0 false s.data.toList = ((O ++ [112]) ++ (kindsS 39 false (s.data.toList.drop (i + 1))).1, (kindsS 39 false (s.data.toList.drop (i + 1))).2)) := Lib.hid (by
                rw [HK.out, drop_at s i hlt, kindsS_step s[i] _ _ _ _ HS.out]
                simp)
              clear hown' hgrow
              go_wp2
              go_roundw
              case rel => exact ⟨i + 1, 39, false, _, _, rfl, rfl, rfl, by go_num, by omega, .inr (.inl rfl), by simp; omega, HK3, HR3, HB3⟩
              case measure => simp [intOf]; omega
        · cases h92 : (((s[i]'hlt).toNat : Int) == 92) with
          | true =>
            have HC := Lib.hid (byte_is s i hlt 92 92 rfl h92)
            have HS : Hid (kStep 34 false s[i] = (112, 34, true)) := Lib.hid (by rw [HC.out]; rfl)
            go_wp2_with (at_builtin; refine wpList_append_own _ rfl _ _ 43 rfl w.heap.size 5 i0 (.int .u8 0) 1 1 Tryz.underlying43 hi0 hz0 hz1 hz2 rfl (by decide) _ _ _ rfl (HR.out.alloc _) ⟨wr.heap.size, 0, none⟩ 1 1 [.int .u8 112] rfl rfl ?a15 ?b15 ?c15 ?d15 ?e15 ?_)
            try case a15 =>
              intro j y hj
              match j, hj with
              | 0, hj => simp at hj; subst hj; simp [Addr.add]
            try case b15 =>
              intro y hy
              simp only [List.mem_cons, List.not_mem_nil, or_false] at hy
              subst hy
              rfl
            try case c15 => unfold maxLen; omega
            try case d15 => omega
            try case e15 => have := HB.out.size; simp; omega
            intro v' w3 hown' hgrow _
            have HB3 := Lib.hid ((HB.out.alloc HB.out.size (.cells #[.int .u8 112] 5)).grown hgrow (by have := HB.out.size; simp; omega) (fun k hk => (HR.out.lt k hk).1))
            have HR3 : Hid (w3.ownsRow w.heap.size 5 1 v' (O ++ [112]).length (Lib.byteCells (O ++ [112]))) := Lib.hid (by
              rw [byteCells_append, List.length_append]
              simpa [Lib.byteCells, hOl] using hown')
            have HK3 : Hid (kindsS 0 false s.data.toList = ((O ++ [112]) ++ (kindsS 34 true (s.data.toList.drop (i + 1))).1, (kindsS 34 true (s.data.toList.drop (i + 1))).2)) := Lib.hid (by
              rw [HK.out, drop_at s i hlt, kindsS_step s[i] _ _ _ _ HS.out]
              simp)
            clear hown' hgrow
            go_wp2
            go_roundw
            case rel => exact ⟨i + 1, 34, true, _, _, rfl, rfl, rfl, by go_num, by omega, .inr (.inr rfl), by simp; omega, HK3, HR3, HB3⟩
            case measure => simp [intOf]; omega
          | false =>
            have HN := Lib.hid (byte_not s i hlt 92 92 rfl h92)
            cases h34 : (((s[i]'hlt).toNat : Int) == 34) with
            | true =>
              have HC := Lib.hid (byte_is s i hlt 34 34 rfl h34)
              have HS : Hid (kStep 34 false s[i] = (112, 0, false)) := Lib.hid (by rw [HC.out]; rfl)
              go_wp2_with (at_builtin; refine wpList_append_own _ rfl _ _ 43 rfl w.heap.size 5 i0 (.int .u8 0) 1 1 Tryz.underlying43 hi0 hz0 hz1 hz2 rfl (by decide) _ _ _ rfl (HR.out.alloc _) ⟨wr.heap.size, 0, none⟩ 1 1 [.int .u8 112] rfl rfl ?a16 ?b16 ?c16 ?d16 ?e16 ?_)
              try case a16 =>
                intro j y hj
                match j, hj with
                | 0, hj => simp at hj; subst hj; simp [Addr.add]
              try case b16 =>
                intro y hy
                simp only [List.mem_cons, List.not_mem_nil, or_false] at hy
                subst hy
                rfl
              try case c16 => unfold maxLen; omega
              try case d16 => omega
              try case e16 => have := HB.out.size; simp; omega
              intro v' w3 hown' hgrow _
              have HB3 := Lib.hid ((HB.out.alloc HB.out.size (.cells #[.int .u8 112] 5)).grown hgrow (by have := HB.out.size; simp; omega) (fun k hk => (HR.out.lt k hk).1))
              have HR3 : Hid (w3.ownsRow w.heap.size 5 1 v' (O ++ [112]).length (Lib.byteCells (O ++ [112]))) := Lib.hid (by
                rw [byteCells_append, List.length_append]
                simpa [Lib.byteCells, hOl] using hown')
              have HK3 : Hid (kindsS 0 false s.data.toList = ((O ++ [112]) ++ (kindsS 0 false (s.data.toList.drop (i + 1))).1, (kindsS 0 false (s.data.toList.drop (i + 1))).2)) := Lib.hid (by
                rw [HK.out, drop_at s i hlt, kindsS_step s[i] _ _ _ _ HS.out]
                simp)
              clear hown' hgrow
              go_wp2
              go_roundw
              case rel => exact ⟨i + 1, 0, false, _, _, rfl, rfl, rfl, by go_num, by omega, .inl rfl, by simp; omega, HK3, HR3, HB3⟩
              case measure => simp [intOf]; omega
            | false =>
              have HN2 := Lib.hid (byte_not s i hlt 34 34 rfl h34)
              have HS : Hid (kStep 34 false s[i] = (112, 34, false)) := Lib.hid (by exact kStep_dq _ HN.out HN2.out)
              go_wp2_with (at_builtin; refine wpList_append_own _ rfl _ _ 43 rfl w.heap.size 5 i0 (.int .u8 0) 1 1 Tryz.underlying43 hi0 hz0 hz1 hz2 rfl (by decide) _ _ _ rfl (HR.out.alloc _) ⟨wr.heap.size, 0, none⟩ 1 1 [.int .u8 112] rfl rfl ?a17 ?b17 ?c17 ?d17 ?e17 ?_)
              try case a17 =>
                intro j y hj
                match j, hj with
                | 0, hj => simp at hj; subst hj; simp [Addr.add]
              try case b17 =>
                intro y hy
                simp only [List.mem_cons, List.not_mem_nil, or_false] at hy
                subst hy
                rfl
              try case c17 => unfold maxLen; omega
              try case d17 => omega
              try case e17 => have := HB.out.size; simp; omega
              intro v' w3 hown' hgrow _
              have HB3 := Lib.hid ((HB.out.alloc HB.out.size (.cells #[.int .u8 112] 5)).grown hgrow (by have := HB.out.size; simp; omega) (fun k hk => (HR.out.lt k hk).1))
              have HR3 : Hid (w3.ownsRow w.heap.size 5 1 v' (O ++ [112]).length (Lib.byteCells (O ++ [112]))) := Lib.hid (by
                rw [byteCells_append, List.length_append]
                simpa [Lib.byteCells, hOl] using hown')
              have HK3 : Hid (kindsS 0 false s.data.toList = ((O ++ [112]) ++ (kindsS 34 false (s.data.toList.drop (i + 1))).1, (kindsS 34 false (s.data.toList.drop (i + 1))).2)) := Lib.hid (by
                rw [HK.out, drop_at s i hlt, kindsS_step s[i] _ _ _ _ HS.out]
                simp)
              clear hown' hgrow
              go_wp2
              go_roundw
              case rel => exact ⟨i + 1, 34, false, _, _, rfl, rfl, rfl, by go_num, by omega, .inr (.inr rfl), by simp; omega, HK3, HR3, HB3⟩
              case measure => simp [intOf]; omega
    · rcases hq with rfl | rfl | rfl
      · have hd : s.data.toList.drop i = [] := List.drop_of_length_le (by rw [hsl]; omega)
        have hF := HK.out
        rw [hd] at hF
        have HF : Hid (kindsS 0 false s.data.toList = (O, 0, t)) := Lib.hid (by rw [hF]; simp [kindsS])
        have hcv := conv_own HR.out
        clear hF hd
        cases t with
        | true =>
          go_wp2
          go_ret2
          exact ⟨by rw [HF.out]; rfl, HB.out⟩
        | false =>
          go_wp2
          go_ret2
          exact ⟨by rw [HF.out]; rfl, HB.out⟩
      · have hd : s.data.toList.drop i = [] := List.drop_of_length_le (by rw [hsl]; omega)
        have hF := HK.out
        rw [hd] at hF
        have HF : Hid (kindsS 0 false s.data.toList = (O, 39, t)) := Lib.hid (by rw [hF]; simp [kindsS])
        have hcv := conv_own HR.out
        clear hF hd
        cases t with
        | true =>
          go_wp2
          go_ret2
          exact ⟨by rw [HF.out]; rfl, HB.out⟩
        | false =>
          go_wp2
          go_ret2
          exact ⟨by rw [HF.out]; rfl, HB.out⟩
      · have hd : s.data.toList.drop i = [] := List.drop_of_length_le (by rw [hsl]; omega)
        have hF := HK.out
        rw [hd] at hF
        have HF : Hid (kindsS 0 false s.data.toList = (O, 34, t)) := Lib.hid (by rw [hF]; simp [kindsS])
        have hcv := conv_own HR.out
        clear hF hd
        cases t with
        | true =>
          go_wp2
          go_ret2
          exact ⟨by rw [HF.out]; rfl, HB.out⟩
        | false =>
          go_wp2
          go_ret2
          exact ⟨by rw [HF.out]; rfl, HB.out⟩
end Go.Proofs.YtmagggflamdahaaGreatDoor

namespace Go.Proofs.YtmagggflamdahaaGreatDoor
open Go.RowKit

/-- the bytes are plain up to n, and there no quote is open -/
def RunK (q : UInt8) (t : Bool) (l : List UInt8) (n : Nat) : Prop := kindsS q t l = (List.replicate n 112 ++ (kindsS 0 false (l.drop n)).1, (kindsS 0 false (l.drop n)).2)
theorem RunK.cons {q : UInt8} {t : Bool} {c : UInt8} {r : List UInt8} {q2 : UInt8} {t2 : Bool} {n : Nat} (h : kStep q t c = (112, q2, t2)) (h2 : RunK q2 t2 r n) : RunK q t (c :: r) (n + 1) := by
  unfold RunK at h2 ⊢
  rw [kindsS_step c r _ _ _ h, h2]
  simp [List.replicate_succ]
theorem RunK.zero (l : List UInt8) : RunK 0 false l 0 := by simp [RunK]
theorem RunK.add {l : List UInt8} {q : UInt8} {t : Bool} {n m : Nat} (h : RunK q t l n) (h2 : RunK 0 false (l.drop n) m) : RunK q t l (m + n) := by
  unfold RunK at h h2 ⊢
  rw [h, h2, List.drop_drop, Nat.add_comm n m]
  simp only [Prod.mk.injEq, and_true]
  rw [← List.append_assoc, List.replicate_append_replicate, Nat.add_comm n m]
theorem kindsS_snd {q : UInt8} {t : Bool} {c : UInt8} {r : List UInt8} {k q2 : UInt8} {t2 : Bool} (h : kStep q t c = (k, q2, t2)) : (kindsS q t (c :: r)).2 = (kindsS q2 t2 r).2 := by rw [kindsS_step c r _ _ _ h]

theorem kind_dq : ∀ l : List UInt8, match dqS l with | none => (kindsS 34 false l).2 ≠ (0, false) | some x => RunK 34 false l x.1
  | [] => by simp [dqS, kindsS]
  | [c] => by
    by_cases h : c = 34
    · subst h
      simp only [dqS, if_true]
      exact RunK.cons rfl (RunK.zero [])
    · simp only [dqS, if_neg h]
      by_cases h2 : c = 92
      · subst h2
        rw [kindsS_snd (k := 112) (q2 := 34) (t2 := true) rfl]
        simp [kindsS]
      · rw [kindsS_snd (kStep_dq c h2 h)]
        simp [kindsS]
  | c :: d :: r => by
    by_cases h : c = 34
    · subst h
      simp only [dqS, if_true]
      exact RunK.cons rfl (RunK.zero _)
    · by_cases h2 : c = 92
      · subst h2
        have ih := kind_dq r
        simp only [dqS, if_neg h, if_true]
        have k1 : kStep 34 false 92 = (112, 34, true) := rfl
        have k2 : kStep 34 true d = (112, 34, false) := rfl
        cases hd : dqS r with
        | none =>
          rw [hd] at ih
          simp only [Option.map_none]
          rw [kindsS_snd k1, kindsS_snd k2]
          exact ih
        | some x =>
          rw [hd] at ih
          simp only [Option.map_some]
          exact RunK.cons k1 (RunK.cons k2 ih)
      · have ih := kind_dq (d :: r)
        simp only [dqS, if_neg h, if_neg h2] at ih ⊢
        cases hd : dqS (d :: r) with
        | none =>
          rw [hd] at ih
          simp only [Option.map_none]
          rw [kindsS_snd (kStep_dq c h2 h)]
          exact ih
        | some x =>
          rw [hd] at ih
          simp only [Option.map_some]
          exact RunK.cons (kStep_dq c h2 h) ih
theorem index_bound (l : List UInt8) (c : UInt8) : -1 ≤ Lib.indexByte l c := by
  induction l with
  | nil => simp [Lib.indexByte]
  | cons d l ih =>
    unfold Lib.indexByte
    split
    · omega
    · split
      · omega
      · omega
theorem kind_sq : ∀ l : List UInt8, if Lib.indexByte l 39 < 0 then (kindsS 39 false l).2 ≠ (0, false) else RunK 39 false l ((Lib.indexByte l 39).toNat + 1)
  | [] => by simp [Lib.indexByte, kindsS]
  | c :: r => by
    have ih := kind_sq r
    by_cases h : c = 39
    · subst h
      simp only [Lib.indexByte, beq_self_eq_true, if_true]
      exact RunK.cons rfl (RunK.zero r)
    · have hb : (c == 39) = false := by simpa using h
      have hi := index_bound r 39
      by_cases hn : Lib.indexByte r 39 < 0
      · have he : Lib.indexByte r 39 = -1 := by omega
        rw [if_pos hn] at ih
        have : Lib.indexByte (c :: r) 39 = -1 := by simp [Lib.indexByte, hb, he]
        rw [this, if_pos (by decide), kindsS_snd (kStep_sq c h)]
        exact ih
      · rw [if_neg hn] at ih
        have hne : (Lib.indexByte r 39 == -1) = false := beq_eq_false_iff_ne.2 (by omega)
        have : Lib.indexByte (c :: r) 39 = Lib.indexByte r 39 + 1 := by simp [Lib.indexByte, hb, hne]
        rw [this, if_neg (by omega)]
        have h3 : (Lib.indexByte r 39 + 1).toNat = (Lib.indexByte r 39).toNat + 1 := by omega
        rw [h3]
        exact RunK.cons (kStep_sq c h) ih
theorem span_kinds (c : UInt8) (r : List UInt8) (hc : stopB c = false) : if (spanS (c :: r)).1 = 0 then (kindsS 0 false (c :: r)).2 ≠ (0, false) else RunK 0 false (c :: r) (spanS (c :: r)).1 := by
  by_cases h92 : c = 92
  · subst h92
    have k1 : kStep 0 false 92 = (112, 0, true) := rfl
    cases r with
    | nil =>
      have : (spanS [92]).1 = 0 := rfl
      rw [if_pos this, kindsS_snd k1]
      simp [kindsS]
    | cons d r =>
      have : (spanS (92 :: d :: r)).1 = 2 := rfl
      rw [this, if_neg (by decide)]
      exact RunK.cons k1 (RunK.cons (show kStep 0 true d = (112, 0, false) from rfl) (RunK.zero r))
  · by_cases h39 : c = 39
    · subst h39
      have k1 : kStep 0 false 39 = (112, 39, false) := rfl
      have hs := kind_sq r
      by_cases hn : Lib.indexByte r 39 < 0
      · rw [if_pos hn] at hs
        have : (spanS (39 :: r)).1 = 0 := by simp [spanS, hn]
        rw [if_pos this, kindsS_snd k1]
        exact hs
      · rw [if_neg hn] at hs
        have : (spanS (39 :: r)).1 = (Lib.indexByte r 39).toNat + 1 + 1 := by simp [spanS, hn]
        rw [this, if_neg (by omega)]
        exact RunK.cons k1 hs
    · by_cases h34 : c = 34
      · subst h34
        have k1 : kStep 0 false 34 = (112, 34, false) := rfl
        have hs := kind_dq r
        cases hd : dqS r with
        | none =>
          rw [hd] at hs
          have : (spanS (34 :: r)).1 = 0 := by simp [spanS, hd]
          rw [if_pos this, kindsS_snd k1]
          exact hs
        | some x =>
          rw [hd] at hs
          have : (spanS (34 :: r)).1 = x.1 + 1 := by simp [spanS, hd]
          rw [this, if_neg (by omega)]
          exact RunK.cons k1 hs
      · have : (spanS (c :: r)).1 = 1 := by simp [spanS, h92, h39, h34]
        rw [this, if_neg (by decide)]
        rw [stopB_or, Bool.or_eq_false_iff] at hc
        have k1 : kStep 0 false c = (112, 0, false) := by rw [kStep_bare c h92 h39 h34, if_neg (by rw [hc.1]; simp), if_neg (by rw [hc.2]; simp)]
        exact RunK.cons k1 (RunK.zero r)
theorem word_kinds : ∀ (m : Nat) (l : List UInt8), l.length ≤ m → match wordS l with | none => (kindsS 0 false l).2 ≠ (0, false) | some n => RunK 0 false l n ∧ Brk (l.drop n)
  | _, [], _ => by
    rw [wordS_nil]
    exact ⟨RunK.zero _, .inl rfl⟩
  | 0, c :: r, h => by simp at h
  | m + 1, c :: r, h => by
    cases hs : stopB c with
    | true =>
      rw [wordS_stop c r hs]
      exact ⟨RunK.zero _, .inr ⟨c, r, rfl, hs⟩⟩
    | false =>
      have hk := span_kinds c r hs
      by_cases h0 : (spanS (c :: r)).1 = 0
      · rw [if_pos h0] at hk
        rw [wordS_open c r hs h0]
        exact hk
      · rw [if_neg h0] at hk
        have ih := word_kinds m ((c :: r).drop (spanS (c :: r)).1) (by rw [List.length_drop]; simp at h ⊢; omega)
        rw [wordS_step c r hs h0]
        cases hw : wordS ((c :: r).drop (spanS (c :: r)).1) with
        | none =>
          rw [hw] at ih
          simp only [Option.map_none]
          have := congrArg Prod.snd (show kindsS 0 false (c :: r) = _ from hk)
          rw [this]
          exact ih
        | some n =>
          rw [hw] at ih
          simp only [Option.map_some]
          refine ⟨hk.add ih.1, ?_⟩
          have := ih.2
          rw [List.drop_drop, Nat.add_comm] at this
          exact this
theorem kStep_blank (c : UInt8) (h : blankB c = true) : kStep 0 false c = (98, 0, false) := by
  have h1 : c = 32 ∨ c = 9 := by simpa [blankB] using h
  rcases h1 with rfl | rfl <;> rfl
theorem kStep_op (c : UInt8) (h : opB c = true) : kStep 0 false c = (111, 0, false) := by
  have h1 : c = 59 ∨ c = 38 ∨ c = 124 ∨ c = 60 ∨ c = 62 := by simpa [opB] using h
  rcases h1 with rfl | rfl | rfl | rfl | rfl <;> rfl
theorem toksS_bl (c : UInt8) (r : List UInt8) (h : blankB c = true) : toksS (c :: r) = toksS r := by
  cases hd : r.dropWhile blankB with
  | nil => rw [toksS_none r hd, toksS_none (c :: r) (by rw [List.dropWhile_cons, h]; exact hd)]
  | cons d u => rw [toksS_cons r d u hd, toksS_cons (c :: r) d u (by rw [List.dropWhile_cons, h]; exact hd)]
theorem tokS_op (c : UInt8) (r : List UInt8) (h : opB c = true) : tokS (c :: r) = some (if (r.head? == some c && twiceB c) = true then 2 else 1) := by
  cases r with
  | nil => simp [tokS, h]
  | cons d r =>
    by_cases hd : (d == c && twiceB c) = true
    · simp [tokS, h, hd]
    · simp only [Bool.not_eq_true] at hd
      simp [tokS, h, hd]
theorem tokS_word (c : UInt8) (r : List UInt8) (h : opB c = false) : tokS (c :: r) = wordS (c :: r) := by
  cases r with
  | nil => simp [tokS, h]
  | cons d r => simp [tokS, h]
theorem toks_kinds : ∀ (m : Nat) (l : List UInt8), l.length ≤ m → match toksS l with | none => (kindsS 0 false l).2 ≠ (0, false) | some _ => (kindsS 0 false l).2 = (0, false)
  | _, [], _ => by
    rw [toksS_none [] rfl]
    simp [kindsS]
  | 0, c :: r, h => by simp at h
  | m + 1, c :: r, h => by
    have hrl : r.length ≤ m := by simpa using h
    cases hb : blankB c with
    | true =>
      rw [toksS_bl c r hb, kindsS_snd (kStep_blank c hb)]
      exact toks_kinds m r hrl
    | false =>
      have hd : (c :: r).dropWhile blankB = c :: r := by rw [List.dropWhile_cons, hb]; simp
      rw [toksS_cons _ c r hd]
      cases ho : opB c with
      | true =>
        rw [tokS_op c r ho]
        simp only
        by_cases h2 : (r.head? == some c && twiceB c) = true
        · rw [if_pos h2]
          cases r with
          | nil => simp at h2
          | cons d r =>
            have hdc : d = c := by simp at h2; exact h2.1
            subst hdc
            have ih := toks_kinds m r (by simp at hrl; omega)
            rw [kindsS_snd (kStep_op d ho), kindsS_snd (kStep_op d ho)]
            simp only [List.drop_succ_cons, List.drop_zero]
            cases ht : toksS r with
            | none => rw [ht] at ih; exact ih
            | some L => rw [ht] at ih; exact ih
        · rw [if_neg h2]
          have ih := toks_kinds m r hrl
          rw [kindsS_snd (kStep_op c ho)]
          simp only [List.drop_succ_cons, List.drop_zero]
          cases ht : toksS r with
          | none => rw [ht] at ih; exact ih
          | some L => rw [ht] at ih; exact ih
      | false =>
        rw [tokS_word c r ho]
        have hs : stopB c = false := by rw [stopB_or, hb, ho]; rfl
        have hw := word_kinds (m + 1) (c :: r) h
        cases hww : wordS (c :: r) with
        | none => rw [hww] at hw; exact hw
        | some n =>
          rw [hww] at hw
          have hn : 1 ≤ n := tokS_pos c r n hb (by rw [tokS_word c r ho]; exact hww)
          have ih := toks_kinds m ((c :: r).drop n) (by rw [List.length_drop]; simp at h ⊢; omega)
          have he := congrArg Prod.snd (show kindsS 0 false (c :: r) = _ from hw.1)
          rw [he]
          simp only
          cases ht : toksS ((c :: r).drop n) with
          | none => rw [ht] at ih; exact ih
          | some L => rw [ht] at ih; exact ih
end Go.Proofs.YtmagggflamdahaaGreatDoor

namespace Go.Proofs.YtmagggflamdahaaGreatDoor
open Go.RowKit

/-- is a token an operator -/
def flagT (t : List UInt8) : Bool := opB (t.headD 0)
def flagV (t : List UInt8) : Value := .bool (flagT t)
/-- a line's tokens, and of each whether it is an operator -/
def TokensQ (L : List (List UInt8)) (w : World) (e : Ending) (w' : World) : Prop := ∃ v u, e = .returned (.tuple #[v, u]) ∧ w'.ownsRow w.heap.size 9 1 v L.length (L.map strV) ∧ w'.ownsRow w.heap.size 4 1 u L.length (L.map flagV) ∧ Below w.heap.size w w'
theorem boolInfo : (Tryz.prog.info? 4).map (fun i => (i.zero, i.size, i.bytes)) = some (some (.bool false), 1, 1) := by kernel_rfl
theorem apart_rows {w : World} {B C : Nat} {e f : TypeId} {a b : Nat} {v u : Value} {n m : Nat} {xs ys : List Value} (h : w.ownsRow B e a v n xs) (h2 : w.ownsRow C f b u m ys) (hne : e ≠ f) : v.ownBlock = none ∨ v.ownBlock ≠ u.ownBlock := by
  rcases h.2 with ⟨rfl, _⟩ | ⟨g, cap, cur, rfl, _, hg, _⟩
  · exact .inl rfl
  · refine .inr ?_
    rcases h2.2 with ⟨rfl, _⟩ | ⟨g2, cap2, cur2, rfl, _, hg2, _⟩
    · simp [Value.ownBlock]
    · simp only [Value.ownBlock, ne_eq, Option.some.injEq]
      rintro rfl
      rw [hg] at hg2
      simp only [Option.some.injEq, Obj.cells.injEq] at hg2
      exact hne hg2.2.1

theorem tok_next (s : ByteArray) (i : Nat) {h : i < s.size} (c : UInt8) (hc : c = s[i]'h) (hd : s.data.toList.drop i = s[i]'h :: s.data.toList.drop (i + 1)) (hb : blankB c = false) (n : Nat) (hn : tokS (c :: s.data.toList.drop (i + 1)) = some n) {X : List UInt8} (hX : X = (s.data.toList.drop i).take n)
    {L Lp : List (List UInt8)} (hT : ∃ Lr, toksS (c :: s.data.toList.drop (i + 1)) = some Lr ∧ L = Lp ++ Lr) : ∃ Lr, toksS (s.data.toList.drop (i + n)) = some Lr ∧ L = (Lp ++ [X]) ++ Lr := by
  obtain ⟨Lr, h1, h2⟩ := hT
  rw [toksS_cons _ c (s.data.toList.drop (i + 1)) (by rw [List.dropWhile_cons, hb]; simp), hn] at h1
  simp only at h1
  rw [hc, ← hd, List.drop_drop] at h1
  obtain ⟨Lr', h3, h4⟩ := Option.map_eq_some_iff.1 h1
  exact ⟨Lr', h3, by rw [h2, ← h4, hX]; simp⟩
theorem two_kind1 (s kb : ByteArray) (i : Nat) (h1 : i + 1 < s.size) (h2 : i + 1 < kb.size) (hK : kindsS 0 false (s.data.toList.drop (i + 1)) = (kb.data.toList.drop (i + 1), 0, false)) (ho : opB (s[i + 1]'h1) = true) : kb[i + 1]'h2 = 111 := by
  rw [drop_at s (i + 1) h1, drop_at kb (i + 1) h2, kindsS_step _ _ _ _ _ (kStep_op _ ho)] at hK
  simp only [Prod.mk.injEq, List.cons.injEq] at hK
  exact hK.1.1.symm
theorem two_kinds (s kb : ByteArray) (i : Nat) (h1 : i + 1 < s.size) (h2 : i + 1 < kb.size) (hK : kindsS 0 false (s.data.toList.drop (i + 1)) = (kb.data.toList.drop (i + 1), 0, false)) (ho : opB (s[i + 1]'h1) = true) : kindsS 0 false (s.data.toList.drop (i + 2)) = (kb.data.toList.drop (i + 2), 0, false) := by
  rw [drop_at s (i + 1) h1, drop_at kb (i + 1) h2, kindsS_step _ _ _ _ _ (kStep_op _ ho)] at hK
  simp only [Prod.mk.injEq, List.cons.injEq] at hK
  exact Prod.ext hK.1.2 hK.2
theorem word_run (s kb : ByteArray) (i : Nat) {h : i < s.size} (c : UInt8) (n : Nat) (hc : c = s[i]'h) (hd : s.data.toList.drop i = s[i]'h :: s.data.toList.drop (i + 1)) (hK : kindsS 0 false (c :: s.data.toList.drop (i + 1)) = (kb.data.toList.drop i, 0, false)) (hR : RunK 0 false (c :: s.data.toList.drop (i + 1)) n) :
    (∀ j, i ≤ j → j < i + n → ∀ hj : j < kb.size, ((kb[j]'hj).toNat : Int) = 112) ∧ kindsS 0 false (s.data.toList.drop (i + n)) = (kb.data.toList.drop (i + n), 0, false) := by
  unfold RunK at hR
  rw [hK] at hR
  simp only [Prod.mk.injEq] at hR
  have hdr : (c :: s.data.toList.drop (i + 1)).drop n = s.data.toList.drop (i + n) := by rw [hc, ← hd, List.drop_drop]
  rw [hdr] at hR
  constructor
  · intro j h1 h2 hj
    have h3 : (kb.data.toList.drop i)[j - i]? = some 112 := by
      rw [hR.1, List.getElem?_append_left (by rw [List.length_replicate]; omega), List.getElem?_replicate, if_pos (by omega)]
    rw [List.getElem?_drop] at h3
    have h4 : i + (j - i) = j := by omega
    rw [h4] at h3
    have h5 : kb.data.toList[j]? = some (kb[j]'hj) := by
      rw [List.getElem?_eq_getElem (by simpa using hj)]
      rfl
    rw [h5] at h3
    injection h3 with h3
    rw [h3]
    rfl
  · have h1 : kb.data.toList.drop (i + n) = (kindsS 0 false (s.data.toList.drop (i + n))).1 := by
      have h2 := congrArg (List.drop n) hR.1
      rw [List.drop_drop, List.drop_left' (by simp)] at h2
      exact h2
    rw [h1]
    exact Prod.ext rfl hR.2.symm
theorem word_end (s kb : ByteArray) (i n : Nat) (hK : kindsS 0 false (s.data.toList.drop (i + n)) = (kb.data.toList.drop (i + n), 0, false)) (hB : Brk (s.data.toList.drop (i + n))) : i + n < s.size → ∀ h : i + n < kb.size, (((kb[i + n]'h).toNat : Int) == 112) = false := by
  intro h1 h2
  rw [drop_at s (i + n) h1] at hK hB
  rcases hB with h | ⟨d, r, he, hd⟩
  · cases h
  · injection he with he _
    rw [drop_at kb (i + n) h2, he] at hK
    rw [stopB_or, Bool.or_eq_true] at hd
    rcases hd with hd | hd
    · rw [kindsS_step _ _ _ _ _ (kStep_blank d hd)] at hK
      simp only [Prod.mk.injEq, List.cons.injEq] at hK
      rw [← hK.1.1]
      rfl
    · rw [kindsS_step _ _ _ _ _ (kStep_op d hd)] at hK
      simp only [Prod.mk.injEq, List.cons.injEq] at hK
      rw [← hK.1.1]
      rfl

set_option maxHeartbeats 16000000 in
set_option maxRecDepth 100000 in
theorem refTokens_any (s : ByteArray) (hs : s.size ≤ 65536) (L : List (List UInt8)) (hL : toksS s.data.toList = some L) (w : World) : Calls Tryz.prog 25 #[.string s] w (TokensQ L w) := by
  obtain ⟨i0, hi0, hz0, hz1, hz2⟩ := info_parts strInfo
  obtain ⟨j0, hj0, hy0, hy1, hy2⟩ := info_parts boolInfo
  have hsl : s.data.toList.length = s.size := by simp
  have hfin : (kindsS 0 false s.data.toList).2 = (0, false) := by
    have := toks_kinds s.data.toList.length s.data.toList (Nat.le_refl _)
    rw [hL] at this
    exact this
  have HKs := Lib.hid (refKinds_any s (by omega) w)
  have hkl := kindsS_len 0 false s.data.toList
  have hke : kindsS 0 false s.data.toList = ((kindsS 0 false s.data.toList).1, 0, false) := by rw [← hfin]
  obtain ⟨kb, hkb⟩ : ∃ kb : ByteArray, kb = ⟨(kindsS 0 false s.data.toList).1.toArray⟩ := ⟨_, rfl⟩
  have hkbl : kb.data.toList = (kindsS 0 false s.data.toList).1 := by rw [hkb]
  have hkbs : kb.size = s.size := by
    have : kb.data.toList.length = kb.size := by simp
    rw [← this, hkbl, hkl, hsl]
  rw [← hkb, hfin] at HKs
  have HK0 : Hid (kindsS 0 false (s.data.toList.drop 0) = (kb.data.toList.drop 0, 0, false)) := Lib.hid (by rw [List.drop_zero, List.drop_zero, hkbl]; exact hke)
  have HT0 : Hid (∃ Lr, toksS (s.data.toList.drop 0) = some Lr ∧ L = [] ++ Lr) := Lib.hid ⟨L, by rw [List.drop_zero]; exact hL, rfl⟩
  clear hkb hkbl hfin hke hL hkl
  go_enter Tryz.func25, Tryz.ntmps25
  go_wp2_with fail
  go_at_call 24
  refine HKs.out.mono ?_
  rintro e w1 ⟨rfl, hb1⟩
  have HB1 := Lib.hid hb1
  clear hb1
  go_wp2
  go_loopw [6, 7, 8] (fun v6 v7 v8 wr => ∃ (i : Nat) (Lp : List (List UInt8)) (v u : Value), v = v6 ∧ u = v7 ∧ v8 = .int .i64 i ∧ i ≤ s.size ∧ Lp.length ≤ i ∧ Hid (∃ Lr, toksS (s.data.toList.drop i) = some Lr ∧ L = Lp ++ Lr) ∧ Hid (kindsS 0 false (s.data.toList.drop i) = (kb.data.toList.drop i, 0, false)) ∧
      Hid (wr.ownsRow w.heap.size 9 1 v Lp.length (Lp.map strV)) ∧ Hid (wr.ownsRow w.heap.size 4 1 u Lp.length (Lp.map flagV)) ∧ Hid (Below w.heap.size w wr)) (fun _ _ v8 _ => s.size + 1 - (intOf v8).toNat)
  case atStart => exact ⟨0, [], _, _, rfl, rfl, rfl, by omega, by simp, HT0, HK0, Lib.hid ⟨rfl, .inl ⟨rfl, rfl⟩⟩, Lib.hid ⟨rfl, .inl ⟨rfl, rfl⟩⟩, HB1⟩
  case round =>
    obtain ⟨i, Lp, v, u, rfl, rfl, rfl, hi, hLp, HT, HK, HV, HU, HB⟩ := hrel
    by_cases hlt : i < s.size
    · have hlk : i < kb.size := by omega
      have hd := drop_at s i hlt
      have hdk := drop_at kb i hlk
      obtain ⟨c, hc⟩ : ∃ c, c = s[i]'hlt := ⟨_, rfl⟩
      have hK := HK.out
      rw [hd, ← hc] at hK
      have HKx := Lib.hid hK
      have HTx : Hid (∃ Lr, toksS (c :: s.data.toList.drop (i + 1)) = some Lr ∧ L = Lp ++ Lr) := Lib.hid (by have := HT.out; rw [hd, ← hc] at this; exact this)
      have HC := Lib.hid hc
      have HD := Lib.hid hd
      cases hb : blankB c with
      | true =>
        have hst := kStep_blank c hb
        rw [kindsS_step c _ _ _ _ hst, hdk] at hK
        simp only [Prod.mk.injEq, List.cons.injEq] at hK
        have hkv : ((kb[i]'hlk).toNat : Int) = 98 := by rw [← hK.1.1]; rfl
        have HK2 : Hid (kindsS 0 false (s.data.toList.drop (i + 1)) = (kb.data.toList.drop (i + 1), 0, false)) := Lib.hid (Prod.ext hK.1.2 hK.2)
        have HT2 : Hid (∃ Lr, toksS (s.data.toList.drop (i + 1)) = some Lr ∧ L = Lp ++ Lr) := Lib.hid (by have := HTx.out; rw [toksS_bl c _ hb] at this; exact this)
        clear hd hdk hc hK hst hb
        go_wp2
        go_roundw
        case rel => exact ⟨i + 1, Lp, _, _, rfl, rfl, by go_num, by omega, by omega, HT2, HK2, HV, HU, HB⟩
        case measure => simp [intOf]; omega
      | false =>
        cases ho : opB c with
        | true =>
          have hst := kStep_op c ho
          rw [kindsS_step c _ _ _ _ hst, hdk] at hK
          simp only [Prod.mk.injEq, List.cons.injEq] at hK
          have hkv : ((kb[i]'hlk).toNat : Int) = 111 := by rw [← hK.1.1]; rfl
          have HK1 : Hid (kindsS 0 false (s.data.toList.drop (i + 1)) = (kb.data.toList.drop (i + 1), 0, false)) := Lib.hid (Prod.ext hK.1.2 hK.2)
          have HO := Lib.hid ho
          have HBk := Lib.hid hb
          clear hd hdk hc hK hst hb ho
          by_cases hlt1 : i + 1 < s.size
          · have hk1 : i + 1 < kb.size := by omega
            have hlt2 : (i : Int) + 1 < (s.size : Int) := by omega
            have hlt3 : (i : Int) + 1 < (kb.size : Int) := by omega
            have hlt4 : 0 ≤ (i : Int) + 1 := by omega
            have hlt5 : ((i : Int) + 1).toNat = i + 1 := by omega
            have HD1 := Lib.hid (drop_at s (i + 1) hlt1)
            cases bA : (((kb[i + 1]'hk1).toNat : Int) == 111) with
            | false =>
              have HNE : Hid (s[i + 1]'hlt1 ≠ c) := Lib.hid (fun e => by
                have h1 := two_kind1 s kb i hlt1 hk1 HK1.out (by rw [e]; exact HO.out)
                rw [h1] at bA
                exact absurd bA (by decide))
              have HN : Hid (tokS (c :: s.data.toList.drop (i + 1)) = some 1) := Lib.hid (by
                rw [tokS_op c _ HO.out]
                rw [if_neg (by rw [HD1.out]; simp [HNE.out])])
              obtain ⟨X, hX⟩ : ∃ X, X = (s.data.toList.drop i).take 1 := ⟨_, rfl⟩
              have HX := Lib.hid hX
              have hsl1 : ∀ W : World, (Instr.slice 9 (.string s) (some (.int .i64 i)) (some (.int .i64 ((i : Int) + 1))) none).run Tryz.prog W = .ok (.string ⟨X.toArray⟩) W := fun W => by
                rw [run_slice_string W 9 s .i64 .i64 i ((i : Int) + 1) Tryz.underlying9 (by omega) (by omega) (by omega)]
                congr 2
                refine ext_str s _ _ X ?_
                rw [hX]
                congr 1
                omega
              have hcv : ((i : Int) + 1).toNat = i + 1 := by omega
              have HK2 : Hid (kindsS 0 false (s.data.toList.drop (i + 1)) = (kb.data.toList.drop (i + 1), 0, false)) := Lib.hid (HK1.out)
              have HT2 : Hid (∃ Lr, toksS (s.data.toList.drop (i + 1)) = some Lr ∧ L = (Lp ++ [X]) ++ Lr) := Lib.hid (tok_next s i c HC.out HD.out HBk.out 1 HN.out hX HTx.out)
              have HXc : Hid (flagV X = .bool true) := Lib.hid (by
                rw [hX, HD.out, ← HC.out]
                show Value.bool (opB c) = _
                rw [HO.out])
              clear hX hcv
              go_wp2_with fail
              go_quiet (fail)
              go_wp2_with (at_builtin; refine wpList_append_own _ rfl _ _ 29 rfl w.heap.size 9 i0 (.string .empty) 1 16 Tryz.underlying29 hi0 hz0 hz1 hz2 rfl (by decide) _ _ _ rfl (HV.out.alloc _) ⟨wr.heap.size, 0, none⟩ 1 1 [.string ⟨(X).toArray⟩] rfl rfl ?a1 ?b1 ?c1 ?d1 ?e1 ?_)
              try case a1 =>
                intro j y hj
                match j, hj with
                | 0, hj => simp at hj; subst hj; exact Lib.cell_of_heap (heap_alloc_new _ _) 0
              try case b1 => first | rfl | (intro y hy; simp at hy; subst hy; rfl)
              try case c1 => unfold maxLen; omega
              try case d1 => omega
              try case e1 => exact Nat.le_trans HB.out.size (by simp)
              intro v' w3 hown' hgrow hsame
              have HB3 : Hid (Below w.heap.size w w3) := Lib.hid (((HB.out.trans ((belowN wr _).mono HB.out.size)).alloc HB.out.size _).grown hgrow (Nat.le_trans HB.out.size (by simp)) (fun k hk => (HV.out.lt k hk).1))
              have HV3 : Hid (w3.ownsRow w.heap.size 9 1 v' (Lp ++ [X]).length ((Lp ++ [X]).map strV)) := Lib.hid (by
                rw [List.length_append, List.map_append, List.map_singleton]
                exact hown')
              have HU3 : Hid (w3.ownsRow w.heap.size 4 1 u Lp.length (Lp.map flagV)) := Lib.hid (((ownsRow_heap HU.out (w' := wr.drewN _) (fun _ _ => rfl)).alloc _).kept hgrow (apart_rows HU.out HV.out (by decide)))
              clear hown' hgrow hsame
              go_wp2_with (at_builtin; refine wpList_append_own _ rfl _ _ 62 rfl w.heap.size 4 j0 (.bool false) 1 1 Tryz.underlying62 hj0 hy0 hy1 hy2 rfl (by decide) _ _ _ rfl (HU3.out.alloc _) ⟨w3.heap.size, 0, none⟩ 1 1 [.bool true] rfl rfl ?f1 ?g1 ?h1 ?i1 ?j1 ?_)
              try case f1 =>
                intro j y hj
                match j, hj with
                | 0, hj => simp at hj; subst hj; exact Lib.cell_of_heap (heap_alloc_new _ _) 0
              try case g1 => first | rfl | (intro y hy; simp at hy; subst hy; rfl)
              try case h1 => unfold maxLen; omega
              try case i1 => omega
              try case j1 => have := HB3.out.size; simp; omega
              intro u' w4 hown' hgrow hsame
              have HB4 := Lib.hid ((HB3.out.alloc HB3.out.size (.cells #[.bool true] 4)).grown hgrow (by have := HB3.out.size; simp; omega) (fun k hk => (HU3.out.lt k hk).1))
              have HU4 : Hid (w4.ownsRow w.heap.size 4 1 u' (Lp ++ [X]).length ((Lp ++ [X]).map flagV)) := Lib.hid (by
                rw [List.length_append, List.map_append, List.map_singleton]
                have : flagV (X) = .bool true := HXc.out
                rw [this]
                exact hown')
              have HV4 : Hid (w4.ownsRow w.heap.size 9 1 v' (Lp ++ [X]).length ((Lp ++ [X]).map strV)) := Lib.hid ((HV3.out.alloc (.cells #[.bool true] 4)).kept hgrow (apart_rows HV3.out HU3.out (by decide)))
              clear hown' hgrow hsame
              go_wp2
              go_roundw
              case rel => exact ⟨i + 1, Lp ++ [X], _, _, rfl, rfl, by go_num, by omega, by simp; omega, HT2, HK2, HV4, HU4, HB4⟩
              case measure => simp [intOf]; omega
            | true =>
              cases bB : (((s[i + 1]'hlt1).toNat : Int) == ((s[i]'hlt).toNat : Int)) with
              | false =>
                have HNE : Hid (s[i + 1]'hlt1 ≠ c) := Lib.hid (fun e => by
                  rw [e, HC.out] at bB
                  simp at bB)
                have HN : Hid (tokS (c :: s.data.toList.drop (i + 1)) = some 1) := Lib.hid (by
                  rw [tokS_op c _ HO.out]
                  rw [if_neg (by rw [HD1.out]; simp [HNE.out])])
                obtain ⟨X, hX⟩ : ∃ X, X = (s.data.toList.drop i).take 1 := ⟨_, rfl⟩
                have HX := Lib.hid hX
                have hsl1 : ∀ W : World, (Instr.slice 9 (.string s) (some (.int .i64 i)) (some (.int .i64 ((i : Int) + 1))) none).run Tryz.prog W = .ok (.string ⟨X.toArray⟩) W := fun W => by
                  rw [run_slice_string W 9 s .i64 .i64 i ((i : Int) + 1) Tryz.underlying9 (by omega) (by omega) (by omega)]
                  congr 2
                  refine ext_str s _ _ X ?_
                  rw [hX]
                  congr 1
                  omega
                have hcv : ((i : Int) + 1).toNat = i + 1 := by omega
                have HK2 : Hid (kindsS 0 false (s.data.toList.drop (i + 1)) = (kb.data.toList.drop (i + 1), 0, false)) := Lib.hid (HK1.out)
                have HT2 : Hid (∃ Lr, toksS (s.data.toList.drop (i + 1)) = some Lr ∧ L = (Lp ++ [X]) ++ Lr) := Lib.hid (tok_next s i c HC.out HD.out HBk.out 1 HN.out hX HTx.out)
                have HXc : Hid (flagV X = .bool true) := Lib.hid (by
                  rw [hX, HD.out, ← HC.out]
                  show Value.bool (opB c) = _
                  rw [HO.out])
                clear hX hcv
                go_wp2_with fail
                go_quiet (fail)
                go_wp2_with (at_builtin; refine wpList_append_own _ rfl _ _ 29 rfl w.heap.size 9 i0 (.string .empty) 1 16 Tryz.underlying29 hi0 hz0 hz1 hz2 rfl (by decide) _ _ _ rfl (HV.out.alloc _) ⟨wr.heap.size, 0, none⟩ 1 1 [.string ⟨(X).toArray⟩] rfl rfl ?a2 ?b2 ?c2 ?d2 ?e2 ?_)
                try case a2 =>
                  intro j y hj
                  match j, hj with
                  | 0, hj => simp at hj; subst hj; exact Lib.cell_of_heap (heap_alloc_new _ _) 0
                try case b2 => first | rfl | (intro y hy; simp at hy; subst hy; rfl)
                try case c2 => unfold maxLen; omega
                try case d2 => omega
                try case e2 => exact Nat.le_trans HB.out.size (by simp)
                intro v' w3 hown' hgrow hsame
                have HB3 : Hid (Below w.heap.size w w3) := Lib.hid (((HB.out.trans ((belowN wr _).mono HB.out.size)).alloc HB.out.size _).grown hgrow (Nat.le_trans HB.out.size (by simp)) (fun k hk => (HV.out.lt k hk).1))
                have HV3 : Hid (w3.ownsRow w.heap.size 9 1 v' (Lp ++ [X]).length ((Lp ++ [X]).map strV)) := Lib.hid (by
                  rw [List.length_append, List.map_append, List.map_singleton]
                  exact hown')
                have HU3 : Hid (w3.ownsRow w.heap.size 4 1 u Lp.length (Lp.map flagV)) := Lib.hid (((ownsRow_heap HU.out (w' := wr.drewN _) (fun _ _ => rfl)).alloc _).kept hgrow (apart_rows HU.out HV.out (by decide)))
                clear hown' hgrow hsame
                go_wp2_with (at_builtin; refine wpList_append_own _ rfl _ _ 62 rfl w.heap.size 4 j0 (.bool false) 1 1 Tryz.underlying62 hj0 hy0 hy1 hy2 rfl (by decide) _ _ _ rfl (HU3.out.alloc _) ⟨w3.heap.size, 0, none⟩ 1 1 [.bool true] rfl rfl ?f2 ?g2 ?h2 ?i2 ?j2 ?_)
                try case f2 =>
                  intro j y hj
                  match j, hj with
                  | 0, hj => simp at hj; subst hj; exact Lib.cell_of_heap (heap_alloc_new _ _) 0
                try case g2 => first | rfl | (intro y hy; simp at hy; subst hy; rfl)
                try case h2 => unfold maxLen; omega
                try case i2 => omega
                try case j2 => have := HB3.out.size; simp; omega
                intro u' w4 hown' hgrow hsame
                have HB4 := Lib.hid ((HB3.out.alloc HB3.out.size (.cells #[.bool true] 4)).grown hgrow (by have := HB3.out.size; simp; omega) (fun k hk => (HU3.out.lt k hk).1))
                have HU4 : Hid (w4.ownsRow w.heap.size 4 1 u' (Lp ++ [X]).length ((Lp ++ [X]).map flagV)) := Lib.hid (by
                  rw [List.length_append, List.map_append, List.map_singleton]
                  have : flagV (X) = .bool true := HXc.out
                  rw [this]
                  exact hown')
                have HV4 : Hid (w4.ownsRow w.heap.size 9 1 v' (Lp ++ [X]).length ((Lp ++ [X]).map strV)) := Lib.hid ((HV3.out.alloc (.cells #[.bool true] 4)).kept hgrow (apart_rows HV3.out HU3.out (by decide)))
                clear hown' hgrow hsame
                go_wp2
                go_roundw
                case rel => exact ⟨i + 1, Lp ++ [X], _, _, rfl, rfl, by go_num, by omega, by simp; omega, HT2, HK2, HV4, HU4, HB4⟩
                case measure => simp [intOf]; omega
              | true =>
                have HDC : Hid (s[i + 1]'hlt1 = c) := Lib.hid (by
                  rw [beq_iff_eq] at bB
                  rw [HC.out]
                  exact UInt8.toNat_inj.1 (Int.ofNat_inj.1 bB))
                cases h38 : (((s[i]'hlt).toNat : Int) == 38) with
                | true =>
                  have HCb := Lib.hid (byte_is s i hlt 38 38 rfl h38)
                  have HN : Hid (tokS (c :: s.data.toList.drop (i + 1)) = some 2) := Lib.hid (by
                    rw [tokS_op c _ HO.out]
                    rw [if_pos (by rw [HD1.out, HDC.out, HC.out, HCb.out]; rfl)])
                  obtain ⟨X, hX⟩ : ∃ X, X = (s.data.toList.drop i).take 2 := ⟨_, rfl⟩
                  have HX := Lib.hid hX
                  have hsl1 : ∀ W : World, (Instr.slice 9 (.string s) (some (.int .i64 i)) (some (.int .i64 ((i : Int) + 2))) none).run Tryz.prog W = .ok (.string ⟨X.toArray⟩) W := fun W => by
                    rw [run_slice_string W 9 s .i64 .i64 i ((i : Int) + 2) Tryz.underlying9 (by omega) (by omega) (by omega)]
                    congr 2
                    refine ext_str s _ _ X ?_
                    rw [hX]
                    congr 1
                    omega
                  have hcv : ((i : Int) + 2).toNat = i + 2 := by omega
                  have HK2 : Hid (kindsS 0 false (s.data.toList.drop (i + 2)) = (kb.data.toList.drop (i + 2), 0, false)) := Lib.hid (two_kinds s kb i hlt1 hk1 HK1.out (by rw [HDC.out]; exact HO.out))
                  have HT2 : Hid (∃ Lr, toksS (s.data.toList.drop (i + 2)) = some Lr ∧ L = (Lp ++ [X]) ++ Lr) := Lib.hid (tok_next s i c HC.out HD.out HBk.out 2 HN.out hX HTx.out)
                  have HXc : Hid (flagV X = .bool true) := Lib.hid (by
                    rw [hX, HD.out, ← HC.out]
                    show Value.bool (opB c) = _
                    rw [HO.out])
                  clear hX hcv
                  go_wp2_with fail
                  go_quiet (fail)
                  go_wp2_with (at_builtin; refine wpList_append_own _ rfl _ _ 29 rfl w.heap.size 9 i0 (.string .empty) 1 16 Tryz.underlying29 hi0 hz0 hz1 hz2 rfl (by decide) _ _ _ rfl (HV.out.alloc _) ⟨wr.heap.size, 0, none⟩ 1 1 [.string ⟨(X).toArray⟩] rfl rfl ?a3 ?b3 ?c3 ?d3 ?e3 ?_)
                  try case a3 =>
                    intro j y hj
                    match j, hj with
                    | 0, hj => simp at hj; subst hj; exact Lib.cell_of_heap (heap_alloc_new _ _) 0
                  try case b3 => first | rfl | (intro y hy; simp at hy; subst hy; rfl)
                  try case c3 => unfold maxLen; omega
                  try case d3 => omega
                  try case e3 => exact Nat.le_trans HB.out.size (by simp)
                  intro v' w3 hown' hgrow hsame
                  have HB3 : Hid (Below w.heap.size w w3) := Lib.hid (((HB.out.trans ((belowN wr _).mono HB.out.size)).alloc HB.out.size _).grown hgrow (Nat.le_trans HB.out.size (by simp)) (fun k hk => (HV.out.lt k hk).1))
                  have HV3 : Hid (w3.ownsRow w.heap.size 9 1 v' (Lp ++ [X]).length ((Lp ++ [X]).map strV)) := Lib.hid (by
                    rw [List.length_append, List.map_append, List.map_singleton]
                    exact hown')
                  have HU3 : Hid (w3.ownsRow w.heap.size 4 1 u Lp.length (Lp.map flagV)) := Lib.hid (((ownsRow_heap HU.out (w' := wr.drewN _) (fun _ _ => rfl)).alloc _).kept hgrow (apart_rows HU.out HV.out (by decide)))
                  clear hown' hgrow hsame
                  go_wp2_with (at_builtin; refine wpList_append_own _ rfl _ _ 62 rfl w.heap.size 4 j0 (.bool false) 1 1 Tryz.underlying62 hj0 hy0 hy1 hy2 rfl (by decide) _ _ _ rfl (HU3.out.alloc _) ⟨w3.heap.size, 0, none⟩ 1 1 [.bool true] rfl rfl ?f3 ?g3 ?h3 ?i3 ?j3 ?_)
                  try case f3 =>
                    intro j y hj
                    match j, hj with
                    | 0, hj => simp at hj; subst hj; exact Lib.cell_of_heap (heap_alloc_new _ _) 0
                  try case g3 => first | rfl | (intro y hy; simp at hy; subst hy; rfl)
                  try case h3 => unfold maxLen; omega
                  try case i3 => omega
                  try case j3 => have := HB3.out.size; simp; omega
                  intro u' w4 hown' hgrow hsame
                  have HB4 := Lib.hid ((HB3.out.alloc HB3.out.size (.cells #[.bool true] 4)).grown hgrow (by have := HB3.out.size; simp; omega) (fun k hk => (HU3.out.lt k hk).1))
                  have HU4 : Hid (w4.ownsRow w.heap.size 4 1 u' (Lp ++ [X]).length ((Lp ++ [X]).map flagV)) := Lib.hid (by
                    rw [List.length_append, List.map_append, List.map_singleton]
                    have : flagV (X) = .bool true := HXc.out
                    rw [this]
                    exact hown')
                  have HV4 : Hid (w4.ownsRow w.heap.size 9 1 v' (Lp ++ [X]).length ((Lp ++ [X]).map strV)) := Lib.hid ((HV3.out.alloc (.cells #[.bool true] 4)).kept hgrow (apart_rows HV3.out HU3.out (by decide)))
                  clear hown' hgrow hsame
                  go_wp2
                  go_roundw
                  case rel => exact ⟨i + 2, Lp ++ [X], _, _, rfl, rfl, by go_num, by omega, by simp; omega, HT2, HK2, HV4, HU4, HB4⟩
                  case measure => simp [intOf]; omega
                | false =>
                  cases h124 : (((s[i]'hlt).toNat : Int) == 124) with
                  | true =>
                    have HCb := Lib.hid (byte_is s i hlt 124 124 rfl h124)
                    have HN : Hid (tokS (c :: s.data.toList.drop (i + 1)) = some 2) := Lib.hid (by
                      rw [tokS_op c _ HO.out]
                      rw [if_pos (by rw [HD1.out, HDC.out, HC.out, HCb.out]; rfl)])
                    obtain ⟨X, hX⟩ : ∃ X, X = (s.data.toList.drop i).take 2 := ⟨_, rfl⟩
                    have HX := Lib.hid hX
                    have hsl1 : ∀ W : World, (Instr.slice 9 (.string s) (some (.int .i64 i)) (some (.int .i64 ((i : Int) + 2))) none).run Tryz.prog W = .ok (.string ⟨X.toArray⟩) W := fun W => by
                      rw [run_slice_string W 9 s .i64 .i64 i ((i : Int) + 2) Tryz.underlying9 (by omega) (by omega) (by omega)]
                      congr 2
                      refine ext_str s _ _ X ?_
                      rw [hX]
                      congr 1
                      omega
                    have hcv : ((i : Int) + 2).toNat = i + 2 := by omega
                    have HK2 : Hid (kindsS 0 false (s.data.toList.drop (i + 2)) = (kb.data.toList.drop (i + 2), 0, false)) := Lib.hid (two_kinds s kb i hlt1 hk1 HK1.out (by rw [HDC.out]; exact HO.out))
                    have HT2 : Hid (∃ Lr, toksS (s.data.toList.drop (i + 2)) = some Lr ∧ L = (Lp ++ [X]) ++ Lr) := Lib.hid (tok_next s i c HC.out HD.out HBk.out 2 HN.out hX HTx.out)
                    have HXc : Hid (flagV X = .bool true) := Lib.hid (by
                      rw [hX, HD.out, ← HC.out]
                      show Value.bool (opB c) = _
                      rw [HO.out])
                    clear hX hcv
                    go_wp2_with fail
                    go_quiet (fail)
                    go_wp2_with (at_builtin; refine wpList_append_own _ rfl _ _ 29 rfl w.heap.size 9 i0 (.string .empty) 1 16 Tryz.underlying29 hi0 hz0 hz1 hz2 rfl (by decide) _ _ _ rfl (HV.out.alloc _) ⟨wr.heap.size, 0, none⟩ 1 1 [.string ⟨(X).toArray⟩] rfl rfl ?a4 ?b4 ?c4 ?d4 ?e4 ?_)
                    try case a4 =>
                      intro j y hj
                      match j, hj with
                      | 0, hj => simp at hj; subst hj; exact Lib.cell_of_heap (heap_alloc_new _ _) 0
                    try case b4 => first | rfl | (intro y hy; simp at hy; subst hy; rfl)
                    try case c4 => unfold maxLen; omega
                    try case d4 => omega
                    try case e4 => exact Nat.le_trans HB.out.size (by simp)
                    intro v' w3 hown' hgrow hsame
                    have HB3 : Hid (Below w.heap.size w w3) := Lib.hid (((HB.out.trans ((belowN wr _).mono HB.out.size)).alloc HB.out.size _).grown hgrow (Nat.le_trans HB.out.size (by simp)) (fun k hk => (HV.out.lt k hk).1))
                    have HV3 : Hid (w3.ownsRow w.heap.size 9 1 v' (Lp ++ [X]).length ((Lp ++ [X]).map strV)) := Lib.hid (by
                      rw [List.length_append, List.map_append, List.map_singleton]
                      exact hown')
                    have HU3 : Hid (w3.ownsRow w.heap.size 4 1 u Lp.length (Lp.map flagV)) := Lib.hid (((ownsRow_heap HU.out (w' := wr.drewN _) (fun _ _ => rfl)).alloc _).kept hgrow (apart_rows HU.out HV.out (by decide)))
                    clear hown' hgrow hsame
                    go_wp2_with (at_builtin; refine wpList_append_own _ rfl _ _ 62 rfl w.heap.size 4 j0 (.bool false) 1 1 Tryz.underlying62 hj0 hy0 hy1 hy2 rfl (by decide) _ _ _ rfl (HU3.out.alloc _) ⟨w3.heap.size, 0, none⟩ 1 1 [.bool true] rfl rfl ?f4 ?g4 ?h4 ?i4 ?j4 ?_)
                    try case f4 =>
                      intro j y hj
                      match j, hj with
                      | 0, hj => simp at hj; subst hj; exact Lib.cell_of_heap (heap_alloc_new _ _) 0
                    try case g4 => first | rfl | (intro y hy; simp at hy; subst hy; rfl)
                    try case h4 => unfold maxLen; omega
                    try case i4 => omega
                    try case j4 => have := HB3.out.size; simp; omega
                    intro u' w4 hown' hgrow hsame
                    have HB4 := Lib.hid ((HB3.out.alloc HB3.out.size (.cells #[.bool true] 4)).grown hgrow (by have := HB3.out.size; simp; omega) (fun k hk => (HU3.out.lt k hk).1))
                    have HU4 : Hid (w4.ownsRow w.heap.size 4 1 u' (Lp ++ [X]).length ((Lp ++ [X]).map flagV)) := Lib.hid (by
                      rw [List.length_append, List.map_append, List.map_singleton]
                      have : flagV (X) = .bool true := HXc.out
                      rw [this]
                      exact hown')
                    have HV4 : Hid (w4.ownsRow w.heap.size 9 1 v' (Lp ++ [X]).length ((Lp ++ [X]).map strV)) := Lib.hid ((HV3.out.alloc (.cells #[.bool true] 4)).kept hgrow (apart_rows HV3.out HU3.out (by decide)))
                    clear hown' hgrow hsame
                    go_wp2
                    go_roundw
                    case rel => exact ⟨i + 2, Lp ++ [X], _, _, rfl, rfl, by go_num, by omega, by simp; omega, HT2, HK2, HV4, HU4, HB4⟩
                    case measure => simp [intOf]; omega
                  | false =>
                    cases h62 : (((s[i]'hlt).toNat : Int) == 62) with
                    | true =>
                      have HCb := Lib.hid (byte_is s i hlt 62 62 rfl h62)
                      have HN : Hid (tokS (c :: s.data.toList.drop (i + 1)) = some 2) := Lib.hid (by
                        rw [tokS_op c _ HO.out]
                        rw [if_pos (by rw [HD1.out, HDC.out, HC.out, HCb.out]; rfl)])
                      obtain ⟨X, hX⟩ : ∃ X, X = (s.data.toList.drop i).take 2 := ⟨_, rfl⟩
                      have HX := Lib.hid hX
                      have hsl1 : ∀ W : World, (Instr.slice 9 (.string s) (some (.int .i64 i)) (some (.int .i64 ((i : Int) + 2))) none).run Tryz.prog W = .ok (.string ⟨X.toArray⟩) W := fun W => by
                        rw [run_slice_string W 9 s .i64 .i64 i ((i : Int) + 2) Tryz.underlying9 (by omega) (by omega) (by omega)]
                        congr 2
                        refine ext_str s _ _ X ?_
                        rw [hX]
                        congr 1
                        omega
                      have hcv : ((i : Int) + 2).toNat = i + 2 := by omega
                      have HK2 : Hid (kindsS 0 false (s.data.toList.drop (i + 2)) = (kb.data.toList.drop (i + 2), 0, false)) := Lib.hid (two_kinds s kb i hlt1 hk1 HK1.out (by rw [HDC.out]; exact HO.out))
                      have HT2 : Hid (∃ Lr, toksS (s.data.toList.drop (i + 2)) = some Lr ∧ L = (Lp ++ [X]) ++ Lr) := Lib.hid (tok_next s i c HC.out HD.out HBk.out 2 HN.out hX HTx.out)
                      have HXc : Hid (flagV X = .bool true) := Lib.hid (by
                        rw [hX, HD.out, ← HC.out]
                        show Value.bool (opB c) = _
                        rw [HO.out])
                      clear hX hcv
                      go_wp2_with fail
                      go_quiet (fail)
                      go_wp2_with (at_builtin; refine wpList_append_own _ rfl _ _ 29 rfl w.heap.size 9 i0 (.string .empty) 1 16 Tryz.underlying29 hi0 hz0 hz1 hz2 rfl (by decide) _ _ _ rfl (HV.out.alloc _) ⟨wr.heap.size, 0, none⟩ 1 1 [.string ⟨(X).toArray⟩] rfl rfl ?a5 ?b5 ?c5 ?d5 ?e5 ?_)
                      try case a5 =>
                        intro j y hj
                        match j, hj with
                        | 0, hj => simp at hj; subst hj; exact Lib.cell_of_heap (heap_alloc_new _ _) 0
                      try case b5 => first | rfl | (intro y hy; simp at hy; subst hy; rfl)
                      try case c5 => unfold maxLen; omega
                      try case d5 => omega
                      try case e5 => exact Nat.le_trans HB.out.size (by simp)
                      intro v' w3 hown' hgrow hsame
                      have HB3 : Hid (Below w.heap.size w w3) := Lib.hid (((HB.out.trans ((belowN wr _).mono HB.out.size)).alloc HB.out.size _).grown hgrow (Nat.le_trans HB.out.size (by simp)) (fun k hk => (HV.out.lt k hk).1))
                      have HV3 : Hid (w3.ownsRow w.heap.size 9 1 v' (Lp ++ [X]).length ((Lp ++ [X]).map strV)) := Lib.hid (by
                        rw [List.length_append, List.map_append, List.map_singleton]
                        exact hown')
                      have HU3 : Hid (w3.ownsRow w.heap.size 4 1 u Lp.length (Lp.map flagV)) := Lib.hid (((ownsRow_heap HU.out (w' := wr.drewN _) (fun _ _ => rfl)).alloc _).kept hgrow (apart_rows HU.out HV.out (by decide)))
                      clear hown' hgrow hsame
                      go_wp2_with (at_builtin; refine wpList_append_own _ rfl _ _ 62 rfl w.heap.size 4 j0 (.bool false) 1 1 Tryz.underlying62 hj0 hy0 hy1 hy2 rfl (by decide) _ _ _ rfl (HU3.out.alloc _) ⟨w3.heap.size, 0, none⟩ 1 1 [.bool true] rfl rfl ?f5 ?g5 ?h5 ?i5 ?j5 ?_)
                      try case f5 =>
                        intro j y hj
                        match j, hj with
                        | 0, hj => simp at hj; subst hj; exact Lib.cell_of_heap (heap_alloc_new _ _) 0
                      try case g5 => first | rfl | (intro y hy; simp at hy; subst hy; rfl)
                      try case h5 => unfold maxLen; omega
                      try case i5 => omega
                      try case j5 => have := HB3.out.size; simp; omega
                      intro u' w4 hown' hgrow hsame
                      have HB4 := Lib.hid ((HB3.out.alloc HB3.out.size (.cells #[.bool true] 4)).grown hgrow (by have := HB3.out.size; simp; omega) (fun k hk => (HU3.out.lt k hk).1))
                      have HU4 : Hid (w4.ownsRow w.heap.size 4 1 u' (Lp ++ [X]).length ((Lp ++ [X]).map flagV)) := Lib.hid (by
                        rw [List.length_append, List.map_append, List.map_singleton]
                        have : flagV (X) = .bool true := HXc.out
                        rw [this]
                        exact hown')
                      have HV4 : Hid (w4.ownsRow w.heap.size 9 1 v' (Lp ++ [X]).length ((Lp ++ [X]).map strV)) := Lib.hid ((HV3.out.alloc (.cells #[.bool true] 4)).kept hgrow (apart_rows HV3.out HU3.out (by decide)))
                      clear hown' hgrow hsame
                      go_wp2
                      go_roundw
                      case rel => exact ⟨i + 2, Lp ++ [X], _, _, rfl, rfl, by go_num, by omega, by simp; omega, HT2, HK2, HV4, HU4, HB4⟩
                      case measure => simp [intOf]; omega
                    | false =>
                      have HTw : Hid (twiceB c = false) := Lib.hid (by
                        rw [HC.out]
                        simp [twiceB, byte_not s i hlt 38 38 rfl h38, byte_not s i hlt 124 124 rfl h124, byte_not s i hlt 62 62 rfl h62])
                      have HN : Hid (tokS (c :: s.data.toList.drop (i + 1)) = some 1) := Lib.hid (by
                        rw [tokS_op c _ HO.out]
                        rw [if_neg (by rw [HTw.out]; simp)])
                      obtain ⟨X, hX⟩ : ∃ X, X = (s.data.toList.drop i).take 1 := ⟨_, rfl⟩
                      have HX := Lib.hid hX
                      have hsl1 : ∀ W : World, (Instr.slice 9 (.string s) (some (.int .i64 i)) (some (.int .i64 ((i : Int) + 1))) none).run Tryz.prog W = .ok (.string ⟨X.toArray⟩) W := fun W => by
                        rw [run_slice_string W 9 s .i64 .i64 i ((i : Int) + 1) Tryz.underlying9 (by omega) (by omega) (by omega)]
                        congr 2
                        refine ext_str s _ _ X ?_
                        rw [hX]
                        congr 1
                        omega
                      have hcv : ((i : Int) + 1).toNat = i + 1 := by omega
                      have HK2 : Hid (kindsS 0 false (s.data.toList.drop (i + 1)) = (kb.data.toList.drop (i + 1), 0, false)) := Lib.hid (HK1.out)
                      have HT2 : Hid (∃ Lr, toksS (s.data.toList.drop (i + 1)) = some Lr ∧ L = (Lp ++ [X]) ++ Lr) := Lib.hid (tok_next s i c HC.out HD.out HBk.out 1 HN.out hX HTx.out)
                      have HXc : Hid (flagV X = .bool true) := Lib.hid (by
                        rw [hX, HD.out, ← HC.out]
                        show Value.bool (opB c) = _
                        rw [HO.out])
                      clear hX hcv
                      go_wp2_with fail
                      go_quiet (fail)
                      go_wp2_with (at_builtin; refine wpList_append_own _ rfl _ _ 29 rfl w.heap.size 9 i0 (.string .empty) 1 16 Tryz.underlying29 hi0 hz0 hz1 hz2 rfl (by decide) _ _ _ rfl (HV.out.alloc _) ⟨wr.heap.size, 0, none⟩ 1 1 [.string ⟨(X).toArray⟩] rfl rfl ?a6 ?b6 ?c6 ?d6 ?e6 ?_)
                      try case a6 =>
                        intro j y hj
                        match j, hj with
                        | 0, hj => simp at hj; subst hj; exact Lib.cell_of_heap (heap_alloc_new _ _) 0
                      try case b6 => first | rfl | (intro y hy; simp at hy; subst hy; rfl)
                      try case c6 => unfold maxLen; omega
                      try case d6 => omega
                      try case e6 => exact Nat.le_trans HB.out.size (by simp)
                      intro v' w3 hown' hgrow hsame
                      have HB3 : Hid (Below w.heap.size w w3) := Lib.hid (((HB.out.trans ((belowN wr _).mono HB.out.size)).alloc HB.out.size _).grown hgrow (Nat.le_trans HB.out.size (by simp)) (fun k hk => (HV.out.lt k hk).1))
                      have HV3 : Hid (w3.ownsRow w.heap.size 9 1 v' (Lp ++ [X]).length ((Lp ++ [X]).map strV)) := Lib.hid (by
                        rw [List.length_append, List.map_append, List.map_singleton]
                        exact hown')
                      have HU3 : Hid (w3.ownsRow w.heap.size 4 1 u Lp.length (Lp.map flagV)) := Lib.hid (((ownsRow_heap HU.out (w' := wr.drewN _) (fun _ _ => rfl)).alloc _).kept hgrow (apart_rows HU.out HV.out (by decide)))
                      clear hown' hgrow hsame
                      go_wp2_with (at_builtin; refine wpList_append_own _ rfl _ _ 62 rfl w.heap.size 4 j0 (.bool false) 1 1 Tryz.underlying62 hj0 hy0 hy1 hy2 rfl (by decide) _ _ _ rfl (HU3.out.alloc _) ⟨w3.heap.size, 0, none⟩ 1 1 [.bool true] rfl rfl ?f6 ?g6 ?h6 ?i6 ?j6 ?_)
                      try case f6 =>
                        intro j y hj
                        match j, hj with
                        | 0, hj => simp at hj; subst hj; exact Lib.cell_of_heap (heap_alloc_new _ _) 0
                      try case g6 => first | rfl | (intro y hy; simp at hy; subst hy; rfl)
                      try case h6 => unfold maxLen; omega
                      try case i6 => omega
                      try case j6 => have := HB3.out.size; simp; omega
                      intro u' w4 hown' hgrow hsame
                      have HB4 := Lib.hid ((HB3.out.alloc HB3.out.size (.cells #[.bool true] 4)).grown hgrow (by have := HB3.out.size; simp; omega) (fun k hk => (HU3.out.lt k hk).1))
                      have HU4 : Hid (w4.ownsRow w.heap.size 4 1 u' (Lp ++ [X]).length ((Lp ++ [X]).map flagV)) := Lib.hid (by
                        rw [List.length_append, List.map_append, List.map_singleton]
                        have : flagV (X) = .bool true := HXc.out
                        rw [this]
                        exact hown')
                      have HV4 : Hid (w4.ownsRow w.heap.size 9 1 v' (Lp ++ [X]).length ((Lp ++ [X]).map strV)) := Lib.hid ((HV3.out.alloc (.cells #[.bool true] 4)).kept hgrow (apart_rows HV3.out HU3.out (by decide)))
                      clear hown' hgrow hsame
                      go_wp2
                      go_roundw
                      case rel => exact ⟨i + 1, Lp ++ [X], _, _, rfl, rfl, by go_num, by omega, by simp; omega, HT2, HK2, HV4, HU4, HB4⟩
                      case measure => simp [intOf]; omega
          · have hlt2 : decide ((i : Int) + 1 < (s.size : Int)) = false := decide_eq_false (by omega)
            have HD1 : Hid (s.data.toList.drop (i + 1) = []) := Lib.hid (List.drop_of_length_le (by rw [hsl]; omega))
            have HN : Hid (tokS (c :: s.data.toList.drop (i + 1)) = some 1) := Lib.hid (by
              rw [tokS_op c _ HO.out]
              rw [if_neg (by rw [HD1.out]; simp)])
            obtain ⟨X, hX⟩ : ∃ X, X = (s.data.toList.drop i).take 1 := ⟨_, rfl⟩
            have HX := Lib.hid hX
            have hsl1 : ∀ W : World, (Instr.slice 9 (.string s) (some (.int .i64 i)) (some (.int .i64 ((i : Int) + 1))) none).run Tryz.prog W = .ok (.string ⟨X.toArray⟩) W := fun W => by
              rw [run_slice_string W 9 s .i64 .i64 i ((i : Int) + 1) Tryz.underlying9 (by omega) (by omega) (by omega)]
              congr 2
              refine ext_str s _ _ X ?_
              rw [hX]
              congr 1
              omega
            have hcv : ((i : Int) + 1).toNat = i + 1 := by omega
            have HK2 : Hid (kindsS 0 false (s.data.toList.drop (i + 1)) = (kb.data.toList.drop (i + 1), 0, false)) := Lib.hid (HK1.out)
            have HT2 : Hid (∃ Lr, toksS (s.data.toList.drop (i + 1)) = some Lr ∧ L = (Lp ++ [X]) ++ Lr) := Lib.hid (tok_next s i c HC.out HD.out HBk.out 1 HN.out hX HTx.out)
            have HXc : Hid (flagV X = .bool true) := Lib.hid (by
              rw [hX, HD.out, ← HC.out]
              show Value.bool (opB c) = _
              rw [HO.out])
            clear hX hcv
            go_wp2_with fail
            go_quiet (fail)
            go_wp2_with (at_builtin; refine wpList_append_own _ rfl _ _ 29 rfl w.heap.size 9 i0 (.string .empty) 1 16 Tryz.underlying29 hi0 hz0 hz1 hz2 rfl (by decide) _ _ _ rfl (HV.out.alloc _) ⟨wr.heap.size, 0, none⟩ 1 1 [.string ⟨(X).toArray⟩] rfl rfl ?a7 ?b7 ?c7 ?d7 ?e7 ?_)
            try case a7 =>
              intro j y hj
              match j, hj with
              | 0, hj => simp at hj; subst hj; exact Lib.cell_of_heap (heap_alloc_new _ _) 0
            try case b7 => first | rfl | (intro y hy; simp at hy; subst hy; rfl)
            try case c7 => unfold maxLen; omega
            try case d7 => omega
            try case e7 => exact Nat.le_trans HB.out.size (by simp)
            intro v' w3 hown' hgrow hsame
            have HB3 : Hid (Below w.heap.size w w3) := Lib.hid (((HB.out.trans ((belowN wr _).mono HB.out.size)).alloc HB.out.size _).grown hgrow (Nat.le_trans HB.out.size (by simp)) (fun k hk => (HV.out.lt k hk).1))
            have HV3 : Hid (w3.ownsRow w.heap.size 9 1 v' (Lp ++ [X]).length ((Lp ++ [X]).map strV)) := Lib.hid (by
              rw [List.length_append, List.map_append, List.map_singleton]
              exact hown')
            have HU3 : Hid (w3.ownsRow w.heap.size 4 1 u Lp.length (Lp.map flagV)) := Lib.hid (((ownsRow_heap HU.out (w' := wr.drewN _) (fun _ _ => rfl)).alloc _).kept hgrow (apart_rows HU.out HV.out (by decide)))
            clear hown' hgrow hsame
            go_wp2_with (at_builtin; refine wpList_append_own _ rfl _ _ 62 rfl w.heap.size 4 j0 (.bool false) 1 1 Tryz.underlying62 hj0 hy0 hy1 hy2 rfl (by decide) _ _ _ rfl (HU3.out.alloc _) ⟨w3.heap.size, 0, none⟩ 1 1 [.bool true] rfl rfl ?f7 ?g7 ?h7 ?i7 ?j7 ?_)
            try case f7 =>
              intro j y hj
              match j, hj with
              | 0, hj => simp at hj; subst hj; exact Lib.cell_of_heap (heap_alloc_new _ _) 0
            try case g7 => first | rfl | (intro y hy; simp at hy; subst hy; rfl)
            try case h7 => unfold maxLen; omega
            try case i7 => omega
            try case j7 => have := HB3.out.size; simp; omega
            intro u' w4 hown' hgrow hsame
            have HB4 := Lib.hid ((HB3.out.alloc HB3.out.size (.cells #[.bool true] 4)).grown hgrow (by have := HB3.out.size; simp; omega) (fun k hk => (HU3.out.lt k hk).1))
            have HU4 : Hid (w4.ownsRow w.heap.size 4 1 u' (Lp ++ [X]).length ((Lp ++ [X]).map flagV)) := Lib.hid (by
              rw [List.length_append, List.map_append, List.map_singleton]
              have : flagV (X) = .bool true := HXc.out
              rw [this]
              exact hown')
            have HV4 : Hid (w4.ownsRow w.heap.size 9 1 v' (Lp ++ [X]).length ((Lp ++ [X]).map strV)) := Lib.hid ((HV3.out.alloc (.cells #[.bool true] 4)).kept hgrow (apart_rows HV3.out HU3.out (by decide)))
            clear hown' hgrow hsame
            go_wp2
            go_roundw
            case rel => exact ⟨i + 1, Lp ++ [X], _, _, rfl, rfl, by go_num, by omega, by simp; omega, HT2, HK2, HV4, HU4, HB4⟩
            case measure => simp [intOf]; omega
        | false =>
          have hs2 : stopB c = false := by rw [stopB_or, hb, ho]; rfl
          have hw := word_kinds (c :: s.data.toList.drop (i + 1)).length (c :: s.data.toList.drop (i + 1)) (Nat.le_refl _)
          cases hww : wordS (c :: s.data.toList.drop (i + 1)) with
          | none =>
            rw [hww] at hw
            exact absurd (congrArg Prod.snd HKx.out) hw
          | some n =>
            rw [hww] at hw
            have hn1 : 1 ≤ n := tokS_pos c _ n hb (by rw [tokS_word c _ ho]; exact hww)
            have hnl : i + n ≤ s.size := by
              have := wordS_le _ _ n (Nat.le_refl _) hww
              rw [List.length_cons, List.length_drop, hsl] at this
              omega
            have HRun := Lib.hid (word_run s kb i c n HC.out HD.out HKx.out hw.1)
            obtain ⟨X, hX⟩ : ∃ X, X = (s.data.toList.drop i).take n := ⟨_, rfl⟩
            have HX := Lib.hid hX
            have hkv : ((kb[i]'hlk).toNat : Int) = 112 := HRun.out.1 i (Nat.le_refl _) (by omega) hlk
            have HBr : Hid (i + n < s.size → ∀ h : i + n < kb.size, (((kb[i + n]'h).toNat : Int) == 112) = false) := Lib.hid (word_end s kb i n HRun.out.2 (by
              have := hw.2
              rw [HC.out, ← HD.out, List.drop_drop] at this
              exact this))
            have HK2 : Hid (kindsS 0 false (s.data.toList.drop (i + n)) = (kb.data.toList.drop (i + n), 0, false)) := Lib.hid HRun.out.2
            have HT2 : Hid (∃ Lr, toksS (s.data.toList.drop (i + n)) = some Lr ∧ L = (Lp ++ [X]) ++ Lr) := Lib.hid (tok_next s i c HC.out HD.out hb n (by rw [tokS_word c _ ho]; exact hww) hX HTx.out)
            have HXc : Hid (flagV X = .bool false) := Lib.hid (by
              obtain ⟨m, rfl⟩ : ∃ m, n = m + 1 := ⟨n - 1, by omega⟩
              rw [hX, HD.out, ← HC.out]
              show Value.bool (opB c) = _
              rw [ho])
            clear hd hdk hc hK hb ho hs2 hw hww hX
            go_wp2
            go_loop [8] (fun v8 => ∃ j : Nat, v8 = .int .i64 j ∧ i ≤ j ∧ j ≤ i + n) (fun v8 => i + n + 1 - (intOf v8).toNat)
            case atStart => exact ⟨i, rfl, by omega, by omega⟩
            case round =>
              obtain ⟨j, rfl, hij, hjn⟩ := hrel
              by_cases hj : j < i + n
              · have hjs : j < s.size := by omega
                have hjk : j < kb.size := by omega
                have hkj : ((kb[j]'hjk).toNat : Int) = 112 := HRun.out.1 j hij hj hjk
                go_wp2
                go_round
                case rel => exact ⟨j + 1, by go_num, by omega, by omega⟩
                case measure => simp [intOf]; omega
              · obtain rfl : j = i + n := by omega
                by_cases hjs : i + n < s.size
                · have hjk : i + n < kb.size := by omega
                  have hkj := HBr.out hjs hjk
                  have hjs2 : (i : Int) + (n : Int) < (s.size : Int) := by omega
                  have hsl1 : ∀ W : World, (Instr.slice 9 (.string s) (some (.int .i64 i)) (some (.int .i64 ((i : Int) + (n : Int)))) none).run Tryz.prog W = .ok (.string ⟨X.toArray⟩) W := fun W => by
                    rw [run_slice_string W 9 s .i64 .i64 i ((i : Int) + (n : Int)) Tryz.underlying9 (by omega) (by omega) (by omega)]
                    congr 2
                    refine ext_str s _ _ X ?_
                    rw [HX.out]
                    congr 1
                    omega
                  go_wp2_with (at_builtin; refine wpList_append_own _ rfl _ _ 29 rfl w.heap.size 9 i0 (.string .empty) 1 16 Tryz.underlying29 hi0 hz0 hz1 hz2 rfl (by decide) _ _ _ rfl (HV.out.alloc _) ⟨wr.heap.size, 0, none⟩ 1 1 [.string ⟨(X).toArray⟩] rfl rfl ?a8 ?b8 ?c8 ?d8 ?e8 ?_)
                  try case a8 =>
                    intro j y hj
                    match j, hj with
                    | 0, hj => simp at hj; subst hj; exact Lib.cell_of_heap (heap_alloc_new _ _) 0
                  try case b8 => first | rfl | (intro y hy; simp at hy; subst hy; rfl)
                  try case c8 => unfold maxLen; omega
                  try case d8 => omega
                  try case e8 => exact Nat.le_trans HB.out.size (by simp)
                  intro v' w3 hown' hgrow hsame
                  have HB3 : Hid (Below w.heap.size w w3) := Lib.hid ((HB.out.alloc HB.out.size _).grown hgrow (Nat.le_trans HB.out.size (by simp)) (fun k hk => (HV.out.lt k hk).1))
                  have HV3 : Hid (w3.ownsRow w.heap.size 9 1 v' (Lp ++ [X]).length ((Lp ++ [X]).map strV)) := Lib.hid (by
                    rw [List.length_append, List.map_append, List.map_singleton]
                    exact hown')
                  have HU3 : Hid (w3.ownsRow w.heap.size 4 1 u Lp.length (Lp.map flagV)) := Lib.hid ((HU.out.alloc _).kept hgrow (apart_rows HU.out HV.out (by decide)))
                  clear hown' hgrow hsame
                  go_wp2_with (at_builtin; refine wpList_append_own _ rfl _ _ 62 rfl w.heap.size 4 j0 (.bool false) 1 1 Tryz.underlying62 hj0 hy0 hy1 hy2 rfl (by decide) _ _ _ rfl (HU3.out.alloc _) ⟨w3.heap.size, 0, none⟩ 1 1 [.bool false] rfl rfl ?f8 ?g8 ?h8 ?i8 ?j8 ?_)
                  try case f8 =>
                    intro j y hj
                    match j, hj with
                    | 0, hj => simp at hj; subst hj; exact Lib.cell_of_heap (heap_alloc_new _ _) 0
                  try case g8 => first | rfl | (intro y hy; simp at hy; subst hy; rfl)
                  try case h8 => unfold maxLen; omega
                  try case i8 => omega
                  try case j8 => have := HB3.out.size; simp; omega
                  intro u' w4 hown' hgrow hsame
                  have HB4 := Lib.hid ((HB3.out.alloc HB3.out.size (.cells #[.bool false] 4)).grown hgrow (by have := HB3.out.size; simp; omega) (fun k hk => (HU3.out.lt k hk).1))
                  have HU4 : Hid (w4.ownsRow w.heap.size 4 1 u' (Lp ++ [X]).length ((Lp ++ [X]).map flagV)) := Lib.hid (by
                    rw [List.length_append, List.map_append, List.map_singleton]
                    have : flagV (X) = .bool false := HXc.out
                    rw [this]
                    exact hown')
                  have HV4 : Hid (w4.ownsRow w.heap.size 9 1 v' (Lp ++ [X]).length ((Lp ++ [X]).map strV)) := Lib.hid ((HV3.out.alloc (.cells #[.bool false] 4)).kept hgrow (apart_rows HV3.out HU3.out (by decide)))
                  clear hown' hgrow hsame
                  go_wp2
                  go_roundw
                  case rel => exact ⟨i + n, Lp ++ [X], _, _, rfl, rfl, by go_num, by omega, by simp; omega, HT2, HK2, HV4, HU4, HB4⟩
                  case measure => simp [intOf]; omega
                · have hjs2 : ¬ (i : Int) + (n : Int) < (s.size : Int) := by omega
                  have hsl1 : ∀ W : World, (Instr.slice 9 (.string s) (some (.int .i64 i)) (some (.int .i64 ((i : Int) + (n : Int)))) none).run Tryz.prog W = .ok (.string ⟨X.toArray⟩) W := fun W => by
                    rw [run_slice_string W 9 s .i64 .i64 i ((i : Int) + (n : Int)) Tryz.underlying9 (by omega) (by omega) (by omega)]
                    congr 2
                    refine ext_str s _ _ X ?_
                    rw [HX.out]
                    congr 1
                    omega
                  go_wp2_with (at_builtin; refine wpList_append_own _ rfl _ _ 29 rfl w.heap.size 9 i0 (.string .empty) 1 16 Tryz.underlying29 hi0 hz0 hz1 hz2 rfl (by decide) _ _ _ rfl (HV.out.alloc _) ⟨wr.heap.size, 0, none⟩ 1 1 [.string ⟨(X).toArray⟩] rfl rfl ?a9 ?b9 ?c9 ?d9 ?e9 ?_)
                  try case a9 =>
                    intro j y hj
                    match j, hj with
                    | 0, hj => simp at hj; subst hj; exact Lib.cell_of_heap (heap_alloc_new _ _) 0
                  try case b9 => first | rfl | (intro y hy; simp at hy; subst hy; rfl)
                  try case c9 => unfold maxLen; omega
                  try case d9 => omega
                  try case e9 => exact Nat.le_trans HB.out.size (by simp)
                  intro v' w3 hown' hgrow hsame
                  have HB3 : Hid (Below w.heap.size w w3) := Lib.hid ((HB.out.alloc HB.out.size _).grown hgrow (Nat.le_trans HB.out.size (by simp)) (fun k hk => (HV.out.lt k hk).1))
                  have HV3 : Hid (w3.ownsRow w.heap.size 9 1 v' (Lp ++ [X]).length ((Lp ++ [X]).map strV)) := Lib.hid (by
                    rw [List.length_append, List.map_append, List.map_singleton]
                    exact hown')
                  have HU3 : Hid (w3.ownsRow w.heap.size 4 1 u Lp.length (Lp.map flagV)) := Lib.hid ((HU.out.alloc _).kept hgrow (apart_rows HU.out HV.out (by decide)))
                  clear hown' hgrow hsame
                  go_wp2_with (at_builtin; refine wpList_append_own _ rfl _ _ 62 rfl w.heap.size 4 j0 (.bool false) 1 1 Tryz.underlying62 hj0 hy0 hy1 hy2 rfl (by decide) _ _ _ rfl (HU3.out.alloc _) ⟨w3.heap.size, 0, none⟩ 1 1 [.bool false] rfl rfl ?f9 ?g9 ?h9 ?i9 ?j9 ?_)
                  try case f9 =>
                    intro j y hj
                    match j, hj with
                    | 0, hj => simp at hj; subst hj; exact Lib.cell_of_heap (heap_alloc_new _ _) 0
                  try case g9 => first | rfl | (intro y hy; simp at hy; subst hy; rfl)
                  try case h9 => unfold maxLen; omega
                  try case i9 => omega
                  try case j9 => have := HB3.out.size; simp; omega
                  intro u' w4 hown' hgrow hsame
                  have HB4 := Lib.hid ((HB3.out.alloc HB3.out.size (.cells #[.bool false] 4)).grown hgrow (by have := HB3.out.size; simp; omega) (fun k hk => (HU3.out.lt k hk).1))
                  have HU4 : Hid (w4.ownsRow w.heap.size 4 1 u' (Lp ++ [X]).length ((Lp ++ [X]).map flagV)) := Lib.hid (by
                    rw [List.length_append, List.map_append, List.map_singleton]
                    have : flagV (X) = .bool false := HXc.out
                    rw [this]
                    exact hown')
                  have HV4 : Hid (w4.ownsRow w.heap.size 9 1 v' (Lp ++ [X]).length ((Lp ++ [X]).map strV)) := Lib.hid ((HV3.out.alloc (.cells #[.bool false] 4)).kept hgrow (apart_rows HV3.out HU3.out (by decide)))
                  clear hown' hgrow hsame
                  go_wp2
                  go_roundw
                  case rel => exact ⟨i + n, Lp ++ [X], _, _, rfl, rfl, by go_num, by omega, by simp; omega, HT2, HK2, HV4, HU4, HB4⟩
                  case measure => simp [intOf]; omega
    · have hd : s.data.toList.drop i = [] := List.drop_of_length_le (by omega)
      have HF : Hid (L = Lp) := Lib.hid (by
        obtain ⟨Lr, h1, h2⟩ := HT.out
        rw [hd, toksS_none [] rfl] at h1
        injection h1 with h1
        rw [h2, ← h1, List.append_nil])
      clear hd
      go_wp2
      go_ret2
      exact ⟨_, _, rfl, by rw [HF.out]; exact HV.out, by rw [HF.out]; exact HU.out, HB.out⟩
end Go.Proofs.YtmagggflamdahaaGreatDoor
