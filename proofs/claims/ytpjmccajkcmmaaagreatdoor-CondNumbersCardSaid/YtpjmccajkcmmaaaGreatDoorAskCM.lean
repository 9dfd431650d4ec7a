/- cond.asker: compares. -/
import Derived.Test.YtpjmccajkcmmaaaGreatDoorTr
namespace Go.Proofs.YtpjmccajkcmmaaaGreatDoor
open Go.RowKit

/-- an asker at kb, since w, and a box beside it -/
structure AskJ (A : AEnv) (kb : Nat) (w : World) (cs : Array Value) (T : TypeId) (f : Flt) (W : World) : Prop where
  ask : IsAsk A kb f W
  box : W.heap[w.heap.size]? = some (.cells cs T (0, 0))
  keeps : Keeps w.heap.size (fun k => k = kb) w W
  lt : kb < w.heap.size
theorem AskJ.start {A : AEnv} {kb : Nat} {w : World} {f : Flt} (h : IsAsk A kb f w) (cs : Array Value) (T : TypeId) : AskJ A kb w cs T f (w.alloc (.cells cs T)) :=
  ⟨h.below ((Below.refl _ _).alloc (Nat.le_refl _) _), heap_alloc_new w _, (Keeps.refl _ _ w).alloc (Nat.le_refl _) _, (Array.getElem?_eq_some_iff.1 h.cells).1⟩
theorem AskJ.step {A : AEnv} {kb : Nat} {w W W' : World} {cs : Array Value} {T : TypeId} {f g : Flt} (h : AskJ A kb w cs T f W) (hi : IsAsk A kb g W') (hk : Keeps W.heap.size (fun k => k = kb) W W') : AskJ A kb w cs T g W' := by
  have hb := (Array.getElem?_eq_some_iff.1 h.box).1
  have := h.lt
  exact ⟨hi, (hk.block w.heap.size hb (by omega)).trans h.box, h.keeps.trans (hk.mono h.keeps.size (fun _ _ e => e)), h.lt⟩
theorem AskJ.below {A : AEnv} {kb : Nat} {w W W' : World} {cs : Array Value} {T : TypeId} {f : Flt} (h : AskJ A kb w cs T f W) (hb : Below W.heap.size W W') : AskJ A kb w cs T f W' := h.step (h.ask.below hb) (Keeps.of hb _)
theorem AskJ.put {A : AEnv} {kb : Nat} {w W : World} {cs : Array Value} {T : TypeId} {f : Flt} (h : AskJ A kb w cs T f W) (e a : Int) : AskJ A kb w cs T (e, a) ((W.setCell ⟨kb, 6, none⟩ (.int .i64 e)).setCell ⟨kb, 7, none⟩ (.int .i64 a)) :=
  h.step (h.ask.put e a) (keeps_put (Keeps.refl _ _ W) _ _)

set_option maxHeartbeats 8000000 in
set_option maxRecDepth 100000 in
theorem compares_any (A : AEnv) (hA : A.OK) {kb : Nat} {f : Flt} (op a : List UInt8) (aq : Bool) (b : List UInt8) (bq : Bool) (at' : Nat) (r : Bool) (g : Flt) (hc : cmpA A op a aq b bq at' f = some (r, g)) (w : World) (h : IsAsk A kb f w) :
    Calls Tryz.prog 43 #[.pointer (some ⟨kb, 0, none⟩), .agg #[.string ⟨op.toArray⟩, .string ⟨a.toArray⟩, .bool aq, .string ⟨b.toArray⟩, .bool bq, .int .i64 at']] w (AskQ A kb (.bool r) g w) := by
  have HJ0 := Lib.hid (AskJ.start h #[.string ⟨op.toArray⟩, .string ⟨a.toArray⟩, .bool aq, .string ⟨b.toArray⟩, .bool bq, .int .i64 at'] 126)
  obtain ⟨post, hpost⟩ : ∃ post, post = AskQ A kb (.bool r) g w := ⟨_, rfl⟩
  rw [← hpost]
  have HPost := Lib.hid hpost
  unfold cmpA at hc
  cases hm : meansA A f a at' with
  | none => rw [hm] at hc; cases hc
  | some q =>
    obtain ⟨ta, f1⟩ := q
    rw [hm] at hc
    simp only at hc
    have HM := Lib.hid (means_any A hA a at' ta f1 hm _ HJ0.out.ask)
    have HMB := Lib.hid (fun tb f2 (hm : meansA A f1 b at' = some (tb, f2)) W (h : IsAsk A kb f1 W) => means_any A hA b at' tb f2 hm W h)
    have HG := Lib.hid (fun (f : Flt) W (h : IsAsk A kb f W) => h.gl hA)
    have hpa : (parseS (⟨ta.toArray⟩ : ByteArray).data.toList) = parseS ta := by simp
    have HPa := Lib.hid (fun (hs : (⟨ta.toArray⟩ : ByteArray).size ≤ 140737488351232) W (h : Gl W) => parse_any ⟨ta.toArray⟩ hs W h)
    rw [hpa] at HPa
    have HC := Lib.hid hc
    obtain ⟨w0, hw0⟩ : ∃ w0, w0 = w.alloc (.cells #[.string ⟨op.toArray⟩, .string ⟨a.toArray⟩, .bool aq, .string ⟨b.toArray⟩, .bool bq, .int .i64 at'] 126) := ⟨_, rfl⟩
    clear hc hm h hpost hpa
    go_enter Tryz.func43, Tryz.ntmps43
    go_wp2_with fail
    go_at_call 55
    refine HM.out.mono ?_
    rintro e w1 ⟨⟨rfl, hi1, hk1⟩, hta⟩
    have HJ1 := Lib.hid (HJ0.out.step hi1 hk1)
    have HT := Lib.hid hta
    have hsz : (⟨ta.toArray⟩ : ByteArray).size = ta.length := by show ta.toArray.size = _; simp
    have HP1 := Lib.hid (HPa.out (by omega) w1 (HG.out _ _ hi1))
    clear hi1 hk1 HM HJ0 HPa hw0
    go_wp2_with fail
    go_at_call 60
    refine HP1.out.mono ?_
    rintro e w2 ⟨rfl, hb2⟩
    have HJ2 := Lib.hid (HJ1.out.below hb2)
    clear hb2 HP1 HJ1 hta hsz
    have hB2 := HJ2.out.box
    have b0 : w2.cell? ⟨w.heap.size, 0, none⟩ = some (.string ⟨op.toArray⟩) := Lib.cell_of_heap hB2 0
    have b2 : w2.cell? ⟨w.heap.size, 2, none⟩ = some (.bool aq) := Lib.cell_of_heap hB2 2
    have b3 : w2.cell? ⟨w.heap.size, 3, none⟩ = some (.string ⟨b.toArray⟩) := Lib.cell_of_heap hB2 3
    have b5 : w2.cell? ⟨w.heap.size, 5, none⟩ = some (.int .i64 at') := Lib.cell_of_heap hB2 5
    clear hB2
    have hc := HC.out
    generalize hna : parseS ta = na at hc ⊢
    obtain ⟨na, ea⟩ := na
    simp only at hc ⊢
    by_cases hop : op = []
    · have hoe : op.isEmpty = true := by rw [hop]; rfl
      rw [if_pos hop] at hc
      clear hop
      have hr := congrArg (fun q : Bool × Flt => q.1) (Option.some.inj hc)
      have hg := congrArg (fun q : Bool × Flt => q.2) (Option.some.inj hc)
      simp only at hr hg
      subst hg
      have HR := Lib.hid hr
      clear hc hr
      have hne : (ta != []) = !ta.isEmpty := by cases ta <;> rfl
      rw [hne] at HR
      cases hea : (ea == 0) <;> cases aq
      all_goals
        go_wp2
        rw [HPost.out]
        exact ⟨by rw [← HR.out, hea]; rfl, HJ2.out.ask, HJ2.out.keeps⟩
    · have hoe : op.isEmpty = false := by
        cases op with
        | nil => exact absurd rfl hop
        | cons _ _ => rfl
      rw [if_neg hop] at hc
      clear hop
      cases hm : meansA A f1 b at' with
      | none => rw [hm] at hc; cases hc
      | some q =>
        obtain ⟨tb, f2⟩ := q
        rw [hm] at hc
        simp only at hc
        have HM2 := Lib.hid (HMB.out tb f2 hm w2 HJ2.out.ask)
        have hpb : (parseS (⟨tb.toArray⟩ : ByteArray).data.toList) = parseS tb := by simp
        have HPb := Lib.hid (fun (hs : (⟨tb.toArray⟩ : ByteArray).size ≤ 140737488351232) W (h : Gl W) => parse_any ⟨tb.toArray⟩ hs W h)
        rw [hpb] at HPb
        have HC2 := Lib.hid hc
        clear hc hm hpb HC HMB
        go_wp2_with fail
        go_at_call 55
        refine HM2.out.mono ?_
        rintro e w3 ⟨⟨rfl, hi3, hk3⟩, htb⟩
        have HJ3 := Lib.hid (HJ2.out.step hi3 hk3)
        have hsz : (⟨tb.toArray⟩ : ByteArray).size = tb.length := by show tb.toArray.size = _; simp
        have HP3 := Lib.hid (HPb.out (by omega) w3 (HG.out _ _ hi3))
        clear hi3 hk3 HM2 HJ2 HPb b0 b2 b3 b5
        go_wp2_with fail
        go_at_call 60
        refine HP3.out.mono ?_
        rintro e w4 ⟨rfl, hb4⟩
        have HJ4 := Lib.hid (HJ3.out.below hb4)
        clear hb4 HP3 HJ3 htb hsz
        have hB4 := HJ4.out.box
        have b0 : w4.cell? ⟨w.heap.size, 0, none⟩ = some (.string ⟨op.toArray⟩) := Lib.cell_of_heap hB4 0
        have b2 : w4.cell? ⟨w.heap.size, 2, none⟩ = some (.bool aq) := Lib.cell_of_heap hB4 2
        have b4 : w4.cell? ⟨w.heap.size, 4, none⟩ = some (.bool bq) := Lib.cell_of_heap hB4 4
        have b5 : w4.cell? ⟨w.heap.size, 5, none⟩ = some (.int .i64 at') := Lib.cell_of_heap hB4 5
        obtain ⟨-, -, c6, c7, z6, z7⟩ := HJ4.out.ask.at
        have hq := fun W => fault_ne f2.1 f2.2 W
        have hc := HC2.out
        unfold noFlt at hc
        clear hB4 HC2
        cases hf : (f2.1 == 0 && f2.2 == 0) with
        | false =>
          rw [hf] at hc hq
          rw [if_pos rfl] at hc
          cases hc
          go_wp2
          rw [HPost.out]
          exact ⟨rfl, HJ4.out.ask, HJ4.out.keeps⟩
        | true =>
          rw [hf] at hc hq
          rw [if_neg (by simp)] at hc
          have HR1 := Lib.hid (congrArg (fun q : Bool × Flt => q.1) (Option.some.inj hc))
          have HR2 := Lib.hid (congrArg (fun q : Bool × Flt => q.2) (Option.some.inj hc))
          simp only at HR1 HR2
          clear hc
          generalize hnb : parseS tb = nb
          obtain ⟨nb, eb⟩ := nb
          simp only
          have hops : op = [61, 61] ∨ op = [33, 61] ∨ op = [60] ∨ op = [60, 61] ∨ op = [62] ∨ ((op == [61, 61]) = false ∧ (op == [33, 61]) = false ∧ (op == [60]) = false ∧ (op == [60, 61]) = false ∧ (op == [62]) = false) := by
            by_cases h1 : op = [61, 61]
            · exact .inl h1
            by_cases h2 : op = [33, 61]
            · exact .inr (.inl h2)
            by_cases h3 : op = [60]
            · exact .inr (.inr (.inl h3))
            by_cases h4 : op = [60, 61]
            · exact .inr (.inr (.inr (.inl h4)))
            by_cases h5 : op = [62]
            · exact .inr (.inr (.inr (.inr (.inl h5))))
            exact .inr (.inr (.inr (.inr (.inr ⟨beq_eq_false_iff_ne.2 h1, beq_eq_false_iff_ne.2 h2, beq_eq_false_iff_ne.2 h3, beq_eq_false_iff_ne.2 h4, beq_eq_false_iff_ne.2 h5⟩))))
          rcases hops with rfl | rfl | rfl | rfl | rfl | ⟨o1, o2, o3, o4, o5⟩
          · clear hoe
            cases hea : (ea == 0)
            · go_wp2
              rw [HPost.out]
              exact ⟨by rw [← HR1.out]; simp [opA, hna, hnb, hea], by rw [← HR2.out]; simp [opA, hna, hnb, hea]; exact HJ4.out.ask, HJ4.out.keeps⟩
            · cases heb : (eb == 0)
              · go_wp2
                rw [HPost.out]
                exact ⟨by rw [← HR1.out]; simp [opA, hna, hnb, hea, heb], by rw [← HR2.out]; simp [opA, hna, hnb, hea, heb]; exact HJ4.out.ask, HJ4.out.keeps⟩
              · cases aq
                · cases bq
                  · go_wp2
                    rw [HPost.out]
                    exact ⟨by rw [← HR1.out]; simp [opA, hna, hnb, hea, heb], by rw [← HR2.out]; simp [opA, hna, hnb, hea, heb]; exact HJ4.out.ask, HJ4.out.keeps⟩
                  · go_wp2
                    rw [HPost.out]
                    exact ⟨by rw [← HR1.out]; simp [opA, hna, hnb, hea, heb], by rw [← HR2.out]; simp [opA, hna, hnb, hea, heb]; exact HJ4.out.ask, HJ4.out.keeps⟩
                · go_wp2
                  rw [HPost.out]
                  exact ⟨by rw [← HR1.out]; simp [opA, hna, hnb, hea, heb], by rw [← HR2.out]; simp [opA, hna, hnb, hea, heb]; exact HJ4.out.ask, HJ4.out.keeps⟩
          · clear hoe
            cases hea : (ea == 0)
            · go_wp2
              rw [HPost.out]
              exact ⟨by rw [← HR1.out]; simp [opA, hna, hnb, hea], by rw [← HR2.out]; simp [opA, hna, hnb, hea]; exact HJ4.out.ask, HJ4.out.keeps⟩
            · cases heb : (eb == 0)
              · go_wp2
                rw [HPost.out]
                exact ⟨by rw [← HR1.out]; simp [opA, hna, hnb, hea, heb], by rw [← HR2.out]; simp [opA, hna, hnb, hea, heb]; exact HJ4.out.ask, HJ4.out.keeps⟩
              · cases aq
                · cases bq
                  · go_wp2
                    rw [HPost.out]
                    exact ⟨by rw [← HR1.out]; simp [opA, hna, hnb, hea, heb], by rw [← HR2.out]; simp [opA, hna, hnb, hea, heb]; exact HJ4.out.ask, HJ4.out.keeps⟩
                  · go_wp2
                    rw [HPost.out]
                    exact ⟨by rw [← HR1.out]; simp [opA, hna, hnb, hea, heb], by rw [← HR2.out]; simp [opA, hna, hnb, hea, heb]; exact HJ4.out.ask, HJ4.out.keeps⟩
                · go_wp2
                  rw [HPost.out]
                  exact ⟨by rw [← HR1.out]; simp [opA, hna, hnb, hea, heb], by rw [← HR2.out]; simp [opA, hna, hnb, hea, heb]; exact HJ4.out.ask, HJ4.out.keeps⟩
          · clear hoe
            cases hea : (ea == 0)
            · go_wp2
              rw [HPost.out]
              exact ⟨by rw [← HR1.out]; simp [opA, hna, hnb, hea], by rw [← HR2.out]; simp [opA, hna, hnb, hea]; exact (HJ4.out.put 13 at').ask, (HJ4.out.put 13 at').keeps⟩
            · cases heb : (eb == 0)
              · go_wp2
                rw [HPost.out]
                exact ⟨by rw [← HR1.out]; simp [opA, hna, hnb, hea, heb], by rw [← HR2.out]; simp [opA, hna, hnb, hea, heb]; exact (HJ4.out.put 13 at').ask, (HJ4.out.put 13 at').keeps⟩
              · go_wp2
                rw [HPost.out]
                exact ⟨by rw [← HR1.out]; simp [opA, hna, hnb, hea, heb], by rw [← HR2.out]; simp [opA, hna, hnb, hea, heb]; exact HJ4.out.ask, HJ4.out.keeps⟩
          · clear hoe
            cases hea : (ea == 0)
            · go_wp2
              rw [HPost.out]
              exact ⟨by rw [← HR1.out]; simp [opA, hna, hnb, hea], by rw [← HR2.out]; simp [opA, hna, hnb, hea]; exact (HJ4.out.put 13 at').ask, (HJ4.out.put 13 at').keeps⟩
            · cases heb : (eb == 0)
              · go_wp2
                rw [HPost.out]
                exact ⟨by rw [← HR1.out]; simp [opA, hna, hnb, hea, heb], by rw [← HR2.out]; simp [opA, hna, hnb, hea, heb]; exact (HJ4.out.put 13 at').ask, (HJ4.out.put 13 at').keeps⟩
              · go_wp2
                rw [HPost.out]
                exact ⟨by rw [← HR1.out]; simp [opA, hna, hnb, hea, heb], by rw [← HR2.out]; simp [opA, hna, hnb, hea, heb]; exact HJ4.out.ask, HJ4.out.keeps⟩
          · clear hoe
            cases hea : (ea == 0)
            · go_wp2
              rw [HPost.out]
              exact ⟨by rw [← HR1.out]; simp [opA, hna, hnb, hea], by rw [← HR2.out]; simp [opA, hna, hnb, hea]; exact (HJ4.out.put 13 at').ask, (HJ4.out.put 13 at').keeps⟩
            · cases heb : (eb == 0)
              · go_wp2
                rw [HPost.out]
                exact ⟨by rw [← HR1.out]; simp [opA, hna, hnb, hea, heb], by rw [← HR2.out]; simp [opA, hna, hnb, hea, heb]; exact (HJ4.out.put 13 at').ask, (HJ4.out.put 13 at').keeps⟩
              · go_wp2
                rw [HPost.out]
                exact ⟨by rw [← HR1.out]; simp [opA, hna, hnb, hea, heb], by rw [← HR2.out]; simp [opA, hna, hnb, hea, heb]; exact HJ4.out.ask, HJ4.out.keeps⟩
          · clear hoe
            have n1 := beq_eq_false_iff_ne.1 o1
            have n2 := beq_eq_false_iff_ne.1 o2
            have n3 := beq_eq_false_iff_ne.1 o3
            have n4 := beq_eq_false_iff_ne.1 o4
            have n5 := beq_eq_false_iff_ne.1 o5
            cases hea : (ea == 0)
            · go_wp2
              rw [HPost.out]
              exact ⟨by rw [← HR1.out]; simp [opA, hna, hnb, hea, n1, n2], by rw [← HR2.out]; simp [opA, hna, hnb, hea, n1, n2]; exact (HJ4.out.put 13 at').ask, (HJ4.out.put 13 at').keeps⟩
            · cases heb : (eb == 0)
              · go_wp2
                rw [HPost.out]
                exact ⟨by rw [← HR1.out]; simp [opA, hna, hnb, hea, heb, n1, n2], by rw [← HR2.out]; simp [opA, hna, hnb, hea, heb, n1, n2]; exact (HJ4.out.put 13 at').ask, (HJ4.out.put 13 at').keeps⟩
              · go_wp2
                rw [HPost.out]
                exact ⟨by rw [← HR1.out]; simp [opA, hna, hnb, hea, heb, n1, n2, n3, n4, n5], by rw [← HR2.out]; simp [opA, hna, hnb, hea, heb, n1, n2, n3, n4, n5]; exact HJ4.out.ask, HJ4.out.keeps⟩
end Go.Proofs.YtpjmccajkcmmaaaGreatDoor
