/- From a row's list of laid variables to what the walks ask of the world; and a world in which they lie so. -/
import Derived.Test.YtpjmccajkcmmaaaGreatDoorGl
import Derived.Test.YtpjmccajkcmmaaaGreatDoorRows
import Derived.LaidMore
import Derived.MakeChecks
import Derived.Stop.LaidErr
import Derived.KernelRfl
namespace Go.Proofs.YtpjmccajkcmmaaaGreatDoor
open Go.RowKit Go.Lib

def glRen : Go.Shelf.Ren := ⟨fun n => n, fun | 5 => 5 | 119 => 221 | 138 => 223 | 139 => 224 | n => n, fun | 3 => 2 | 4 => 3 | n => n⟩
theorem glTypes : U8Types Tryz.prog glRen := { t5 := Tryz.underlying5, t119 := Tryz.underlying221, t138 := Tryz.underlying223, t139 := Tryz.underlying224 }
theorem glExtra : U8Extra Tryz.prog glRen := { n3 := by kernel_rfl, n4 := by kernel_rfl, y3 := by kernel_rfl, y4 := by kernel_rfl, c5 := by kernel_rfl, c119 := by kernel_rfl, c138 := by kernel_rfl }
theorem first_eq : Rows.laid_unicode_utf8_first = firstData := by kernel_rfl
theorem accept_eq : (Rows.laid_unicode_utf8_acceptRanges : DataW Unit) = acceptData := by kernel_rfl
theorem pow_eq : (Rows.laid_internal_strconv_uint64pow10 : DataW Unit) = tabData .u64 pow10Tab := by kernel_rfl
theorem glStar : "*" ++ "errors.errorString" = "*errors.errorString" := by decide
theorem glRow (u : TypeId) (h : Tryz.prog.typeName? 3 u = some "*errors.errorString") : u = 240 :=
  typeName_ptr_named (nm := "errors.errorString") (by rw [glStar]; kernel_rfl) (by kernel_rfl) (by decide) u (by rw [glStar]; exact h)

/-- the list, as the rows have it -/
def glList : List (String × DataW Unit) := [("math/bits.deBruijn32tab", Rows.laid_math_bits_deBruijn32tab), ("math/bits.deBruijn64tab", Rows.laid_math_bits_deBruijn64tab), ("internal/strconv.uint64pow10", Rows.laid_internal_strconv_uint64pow10), ("unicode/utf8.acceptRanges", Rows.laid_unicode_utf8_acceptRanges), ("strconv.ErrRange", Rows.laid_strconv_ErrRange), ("strconv.ErrSyntax", Rows.laid_strconv_ErrSyntax), ("unicode/utf8.first", Rows.laid_unicode_utf8_first)]

theorem gl_of_laid {W : World} (h : laidMetH Tryz.prog glList W) : Gl W := by
  rw [MakeChecks.laidMetH_plain _ _ _ (by kernel_rfl)] at h
  have hp : VarReads Tryz.prog W "internal/strconv.uint64pow10" (tabData .u64 pow10Tab) := by
    rw [← pow_eq]
    exact laidMet.reads h (.tail _ (.tail _ (.head _)))
  have ha : VarReads Tryz.prog W "unicode/utf8.acceptRanges" acceptData := by
    rw [← accept_eq]
    exact laidMet.reads h (.tail _ (.tail _ (.tail _ (.head _))))
  have hf : VarReads Tryz.prog W "unicode/utf8.first" firstData := by
    rw [← first_eq]
    exact laidMet.reads h (.tail _ (.tail _ (.tail _ (.tail _ (.tail _ (.tail _ (.head _)))))))
  refine ⟨utf8Tabs_of_readsT glTypes glExtra hf ha, ?_, ?_⟩
  · obtain ⟨g, t, cs, fuel, p, hg, hty, hvar, hd⟩ := hp
    obtain rfl := Option.some.inj ((show Tryz.prog.globalNamed "internal/strconv.uint64pow10" = some 5 by kernel_rfl).symm.trans hg)
    obtain rfl := Option.some.inj ((show (Tryz.prog.globals[5]?).map (·.type) = some 282 by kernel_rfl).symm.trans hty)
    have hcs := cells_of_tab Tryz.underlying282 Tryz.underlying161 (by kernel_rfl) (by kernel_rfl) hd
    show W.var? Tryz.prog "internal/strconv.uint64pow10" = _
    rw [hvar, ← hcs]
  · have h4 := h.tail.tail.tail.tail
    obtain ⟨a0, s0, hv0, -, -, -⟩ := laid_sentinel h4 (g := 0) (ti := 164) (by kernel_rfl) (by kernel_rfl) Tryz.underlying164 glRow Tryz.underlying240 Tryz.underlying242 rfl rfl Tryz.underlying9 (by kernel_rfl) (by kernel_rfl)
    have h0 := World.var?_cell (show Tryz.prog.globalNamed "strconv.ErrRange" = some 0 by kernel_rfl) hv0 0
    exact ⟨a0, by simpa using h0⟩

/-! ### a world for the witness: what the door's own run leaves, and the pinned table -/
noncomputable def glWorld (os : Os) : World :=
  { World.doorLaid Tryz.prog 72 os with heap := (World.doorLaid Tryz.prog 72 os).heap.modify 2 fun
      | .cells _ t frozen => .cells (firstTab.map fun z => Value.int .u8 z).toArray t frozen
      | o => o }

theorem int_bounds_i64 {n : Int} (h : (Lit.int .i64 n).wf = true) : -9223372036854775808 ≤ n ∧ n ≤ 9223372036854775807 := by
  simpa [Lit.wf, IntKind.min, IntKind.max, IntKind.signed, IntKind.bits] using h
theorem int_bounds_u8 {n : Int} (h : (Lit.int .u8 n).wf = true) : 0 ≤ n ∧ n ≤ 255 := by
  simpa [Lit.wf, IntKind.min, IntKind.max, IntKind.signed, IntKind.bits] using h

/-- a slice of ints that came in -/
def IsRow (w : World) (a : Option Addr) (len cap : Nat) (zs : List Int) : Prop :=
  (a = none ∧ len = 0 ∧ cap = 0 ∧ zs = []) ∨
  ∃ x, a = some x ∧ len ≤ cap ∧ cap ≤ maxLen ∧ zs.length = cap ∧ (∀ i, i < zs.length → w.cell? (x.add i) = some (.int .i64 (zs.getD i 0))) ∧ ∀ n ∈ zs, (Lit.int .i64 n).wf = true
end Go.Proofs.YtpjmccajkcmmaaaGreatDoor
