/- What the walks ask of the package-level variables of Go's library: the tables as they are laid, and the sentinel strconv.ErrRange; kept over whatever leaves old blocks alone. -/
import Derived.Test.YtpjmccajkcmmaaaGreatDoorShelf
import Derived.WalkKit
import Derived.Lib.LaidU8T
namespace Go.Proofs.YtpjmccajkcmmaaaGreatDoor
open Go.RowKit

structure Gl (w : World) : Prop where
  tabs : Lib.Utf8Tabs 2 3 w
  pow : Lib.TabIs Tryz.prog w "internal/strconv.uint64pow10" .u64 Lib.pow10Tab
  rng : ∃ a, w.cell? ⟨0, 0, none⟩ = some (.iface 240 (.pointer (some a)))

theorem Gl.cell {w w' : World} (hb : Below w.heap.size w w') {a : Addr} {v : Value} (hc : w.cell? a = some v) : w'.cell? a = some v := (hb.cell (World.block_lt_of_cell? w a hc)).trans hc
theorem Gl.tab {w w' : World} {n : String} {g : Nat} {k : IntKind} {zs : List Int} (hg : Tryz.prog.globalNamed n = some g) (h : Lib.TabIs Tryz.prog w n k zs) (hb : Below w.heap.size w w') : Lib.TabIs Tryz.prog w' n k zs := by
  unfold Lib.TabIs World.var? at h ⊢
  rw [hg] at h ⊢
  simp only [Option.bind_some] at h ⊢
  have hlt : g < w.heap.size := by
    rcases Nat.lt_or_ge g w.heap.size with h' | h'
    · exact h'
    · rw [Array.getElem?_eq_none h'] at h; cases h
  rw [hb.block g hlt]
  exact h

theorem Gl.below {w w' : World} (h : Gl w) (hb : Below w.heap.size w w') : Gl w' where
  tabs := ⟨fun c hc => Gl.cell hb (h.tabs.1 c hc), fun i hi => ⟨Gl.cell hb (h.tabs.2 i hi).1, Gl.cell hb (h.tabs.2 i hi).2⟩⟩
  pow := Gl.tab (g := 5) (by kernel_rfl) h.pow hb
  rng := let ⟨a, ha⟩ := h.rng; ⟨a, Gl.cell hb ha⟩
end Go.Proofs.YtpjmccajkcmmaaaGreatDoor
