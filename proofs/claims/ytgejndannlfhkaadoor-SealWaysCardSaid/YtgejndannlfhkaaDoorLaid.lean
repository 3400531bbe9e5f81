/- What the rows' lists give: the tables of SHA-256. -/
import Derived.Test.YtgejndannlfhkaaDoorOpen
import Derived.Stop.LaidErr
namespace Go.Proofs.YtgejndannlfhkaaDoor
open Go.ChangeShapes Go.WideShapes Go.ChangeAt Go.RowKit

theorem gStart : Tryd.prog.globalNamed "longwire/hash.start" = some 0 := by kernel_rfl
theorem gConsts : Tryd.prog.globalNamed "longwire/hash.constants" = some 3 := by kernel_rfl
theorem tStart : (Tryd.prog.globals[0]?).map (·.type) = some 88 := by kernel_rfl
theorem tConsts : (Tryd.prog.globals[3]?).map (·.type) = some 119 := by kernel_rfl
theorem cState : Tryd.prog.cellsOf 88 = 8 := by kernel_rfl
theorem cTab : Tryd.prog.cellsOf 119 = 64 := by kernel_rfl
theorem cWord : Tryd.prog.cellsOf 62 = 1 := by kernel_rfl

/-- The numbers as the rows list them. -/
def startNums : List Int := start.list.map n32
def constNums : List Int := kList.map n32

theorem tab_getD (l : List W32) (i : Nat) : (l.map n32).getD i 0 = n32 (l.getD i 0) := by
  simp only [List.getD, List.getElem?_map]
  cases l[i]? <;> rfl

theorem lt_of_cell {W : World} {g i : Nat} {v : Value} (h : W.cell? ⟨g, i, Option.none⟩ = some v) : g < W.heap.size := by
  rcases Nat.lt_or_ge g W.heap.size with h' | h'
  · exact h'
  · simp [World.cell?, Array.getElem?_eq_none h'] at h

theorem consts_starts {W : World} (h : laidMet Tryd.prog [("longwire/hash.start", Rows.laid_longwire_hash_start), ("longwire/hash.constants", Rows.laid_longwire_hash_constants)] W) : Consts W ∧ Starts W := by
  have h1 : Lib.TabIs Tryd.prog W "longwire/hash.start" .u32 startNums := Lib.tabIs_of_head gStart tStart Tryd.underlying88 Tryd.underlying62 cWord cState h
  have h2 : Lib.TabIs Tryd.prog W "longwire/hash.constants" .u32 constNums := Lib.tabIs_of_head gConsts tConsts Tryd.underlying119 Tryd.underlying62 cWord cTab (laidMet.tail h)
  have k1 : ∀ i, i < 8 → W.cell? ⟨0, i, Option.none⟩ = some (.int .u32 (n32 (start.list.getD i 0))) := fun i hi => by
    rw [← tab_getD]; exact h1.cell gStart i hi
  have k2 : ∀ i, i < 64 → W.cell? ⟨3, i, Option.none⟩ = some (.int .u32 (n32 (kList.getD i 0))) := fun i hi => by
    rw [← tab_getD]; exact h2.cell gConsts i hi
  exact ⟨⟨lt_of_cell (k2 0 (by omega)), k2⟩, ⟨lt_of_cell (k1 0 (by omega)), k1⟩⟩
end Go.Proofs.YtgejndannlfhkaaDoor
