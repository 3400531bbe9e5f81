/- What the rows' lists give: the tables of SHA-256, the reference's too. -/
import Derived.Test.YtgejndannlfhkaaDoorLaid
import Derived.Test.YtgejndannlfhkaaDoorRefB
import Derived.Lib.LaidPrint
namespace Go.Proofs.YtgejndannlfhkaaDoor
open Go.ChangeShapes Go.WideShapes Go.ChangeAt Go.RowKit

theorem gSquares : Tryd.prog.globalNamed "longwire/longwireref02.squares" = some 1 := by kernel_rfl
theorem gCubes : Tryd.prog.globalNamed "longwire/longwireref02.cubes" = some 2 := by kernel_rfl
theorem tSquares : (Tryd.prog.globals[1]?).map (·.type) = some 93 := by kernel_rfl
theorem tCubes : (Tryd.prog.globals[2]?).map (·.type) = some 93 := by kernel_rfl

def natsOf (l : List W32) : List Nat := l.map fun x => x.toNat
theorem natsOf_length (l : List W32) : (natsOf l).length = l.length := by simp [natsOf]
theorem natsOf_get (l : List W32) (i : Nat) : (((natsOf l).getD i 0 : Nat) : Int) = n32 (l.getD i 0) := by
  simp only [natsOf, List.getD, List.getElem?_map]
  cases l[i]? <;> rfl
theorem tabAt_of {W : World} {v : Nat} {l : List W32} (hl : 0 < l.length) (h : Lib.TabSlice v .u32 (natsOf l) W) : TabAt W v l := by
  obtain ⟨R, o, c, hc, hr⟩ := h
  rw [natsOf_length] at hc hr
  have h1 : ∀ i, i < l.length → W.cell? ⟨R, o + i, Option.none⟩ = some (.int .u32 (n32 (l.getD i 0))) := fun i hi => by rw [hr i hi, natsOf_get]
  exact ⟨lt_of_cell hc, R, o, c, lt_of_cell (h1 0 hl), hc, h1⟩

theorem tables_ref {W : World} (h : laidMet Tryd.prog [("longwire/longwireref02.squares", Rows.laid_longwire_longwireref02_squares), ("longwire/longwireref02.cubes", Rows.laid_longwire_longwireref02_cubes), ("longwire/hash.start", Rows.laid_longwire_hash_start), ("longwire/hash.constants", Rows.laid_longwire_hash_constants)] W) : (Consts W ∧ Starts W) ∧ Squares W ∧ Cubes W := by
  have e1 : (Rows.laid_longwire_longwireref02_squares : DataW Unit) = Lib.sliceData .u32 (natsOf start.list) := by kernel_rfl
  have e2 : (Rows.laid_longwire_longwireref02_cubes : DataW Unit) = Lib.sliceData .u32 (natsOf kList) := by kernel_rfl
  have cW : Tryd.prog.cellsOf 62 = 1 := by kernel_rfl
  have h1 : Lib.TabSlice 1 .u32 (natsOf start.list) W := Lib.tabSlice_of_reads gSquares tSquares Tryd.underlying93 Tryd.underlying62 cW (by decide) (e1 ▸ Lib.laidMet.reads h (List.mem_cons_self ..))
  have h2 : Lib.TabSlice 2 .u32 (natsOf kList) W := Lib.tabSlice_of_reads gCubes tCubes Tryd.underlying93 Tryd.underlying62 cW (by decide) (e2 ▸ Lib.laidMet.reads (laidMet.tail h) (List.mem_cons_self ..))
  exact ⟨consts_starts (laidMet.tail (laidMet.tail h)), tabAt_of (by decide) h1, tabAt_of (by decide) h2⟩
end Go.Proofs.YtgejndannlfhkaaDoor
