/-
  PROVED HERE: where the tables of unicode/utf8 read as their text lays them, their cells are what the decoder asks. Conditions: as each theorem states.
-/
import Derived.Test.YthkigjhbcempbaaDoorTdG
import Derived.LaidHandle
import Derived.Lib.LaidU8T
import Derived.Deep.DeepLaidRun
namespace Go.Proofs.YthkigjhbcempbaaDoor.Td
open Go.RowKit Go.Lib
theorem tabs_of_laid {W : World} (h : laidMet Tryd.prog [("unicode/utf8.acceptRanges", Rows.laid_unicode_utf8_acceptRanges), ("unicode/utf8.first", Rows.laid_unicode_utf8_first)] W) : Lib.Utf8Tabs 0 1 W := by
  have r1 := laidMet.reads h (n := "unicode/utf8.first") (d := Rows.laid_unicode_utf8_first) (by simp)
  have r2 := laidMet.reads h (n := "unicode/utf8.acceptRanges") (d := Rows.laid_unicode_utf8_acceptRanges) (by simp)
  have e1 : (Rows.laid_unicode_utf8_first : DataW Unit) = firstData := by kernel_rfl
  have e2 : (Rows.laid_unicode_utf8_acceptRanges : DataW Unit) = acceptData := by kernel_rfl
  rw [e1] at r1
  rw [e2] at r2
  exact utf8Tabs_of_readsT (U8Types.of260 Tryd.lays260) { n3 := by kernel_rfl, n4 := by kernel_rfl, y3 := by kernel_rfl, y4 := by kernel_rfl, c5 := by kernel_rfl, c119 := by kernel_rfl, c138 := by kernel_rfl } r1 r2
/-- The tables' cells. -/
def firstCells : List Value := firstTab.map fun z => .int .u8 z
def acceptCells : List Value := (List.range 16).flatMap fun i => [.int .u8 (accLo i : Nat), .int .u8 (accHi i : Nat)]
end Go.Proofs.YthkigjhbcempbaaDoor.Td
