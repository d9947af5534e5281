/-
  PROVED HERE: results of commands that lie in cells. Conditions: as each theorem states.
-/
import Derived.Test.YtgkmjkjcdjkffaaDoorKeyD
namespace Go.Proofs.YtgkmjkjcdjkffaaDoor.Key
open Go.RowKit
theorem cmd_results (tmps : Array Value) (w : World) (g : Nat) (v0 v1 v2 v3 v4 : Value) (h2 : tmps.getD 2 undef = .pointer (some ⟨g, 0, none⟩)) (c0 : w.cell? ⟨g, 0, none⟩ = some v0) (c1 : w.cell? ⟨g, 1, none⟩ = some v1) (c2 : w.cell? ⟨g, 2, none⟩ = some v2) (c3 : w.cell? ⟨g, 3, none⟩ = some v3) (c4 : w.cell? ⟨g, 4, none⟩ = some v4) :
    (results Tryd.f11 tmps).run Tryd.prog w = .ok (.tuple #[.agg #[v0, v1, v2, v3, v4], tmps.getD 3 undef]) w := by
  have h2' : tmps[2]?.getD undef = .pointer (some ⟨g, 0, none⟩) := by simpa using h2
  simp only [results, Tryd.f11]
  simp [go_sem, h2', c0, c1, c2, c3, c4]
theorem parse_results (tmps : Array Value) (w : World) (g : Nat) (v0 v1 v2 v3 v4 : Value) (h2 : tmps.getD 2 undef = .pointer (some ⟨g, 0, none⟩)) (c0 : w.cell? ⟨g, 0, none⟩ = some v0) (c1 : w.cell? ⟨g, 1, none⟩ = some v1) (c2 : w.cell? ⟨g, 2, none⟩ = some v2) (c3 : w.cell? ⟨g, 3, none⟩ = some v3) (c4 : w.cell? ⟨g, 4, none⟩ = some v4) :
    (results Tryd.f4 tmps).run Tryd.prog w = .ok (.tuple #[.agg #[v0, v1, v2, v3, v4], tmps.getD 3 undef, tmps.getD 4 undef]) w := by
  have h2' : tmps[2]?.getD undef = .pointer (some ⟨g, 0, none⟩) := by simpa using h2
  simp only [results, Tryd.f4]
  simp [go_sem, h2', c0, c1, c2, c3, c4]
end Go.Proofs.YtgkmjkjcdjkffaaDoor.Key
