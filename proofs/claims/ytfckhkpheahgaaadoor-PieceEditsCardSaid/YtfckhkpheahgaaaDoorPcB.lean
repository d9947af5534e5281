/-
  PROVED HERE: the contracts of piece's size, high, join. Conditions: as each theorem states.
-/
import Derived.Test.YtfckhkpheahgaaaDoorPcA
import Derived.Test.YtfckhkpheahgaaaDoorRows
import Derived.Deep.RegionLaw
import Derived.Deep.RegionWith
import Derived.Deep.RegionHeld3
namespace Go.Proofs.YtfckhkpheahgaaaDoor.Pc
open Go.RowKit
theorem size_any (w : World) (v : Value) (T : Tr) (h : IsT w v T) : Calls Tryd.prog 16 #[v] w fun e w' => e = .returned (.int .i64 (T.txt.length : Nat)) ∧ w = w' := by
  cases T with
  | nil =>
    obtain rfl : v = .pointer none := h
    go_enter Tryd.func16, Tryd.ntmps16
    go_wp2_with fail
    go_ret
    exact ⟨rfl, rfl⟩
  | node l t r =>
    obtain ⟨b, vl, vr, rfl, c0, c1, c2, c3, c4, hl, hr⟩ := h
    clear c0 c2 c3 c4 hl hr
    generalize (Tr.node l t r).txt.length = n at *
    go_enter Tryd.func16, Tryd.ntmps16
    go_wp2_with fail
    go_ret
    exact ⟨rfl, rfl⟩
theorem high_any (w : World) (v : Value) (T : Tr) (h : IsT w v T) : Calls Tryd.prog 18 #[v] w fun e w' => e = .returned (.int .i64 (T.hgt : Nat)) ∧ w = w' := by
  cases T with
  | nil =>
    obtain rfl : v = .pointer none := h
    go_enter Tryd.func18, Tryd.ntmps18
    go_wp2_with fail
    go_ret
    exact ⟨rfl, rfl⟩
  | node l t r =>
    obtain ⟨b, vl, vr, rfl, c0, c1, c2, c3, c4, hl, hr⟩ := h
    clear c0 c1 c3 c4 hl hr
    generalize (Tr.node l t r).hgt = n at *
    go_enter Tryd.func18, Tryd.ntmps18
    go_wp2_with fail
    go_ret
    exact ⟨rfl, rfl⟩
def TreeP (T : Tr) (w : World) (e : Ending) (w' : World) : Prop := ∃ p, e = .returned (.pointer p) ∧ IsT w' (.pointer p) T ∧ Below w.heap.size w w'
def HasP (s : List UInt8) (w : World) (e : Ending) (w' : World) : Prop := ∃ p, e = .returned (.pointer p) ∧ Has w' (.pointer p) s ∧ Below w.heap.size w w'
set_option maxHeartbeats 800000 in
theorem join_any (w : World) (p q : Option Addr) (T U : Tr) (t : ByteArray) (hT : IsT w (.pointer p) T) (hU : IsT w (.pointer q) U) (b1 : T.txt.length ≤ 100000) (b2 : U.txt.length ≤ 100000) (b3 : t.size ≤ 100000) (b4 : T.hgt ≤ 100000) (b5 : U.hgt ≤ 100000) :
    Calls Tryd.prog 11 #[.pointer p, .string t, .pointer q] w (TreeP (.node T t U) w) := by
  have S1 := Lib.hid (size_any w _ T hT)
  have S2 := Lib.hid (size_any w _ U hU)
  have H1 := Lib.hid (high_any w _ T hT)
  have H2 := Lib.hid (high_any w _ U hU)
  have HN := Lib.hid (len_node T t U)
  have HT := Lib.hid hT
  have HU := Lib.hid hU
  have HH := Lib.hid (show (Tr.node T t U).hgt = 1 + max T.hgt U.hgt from rfl)
  clear hT hU
  generalize T.txt.length = n at *
  generalize U.txt.length = m at *
  generalize hh : T.hgt = h at *
  generalize hk : U.hgt = k at *
  clear hh hk
  go_enter Tryd.func11, Tryd.ntmps11
  go_wp2_with fail
  refine S1.out.mono ?_; rintro e w' ⟨rfl, rfl⟩
  go_wp2_with fail
  refine S2.out.mono ?_; rintro e w' ⟨rfl, rfl⟩
  go_wp2_with fail
  refine H1.out.mono ?_; rintro e w' ⟨rfl, rfl⟩
  go_wp2_with fail
  refine H2.out.mono ?_; rintro e w' ⟨rfl, rfl⟩
  go_wp2_with fail
  all_goals
    go_ret
    have hb : ∀ o, Below w.heap.size w (w.alloc o) := fun o => (Below.refl _ _).alloc (Nat.le_refl _) _
    refine ⟨_, rfl, ⟨w.heap.size, p, q, rfl, ?_, ?_, ?_, ?_, ?_, HT.out.below (hb _), HU.out.below (hb _)⟩, hb _⟩
    · rw [World.cell?_alloc_new]; rfl
    · rw [World.cell?_alloc_new, HN.out]; exact congrArg (fun z => some (Value.int .i64 z)) (by omega)
    · rw [World.cell?_alloc_new, HH.out]; exact congrArg (fun z => some (Value.int .i64 z)) (by omega)
    · rw [World.cell?_alloc_new]; rfl
    · rw [World.cell?_alloc_new]; rfl
end Go.Proofs.YtfckhkpheahgaaaDoor.Pc
