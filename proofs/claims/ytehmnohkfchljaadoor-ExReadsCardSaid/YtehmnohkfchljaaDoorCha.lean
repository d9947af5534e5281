/-
  PROVED HERE: the contract of the document's char. Conditions: as each theorem states.
-/
import Derived.Test.YtehmnohkfchljaaDoorOwn
import Derived.Test.YtehmnohkfchljaaDoorErrB
namespace Go.Proofs.YtehmnohkfchljaaDoor.Chr
open Go.RowKit

theorem char_any (n : Int) (h0 : 0 ≤ n) (w : World) :
    Calls Tryd.prog 24 #[.int .u64 n] w fun e w' => e = .returned (.string ⟨#[UInt8.ofNat (n.toNat % 256)]⟩) ∧ Below w.heap.size w w' := by
  have hconv : (convert 88 9 (.slice (some ⟨w.heap.size, 0, none⟩) 1 1)).run Tryd.prog (w.alloc (.cells #[.int .u8 (n % 256)] 5)) = .ok (.string ⟨#[UInt8.ofNat (n.toNat % 256)]⟩) (w.alloc (.cells #[.int .u8 (n % 256)] 5)) := by
    refine run_convert_bytes_back _ _ _ 5 ⟨w.heap.size, 0, none⟩ 1 [UInt8.ofNat (n.toNat % 256)] Tryd.underlying88 Tryd.underlying5 Tryd.underlying9 ?_
    intro j hj
    obtain rfl : j = 0 := by simpa using hj
    have e : ((UInt8.ofNat (n.toNat % 256)).toNat : Int) = n % 256 := by
      rw [UInt8.toNat_ofNat']; omega
    simp [Addr.add]
    omega
  go_enter Tryd.func24, Tryd.ntmps24
  go_wp2
  go_ret
  exact ⟨rfl, (Below.refl _ _).alloc (Nat.le_refl _) _⟩

theorem good_any (W : World) : Calls Tryd.prog 25 #[] W fun e w' => e = .returned (.agg #[.int .i64 0, .int .i64 (-1)]) ∧ Below W.heap.size W w' := by
  go_enter Tryd.func25, Tryd.ntmps25
  go_wp2_with fail
  refine bodyPost_ret (v := .agg #[.int .i64 0, .int .i64 (-1)]) (by simp [results, Tryd.results25, go_sem]) rfl ⟨rfl, ?_⟩
  exact (Below.refl _ _).alloc (Nat.le_refl _) _

/-- The world's frame, and the result's two cells. -/
def Fr (W w : World) : Prop := Below W.heap.size W w ∧ (∃ x0, w.cell? ⟨W.heap.size, 0, none⟩ = some x0) ∧ (∃ x1, w.cell? ⟨W.heap.size, 1, none⟩ = some x1) ∧ w.frozen? ⟨W.heap.size, 0, none⟩ = false ∧ w.frozen? ⟨W.heap.size, 1, none⟩ = false
theorem Fr.drew {W w : World} (h : Fr W w) : Fr W w.drew := ⟨h.1.drew, h.2⟩
theorem Fr.below {W w w' : World} (hF : Fr W w) (b : Below w.heap.size w w') : Fr W w' := by
  obtain ⟨hB, ⟨x0, h0⟩, ⟨x1, h1⟩, g0, g1⟩ := hF
  exact ⟨hB.trans (b.mono hB.size), ⟨x0, keepCell b h0⟩, ⟨x1, keepCell b h1⟩, keepFree b h0 g0, keepFree b h1 g1⟩
theorem fr_since {P : Program} {f : FuncId} {args : Array Value} {R : Ending} {W w : World} (hF : Fr W w) (h : Calls P f args w fun e w' => e = R ∧ Below w.heap.size w w') : Calls P f args w fun e w' => e = R ∧ Fr W w' :=
  h.mono fun _ _ ⟨a, b⟩ => ⟨a, hF.below b⟩
theorem fr_new (W : World) (x0 x1 : Value) (E : Nat) : Fr W (W.alloc (.cells #[x0, x1] E)) := by
  refine ⟨(Below.refl _ _).alloc (Nat.le_refl _) _, ⟨x0, ?_⟩, ⟨x1, ?_⟩, ?_, ?_⟩
  · rw [World.cell?_alloc_new]; rfl
  · rw [World.cell?_alloc_new]; rfl
  · rw [World.frozen?_alloc_mark]; simp
  · rw [World.frozen?_alloc_mark]; simp
theorem Fr.stored {W w : World} (h : Fr W w) (u v : Value) : Below W.heap.size W ((w.setCell ⟨W.heap.size, 0, none⟩ u).setCell ⟨W.heap.size, 1, none⟩ v) :=
  (h.1.setCell (p := ⟨W.heap.size, 0, none⟩) (Nat.le_refl _) _).setCell (p := ⟨W.heap.size, 1, none⟩) (Nat.le_refl _) _

/-- What comes of a walk over places: an error and its place, or bytes. -/
inductive Res | bad (c p : Int) | good (l : List UInt8)
def Res.str : Res → ByteArray | .bad _ _ => ⟨#[]⟩ | .good l => ⟨l.toArray⟩
def Res.err : Res → Int | .bad c _ => c | .good _ => 0
def Res.at_ : Res → Int | .bad _ p => p | .good _ => -1
def RPost (Z : Res) (W : World) (e : Ending) (w' : World) : Prop := ∃ v, e = .returned (.tuple #[.string Z.str, v]) ∧ Err.ErrIs w' v Z.err Z.at_ ∧ Below W.heap.size W w'
end Go.Proofs.YtehmnohkfchljaaDoor.Chr
