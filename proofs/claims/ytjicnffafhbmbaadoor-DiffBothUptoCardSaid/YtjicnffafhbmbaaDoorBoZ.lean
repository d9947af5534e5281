/-
  PROVED HERE: the law DiffBoth returns true. Conditions: as each theorem states.
-/
import Derived.Test.YtjicnffafhbmbaaDoorBoG
import Derived.Test.YtjicnffafhbmbaaDoorBoJ
import Derived.Test.YtjicnffafhbmbaaDoorErrB
namespace Go.Proofs.YtjicnffafhbmbaaDoor.Bo
open Go.RowKit Go.Proofs.YtjicnffafhbmbaaDoor.My
theorem nil_is (w : World) : Err.ErrIs w .nilIface 0 (-1) := .inl ⟨rfl, rfl, rfl⟩
set_option maxRecDepth 100000 in
set_option maxHeartbeats 4000000 in
theorem both_core (old a b s : ByteArray) (u : Bool) (h1 : ¬ 200 < old.size + a.size) (h2 : ¬ 200 < old.size + b.size) (W : World) (HG : Hid (Err.Home W))
    (D1 : Hid (∀ w, Calls Tryd.prog 4 #[.string old, .string a, .string b] w fun e w' => e = .returned (.tuple #[.string s, .bool u, .int .i64 0]) ∧ Below w.heap.size w w'))
    (D2 : Hid (∀ w, Calls Tryd.prog 5 #[.string old, .string a, .string b] w fun e w' => e = .returned (.tuple #[.string s, .bool u, .nilIface]) ∧ Below w.heap.size w w')) :
    Calls Tryd.prog 3 #[.string old, .string a, .string b] W fun e w' => e = .returned (.bool true) ∧ Below W.heap.size W w' := by
  have t1 : (s.toList == s.toList) = true := by rw [beq_iff_eq]
  have t2 : (u == u) = true := by rw [beq_iff_eq]
  go_enter Tryd.func3, Tryd.ntmps3
  go_wp2_with fail
  refine (D1.out _).mono ?_; rintro e w1 ⟨rfl, b1⟩
  have B1 := Lib.hid b1
  clear b1
  go_wp2_with fail
  refine (D2.out _).mono ?_; rintro e w2 ⟨rfl, b2⟩
  have B2 := Lib.hid (B1.out.trans (b2.mono B1.out.size))
  clear b2
  go_wp2_with fail
  refine (Err.bare_any _ 0 (-1) 0 _ (HG.out.below B2.out) (nil_is _)).mono ?_; rintro e w3 ⟨rfl, b3⟩
  have B3 := Lib.hid (B2.out.trans (b3.mono B2.out.size))
  clear b3
  go_wp2_with fail
  go_ret
  exact ⟨rfl, B3.out⟩
set_option maxRecDepth 100000 in
set_option maxHeartbeats 4000000 in
theorem both_walk (old a b : ByteArray) (hz : old.size + a.size + b.size ≤ 1048576) (W : World) (hg : Err.Home W) :
    Calls Tryd.prog 3 #[.string old, .string a, .string b] W fun e w' => e = .returned (.bool true) ∧ Below W.heap.size W w' := by
  have HG := Lib.hid hg
  clear hg
  by_cases h1 : 200 < old.size + a.size
  · go_enter Tryd.func3, Tryd.ntmps3
    go_wp2_with fail
    go_ret
    exact ⟨rfl, Below.refl _ _⟩
  by_cases h2 : 200 < old.size + b.size
  · go_enter Tryd.func3, Tryd.ntmps3
    go_wp2_with fail
    go_ret
    exact ⟨rfl, Below.refl _ _⟩
  have D1 := fun w => docboth_any old a b (by omega) (by omega) w
  have D2 := fun w => both_any old a b (by omega) (by omega) w
  unfold DoB at D1
  unfold BoP at D2
  cases hr : res old ⟨#[]⟩ 0 (merge (changes old a) (changes old b)) with
  | none =>
    rw [hr] at D1 D2
    exact both_core old a b a false h1 h2 W HG (Lib.hid D1) (Lib.hid D2)
  | some s =>
    rw [hr] at D1 D2
    exact both_core old a b s true h1 h2 W HG (Lib.hid D1) (Lib.hid D2)
end Go.Proofs.YtjicnffafhbmbaaDoor.Bo
