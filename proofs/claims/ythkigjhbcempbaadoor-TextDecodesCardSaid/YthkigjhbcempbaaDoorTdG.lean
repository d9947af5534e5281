/-
  PROVED HERE: that the law TextDecodes returns true, where the tables of unicode/utf8 are as its text lays them. Conditions: as each theorem states.
-/
import Derived.Test.YthkigjhbcempbaaDoorTdF
import Derived.Test.YthkigjhbcempbaaDoorSame
import Derived.Deep.DeepCutAuto
namespace Go.Proofs.YthkigjhbcempbaaDoor.Td
open Go.RowKit
theorem dec_len (s : ByteArray) : ∀ (f p : Nat) (a b : List Int), (dec s f p a b).1.length ≤ a.length + f ∧ (dec s f p a b).2.length ≤ b.length + f
  | 0, _, _, _ => ⟨Nat.le_refl _, Nat.le_refl _⟩
  | f + 1, p, a, b => by
    rw [dec]
    split
    · exact ⟨by simp only; omega, by simp only; omega⟩
    · have h := dec_len s f (p + (sp s p).2) (a ++ [((sp s p).1 : Int)]) (b ++ [((sp s p).2 : Int)])
      simp only [List.length_append, List.length_singleton] at h
      omega
set_option maxRecDepth 100000 in
set_option maxHeartbeats 800000 in
theorem textDecodes_walk (a0 : ByteArray) (W : World) (hT : Lib.Utf8Tabs 0 1 W) :
    Calls Tryd.prog 4 #[.string a0] W fun e w' => e = .returned (.bool true) ∧ Below W.heap.size W w' := by
  by_cases hs : a0.size ≤ 200
  · have HT := Lib.hid hT
    have hl := dec_len a0 a0.size 0 [] []
    have C1 := Lib.hid (fun W => docDecode_any a0 hs W)
    have C2 := Lib.hid (fun W h => decode_any a0 hs W h)
    generalize dec a0 a0.size 0 [] [] = Z at *
    obtain ⟨l, m⟩ := Z
    have L1 := Lib.hid (show l.length ≤ 1000000 by have := hl.1; simp at this; omega)
    have L2 := Lib.hid (show m.length ≤ 1000000 by have := hl.2; simp at this; omega)
    clear hl hT
    have hs' : ¬ (200 : Int) < (a0.size : Int) := by omega
    go_enter Tryd.func4, Tryd.ntmps4
    go_wp2_with fail
    refine (C1.out _).mono ?_; rintro e w1 ⟨v1, u1, rfl, o1, o2, hb1⟩
    have I1 := Lib.hid o1.ints
    have I2 := Lib.hid o2.ints
    have T1 := Lib.hid (tabs_below HT.out hb1)
    have B1 := Lib.hid hb1
    clear o1 o2 hb1
    go_wp2_with fail
    refine (C2.out _ T1.out).mono ?_; rintro e w2 ⟨v2, u2, rfl, o1, o2, hb2⟩
    have J1 := Lib.hid o1.ints
    have J2 := Lib.hid o2.ints
    have I1' := Lib.hid (I1.out.below hb2)
    have I2' := Lib.hid (I2.out.below hb2)
    have B2 := Lib.hid (B1.out.trans (hb2.mono B1.out.size))
    clear o1 o2 hb2 I1 I2
    go_wp2_with fail
    refine (sameInts_any _ _ l _ J1.out I1'.out L1.out).mono ?_; rintro e w3 ⟨rfl, hb3⟩
    have J2' := Lib.hid (J2.out.below hb3)
    have I2'' := Lib.hid (I2'.out.below hb3)
    have B3 := Lib.hid (B2.out.trans (hb3.mono B2.out.size))
    clear hb3
    go_wp2_with fail
    refine (sameInts_any _ _ m _ J2'.out I2''.out L2.out).mono ?_; rintro e w4 ⟨rfl, hb4⟩
    have B4 := Lib.hid (B3.out.trans (hb4.mono B3.out.size))
    clear hb4
    go_wp2_with fail
    go_ret
    exact ⟨rfl, B4.out⟩
  · have hs' : (200 : Int) < (a0.size : Int) := by omega
    clear hs
    go_enter Tryd.func4, Tryd.ntmps4
    go_wp2_with fail
    go_ret
    exact ⟨rfl, Below.refl _ _⟩
end Go.Proofs.YthkigjhbcempbaaDoor.Td
