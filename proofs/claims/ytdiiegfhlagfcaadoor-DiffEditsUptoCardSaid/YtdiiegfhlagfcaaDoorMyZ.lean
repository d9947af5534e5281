/-
  PROVED HERE: the law DiffEdits returns true. Conditions: as each theorem states.
-/
import Derived.Test.YtdiiegfhlagfcaaDoorMyF
import Derived.Test.YtdiiegfhlagfcaaDoorMyI
import Derived.Test.YtdiiegfhlagfcaaDoorMyO
import Derived.Test.YtdiiegfhlagfcaaDoorMyP
import Derived.Test.YtdiiegfhlagfcaaDoorMyQ
import Derived.Test.YtdiiegfhlagfcaaDoorErrB
namespace Go.Proofs.YtdiiegfhlagfcaaDoor.My
open Go.RowKit
theorem fold_len (l : List Ed) : ∀ acc : List Ed, (l.foldl addE acc).length ≤ acc.length + l.length := by
  induction l with
  | nil => intro acc; exact Nat.le_refl _
  | cons e r ih =>
    intro acc
    rw [List.foldl_cons, List.length_cons]
    have := ih (addE acc e)
    have := addE_len acc e
    omega
theorem nil_is (w : World) : Err.ErrIs w .nilIface 0 (-1) := .inl ⟨rfl, rfl, rfl⟩
set_option maxRecDepth 100000 in
set_option maxHeartbeats 4000000 in
theorem edits_walk (a b : ByteArray) (hb : a.size + b.size ≤ 1048576) (W : World) (hg : Err.Home W) :
    Calls Tryd.prog 3 #[.string a, .string b] W fun e w' => e = .returned (.bool true) ∧ Below W.heap.size W w' := by
  have HG := Lib.hid hg
  clear hg
  by_cases h1 : 300 < a.size + b.size
  · go_enter Tryd.func3, Tryd.ntmps3
    go_wp2_with fail
    go_ret
    exact ⟨rfl, Below.refl _ _⟩
  · have hs : a.size + b.size ≤ 300 := by omega
    have D1 := Lib.hid (fun w => docfar_any a b hs w)
    have D2 := Lib.hid (fun w => far_any a b hs w)
    have D3 := Lib.hid (fun w => docedits_any a b hs w)
    have D4 := Lib.hid (fun w => edits_any a b hs w)
    obtain ⟨L, hL⟩ : ∃ L, (steps a b 0 0).foldl addE [] = L := ⟨_, rfl⟩
    have hLn : L.length ≤ 400 := by
      rw [← hL]
      have := fold_len (steps a b 0 0) []
      have := steps_len (a := a) (b := b) 300 0 0 (Nat.zero_le _) (Nat.zero_le _) (by omega)
      simp at *; omega
    unfold DeP at D3
    unfold EdP at D4
    rw [hL] at D3 D4
    clear hL
    go_enter Tryd.func3, Tryd.ntmps3
    go_wp2_with fail
    refine (D1.out _).mono ?_; rintro e w1 ⟨rfl, b1⟩
    have B1 := Lib.hid b1
    clear b1
    go_wp2_with fail
    refine (D2.out _).mono ?_; rintro e w2 ⟨rfl, b2⟩
    have B2 := Lib.hid (B1.out.trans (b2.mono B1.out.size))
    clear b2
    go_wp2_with fail
    refine (D3.out _).mono ?_; rintro e w3 ⟨v3, rfl, E3, b3⟩
    have B3 := Lib.hid (B2.out.trans (b3.mono B2.out.size))
    have E3H := Lib.hid E3
    clear b3 E3
    go_wp2_with fail
    refine (D4.out _).mono ?_; rintro e w4 ⟨v4, rfl, E4, b4⟩
    have B4 := Lib.hid (B3.out.trans (b4.mono B3.out.size))
    have E3H2 := Lib.hid (E3H.out.below b4)
    have E4H := Lib.hid E4
    clear b4 E4 E3H
    go_wp2_with fail
    refine (Err.bare_any _ 0 (-1) 0 _ (HG.out.below B4.out) (nil_is _)).mono ?_; rintro e w5 ⟨rfl, b5⟩
    have B5 := Lib.hid (B4.out.trans (b5.mono B4.out.size))
    have E3H3 := Lib.hid (E3H2.out.below b5)
    have E4H3 := Lib.hid (E4H.out.below b5)
    clear b5 E3H2 E4H
    go_wp2_with fail
    refine (Err.bare_any _ 0 (-1) 0 _ (HG.out.below B5.out) (nil_is _)).mono ?_; rintro e w6 ⟨rfl, b6⟩
    have B6 := Lib.hid (B5.out.trans (b6.mono B5.out.size))
    have E3H4 := Lib.hid (E3H3.out.below b6)
    have E4H4 := Lib.hid (E4H3.out.below b6)
    clear b6 E3H3 E4H3
    go_wp2_with fail
    refine (same_any v4 v3 L _ E4H4.out E3H4.out hLn).mono ?_; rintro e w7 ⟨rfl, b7⟩
    have B7 := Lib.hid (B6.out.trans (b7.mono B6.out.size))
    clear b7
    go_wp2_with fail
    go_ret
    exact ⟨rfl, B7.out⟩
end Go.Proofs.YtdiiegfhlagfcaaDoor.My
