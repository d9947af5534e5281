/-
  PROVED HERE: the law LzPacks returns true. Conditions: as each theorem states.
-/
import Derived.Test.YtnbpninnanjemaaDoorLzE
import Derived.Test.YtnbpninnanjemaaDoorLzS
import Derived.Test.YtnbpninnanjemaaDoorErrB
namespace Go.Proofs.YtnbpninnanjemaaDoor.Lz
open Go.RowKit
theorem NErr.is {u : Value} {c : Nat} (h : NErr u c) (w : World) : Err.ErrIs w u (c : Int) (-1) := by
  rcases h with ⟨rfl, rfl⟩ | ⟨rfl, _⟩
  · exact .inl ⟨rfl, rfl, rfl⟩
  · exact .inr (.inl ⟨rfl, rfl⟩)
set_option maxRecDepth 100000 in
set_option maxHeartbeats 2000000 in
theorem packs_main (a0 a1 : ByteArray) (W : World) (hg : Err.Home W) (r : Nat × ByteArray) (h1 : a1.size ≤ 300) (h0 : a0.size ≤ 1500 ∨ (4000 < a0.size ∧ a0.size ≤ 4009))
    (k1 : ∀ W', Calls Tryd.prog 5 #[.string a0] W' (UnP r W')) (k2 : ∀ W', Calls Tryd.prog 6 #[.string a0] W' (UpP r W')) :
    Calls Tryd.prog 3 #[.string a0, .string a1] W fun e w' => e = .returned (.bool true) ∧ Below W.heap.size W w' := by
  have HG := Lib.hid hg
  have C1 := Lib.hid k1
  have C2 := Lib.hid k2
  have C3 := Lib.hid (fun W => docUnpack_any a1 W h1)
  have C4 := Lib.hid (fun W => unpack_any a1 W h1)
  generalize up a1 0 ⟨#[]⟩ = z at *
  obtain ⟨c1, b1⟩ := r
  obtain ⟨c2, b2⟩ := z
  unfold UnP at C1 C3
  unfold UpP at C2 C4
  simp only at C1 C2 C3 C4
  have q1 : (a1.size : Int) ≤ 300 := by omega
  have q2 : (a0.size : Int) ≤ 4009 := by omega
  have hcase : (a0.size : Int) ≤ 1500 ∨ ((1500 : Int) < (a0.size : Int) ∧ (4000 : Int) < (a0.size : Int)) := by omega
  clear hg k1 k2 h1 h0
  rcases hcase with d1 | ⟨d1, d2⟩
  all_goals
    go_enter Tryd.func3, Tryd.ntmps3
    go_wp2_with fail
    refine (C1.out _).mono ?_; rintro e w1 ⟨rfl, h1⟩
    have H1 := Lib.hid h1
    clear h1
    go_wp2_with fail
    refine (C2.out _).mono ?_; rintro e w2 ⟨v1, rfl, n1, h2⟩
    have N1 := Lib.hid n1
    have H2 := Lib.hid (H1.out.trans (h2.mono H1.out.size))
    clear h2 n1
    go_wp2_with fail
    refine (C3.out _).mono ?_; rintro e w3 ⟨rfl, h3⟩
    have H3 := Lib.hid (H2.out.trans (h3.mono H2.out.size))
    clear h3
    go_wp2_with fail
    refine (C4.out _).mono ?_; rintro e w4 ⟨v2, rfl, n2, h4⟩
    have N2 := Lib.hid n2
    have H4 := Lib.hid (H3.out.trans (h4.mono H3.out.size))
    clear h4 n2
    go_wp2_with fail
    refine (Err.bare_any v1 c1 (-1) c1 _ (HG.out.below H4.out) (N1.out.is _)).mono ?_; rintro e w5 ⟨rfl, h5⟩
    have H5 := Lib.hid (H4.out.trans (h5.mono H4.out.size))
    clear h5
    go_wp2_with fail
    refine (Err.bare_any v2 c2 (-1) c2 _ (HG.out.below H5.out) (N2.out.is _)).mono ?_; rintro e w6 ⟨rfl, h6⟩
    have H6 := Lib.hid (H5.out.trans (h6.mono H5.out.size))
    clear h6
    go_wp2_with fail
    go_ret
    exact ⟨ret_bool (by simp), H6.out⟩
theorem packs_walk (a0 a1 : ByteArray) (W : World) (hg : Err.Home W) :
    Calls Tryd.prog 3 #[.string a0, .string a1] W fun e w' => e = .returned (.bool true) ∧ Below W.heap.size W w' := by
  by_cases h1 : a1.size ≤ 300
  · by_cases h2 : a0.size ≤ 1500
    · refine packs_main a0 a1 W hg (0, ⟨(pk a0 0 [] []).toArray⟩) h1 (.inl h2) (fun W' => ?_) (fun W' => ?_)
      · exact (docPack_any a0 h2 W').mono fun e w' ⟨he, hb⟩ => ⟨he, hb⟩
      · exact (pack_any a0 h2 W').mono fun e w' ⟨he, hb⟩ => ⟨_, he, .inl ⟨rfl, rfl⟩, hb⟩
    · by_cases h3 : a0.size ≤ 4000
      · have d1 : (1500 : Int) < (a0.size : Int) := by omega
        have d2 : (a0.size : Int) ≤ 4000 := by omega
        go_enter Tryd.func3, Tryd.ntmps3
        go_wp2_with fail
        go_ret
        exact ⟨rfl, Below.refl _ _⟩
      · by_cases h4 : a0.size ≤ 4009
        · refine packs_main a0 a1 W hg (4, ⟨#[]⟩) h1 (.inr ⟨by omega, h4⟩) (fun W' => ?_) (fun W' => ?_)
          · exact (docPack_far a0 (by omega) W').mono fun e w' ⟨he, hb⟩ => ⟨he, by subst hb; exact Below.refl _ _⟩
          · exact (pack_far a0 (by omega) W').mono fun e w' ⟨he, hb⟩ => ⟨_, he, .inr ⟨rfl, by decide⟩, by subst hb; exact Below.refl _ _⟩
        · have d1 : (1500 : Int) < (a0.size : Int) := by omega
          have d2 : (4000 : Int) < (a0.size : Int) := by omega
          have d3 : (4009 : Int) < (a0.size : Int) := by omega
          go_enter Tryd.func3, Tryd.ntmps3
          go_wp2_with fail
          go_ret
          exact ⟨rfl, Below.refl _ _⟩
  · have d0 : (300 : Int) < (a1.size : Int) := by omega
    rcases (show (a0.size : Int) ≤ 1500 ∨ ((1500 : Int) < (a0.size : Int) ∧ (a0.size : Int) ≤ 4000) ∨ ((4000 : Int) < (a0.size : Int) ∧ (a0.size : Int) ≤ 4009) ∨ (4009 : Int) < (a0.size : Int) by omega) with d1 | ⟨d1, d2⟩ | ⟨d1, d2⟩ | d1
    · have d3 : (a0.size : Int) ≤ 4009 := by omega
      go_enter Tryd.func3, Tryd.ntmps3
      go_wp2_with fail
      go_ret
      exact ⟨rfl, Below.refl _ _⟩
    · go_enter Tryd.func3, Tryd.ntmps3
      go_wp2_with fail
      go_ret
      exact ⟨rfl, Below.refl _ _⟩
    · have d3 : (1500 : Int) < (a0.size : Int) := by omega
      go_enter Tryd.func3, Tryd.ntmps3
      go_wp2_with fail
      go_ret
      exact ⟨rfl, Below.refl _ _⟩
    · have d3 : (1500 : Int) < (a0.size : Int) := by omega
      have d4 : (4000 : Int) < (a0.size : Int) := by omega
      go_enter Tryd.func3, Tryd.ntmps3
      go_wp2_with fail
      go_ret
      exact ⟨rfl, Below.refl _ _⟩
end Go.Proofs.YtnbpninnanjemaaDoor.Lz
