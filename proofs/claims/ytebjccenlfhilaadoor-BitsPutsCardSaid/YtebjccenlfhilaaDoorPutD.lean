/-
  PROVED HERE: contracts of bits.Put and of the document's BitsPut where they refuse, and that the law BitsPuts returns true. Conditions: as each theorem states.
-/
import Derived.Test.YtebjccenlfhilaaDoorPutC
namespace Go.Proofs.YtebjccenlfhilaaDoor.Bit
open Go.RowKit

theorem put_no (s : ByteArray) (a n o x c : Int) (h : ∀ W, Calls Tryd.prog 19 #[.string s, .int .i64 a, .int .i64 n, .int .i64 o] W fun e w' => e = .returned (.tuple #[.int .u64 0, .iface 28 (.int .i64 c)]) ∧ W = w') (W : World) :
    Calls Tryd.prog 28 #[.string s, .int .i64 a, .int .i64 n, .int .i64 o, .int .u64 x] W fun e w' => e = .returned (.tuple #[.string ⟨#[]⟩, .iface 28 (.int .i64 c)]) ∧ Below W.heap.size W w' := by
  have C := Lib.hid h
  clear h
  go_enter Tryd.func28, Tryd.ntmps28
  go_wp2_with fail
  refine (C.out _).mono ?_; rintro e w' ⟨rfl, rfl⟩
  go_wp2_with fail
  go_ret2
  exact ⟨rfl, Below.refl _ _⟩
theorem docPut_no (s : ByteArray) (a n o x c : Int) (hx : c = 1 ∨ c = 2) (h : ∀ W, Calls Tryd.prog 41 #[.string s, .int .i64 a, .int .i64 n, .int .i64 o] W fun e w' => e = .returned (.int .i64 c) ∧ W = w') (W : World) :
    Calls Tryd.prog 27 #[.string s, .int .i64 a, .int .i64 n, .int .i64 o, .int .u64 x] W fun e w' => e = .returned (.tuple #[.string ⟨#[]⟩, .int .i64 c]) ∧ Below W.heap.size W w' := by
  have C := Lib.hid h
  clear h
  rcases hx with rfl | rfl
  all_goals
    go_enter Tryd.func27, Tryd.ntmps27
    go_wp2_with fail
    refine (C.out _).mono ?_; rintro e w' ⟨rfl, rfl⟩
    go_wp2_with fail
    go_ret2
    exact ⟨rfl, Below.refl _ _⟩

set_option maxHeartbeats 400000 in
theorem bitsPuts_walk (a0 : ByteArray) (a1 a2 a3 a4 : Int) (w4 : (Lit.int .u64 a4).wf = true) (W : World) (hg : Err.Home W) :
    Calls Tryd.prog 9 #[.string a0, .int .i64 a1, .int .i64 a2, .int .i64 a3, .int .u64 a4] W fun e w' => e = .returned (.bool true) ∧ Below W.heap.size W w' := by
  obtain ⟨b0, b1⟩ := bounds_u64 w4
  obtain ⟨x, rfl⟩ := Int.eq_ofNat_of_zero_le b0
  clear w4
  by_cases hs : a0.size ≤ 60
  · have main : ∀ (v : ByteArray) (n : Int) (y : Value), (∀ w, Err.ErrIs w y n (-1)) →
        (∀ W', Calls Tryd.prog 27 #[.string a0, .int .i64 a1, .int .i64 a2, .int .i64 a3, .int .u64 x] W' fun e w' => e = .returned (.tuple #[.string v, .int .i64 n]) ∧ Below W'.heap.size W' w') →
        (∀ W', Calls Tryd.prog 28 #[.string a0, .int .i64 a1, .int .i64 a2, .int .i64 a3, .int .u64 x] W' fun e w' => e = .returned (.tuple #[.string v, y]) ∧ Below W'.heap.size W' w') →
        Calls Tryd.prog 9 #[.string a0, .int .i64 a1, .int .i64 a2, .int .i64 a3, .int .u64 x] W fun e w' => e = .returned (.bool true) ∧ Below W.heap.size W w' := by
      intro v n y hy c1 c2
      have HY := Lib.hid hy
      have HG := Lib.hid hg
      have C1 := Lib.hid c1
      have C2 := Lib.hid c2
      clear c1 c2 hy hg
      go_enter Tryd.func9, Tryd.ntmps9
      go_wp2_with fail
      refine (C1.out _).mono ?_; rintro e w1 ⟨rfl, h1⟩
      have H1 := Lib.hid h1
      clear h1
      go_wp2_with fail
      refine (C2.out _).mono ?_; rintro e w2 ⟨rfl, h2⟩
      have H2 := Lib.hid (H1.out.trans (h2.mono H1.out.size))
      clear h2
      go_wp2_with fail
      refine (Err.bare_any y n (-1) n _ (HG.out.below H2.out) (HY.out _)).mono ?_; rintro e w3 ⟨rfl, h3⟩
      have H3 := Lib.hid (H2.out.trans (h3.mono H2.out.size))
      clear h3
      go_wp2_with fail
      go_ret
      exact ⟨ret_bool (by simp), H3.out⟩
    by_cases hok : a3 = 0 ∨ a3 = 1
    · by_cases hr : lie a0.size a1 a2
      · have hr' := hr
        unfold lie at hr'
        obtain ⟨a, rfl⟩ := Int.eq_ofNat_of_zero_le (show 0 ≤ a1 by omega)
        obtain ⟨w, rfl⟩ := Int.eq_ofNat_of_zero_le (show 0 ≤ a2 by omega)
        obtain ⟨o, rfl⟩ := Int.eq_ofNat_of_zero_le (show 0 ≤ a3 by omega)
        exact main _ 0 .nilIface (fun _ => .inl ⟨rfl, rfl, rfl⟩) (fun W' => docPut_yes a0 a w o x (by omega) hr (by omega) (by omega) W') (fun W' => put_yes a0 a w o x (by omega) hr (by omega) (by omega) W')
      · exact main ⟨#[]⟩ 2 _ (fun _ => .inr (.inl ⟨rfl, rfl⟩)) (fun W' => docPut_no a0 a1 a2 a3 x 2 (by omega) (fun W => there_no a0 a1 a2 a3 (by omega) hr (by omega) W) W') (fun W' => put_no a0 a1 a2 a3 x 2 (fun W => get_range a0 a1 a2 a3 hok hr (by omega) W) W')
    · exact main ⟨#[]⟩ 1 _ (fun _ => .inr (.inl ⟨rfl, rfl⟩)) (fun W' => docPut_no a0 a1 a2 a3 x 1 (by omega) (fun W => there_arg a0 a1 a2 a3 (by omega) (by omega) W) W') (fun W' => put_no a0 a1 a2 a3 x 1 (fun W => get_arg a0 a1 a2 a3 hok (by omega) W) W')
  · go_enter Tryd.func9, Tryd.ntmps9
    go_wp2_with fail
    go_ret
    exact ⟨rfl, Below.refl _ _⟩
end Go.Proofs.YtebjccenlfhilaaDoor.Bit
