/-
  PROVED HERE: the law XxdDumps returns true. Conditions: as each theorem states.
-/
import Derived.Test.YthkigjhbcempbaaDoorXdB
import Derived.Test.YthkigjhbcempbaaDoorXdC
import Derived.Test.YthkigjhbcempbaaDoorErrB
namespace Go.Proofs.YthkigjhbcempbaaDoor.Xd
open Go.RowKit Dig Shw
theorem docDump_no (s : ByteArray) (cols g : Int) (h : (cols < 1 ∨ 256 < cols) ∨ (g < 1 ∨ cols < g)) (W : World) :
    Calls Tryd.prog 18 #[.string s, .int .i64 cols, .int .i64 g] W fun e w' => e = .returned (.tuple #[.string ⟨#[]⟩, .int .i64 2]) ∧ Below W.heap.size W w' := by
  by_cases hc : cols < 1 ∨ 256 < cols
  · go_enter Tryd.func18, Tryd.ntmps18
    go_wp2_with fail
    refine (Ref.within_no _ _ _ hc _).mono ?_; rintro e w' ⟨rfl, rfl⟩
    go_wp2_with fail
    go_ret2
    exact ⟨rfl, Below.refl _ _⟩
  · have hg : g < 1 ∨ cols < g := h.resolve_left hc
    go_enter Tryd.func18, Tryd.ntmps18
    go_wp2_with fail
    refine (Ref.within_yes _ _ _ (by omega) (by omega) _).mono ?_; rintro e w' ⟨rfl, rfl⟩
    go_wp2_with fail
    refine (Ref.within_no _ _ _ hg _).mono ?_; rintro e w' ⟨rfl, rfl⟩
    go_wp2_with fail
    go_ret2
    exact ⟨rfl, Below.refl _ _⟩
theorem dump_no (s : ByteArray) (cols g : Int) (h : (cols < 1 ∨ 256 < cols) ∨ (g < 1 ∨ cols < g)) (W : World) :
    Calls Tryd.prog 19 #[.string s, .int .i64 cols, .int .i64 g] W fun e w' => e = .returned (.tuple #[.string ⟨#[]⟩, .iface 35 (.int .i64 2)]) ∧ Below W.heap.size W w' := by
  have main : ∀ (b : Bool), b = (((decide (cols < 1) || decide (256 < cols)) || decide (g < 1)) || decide (cols < g)) → b = true := by
    intro b hb
    rw [hb]
    simp only [Bool.or_eq_true, decide_eq_true_eq]
    omega
  rcases (show cols < 1 ∨ (1 ≤ cols ∧ 256 < cols) ∨ (1 ≤ cols ∧ cols ≤ 256 ∧ g < 1) ∨ (1 ≤ cols ∧ cols ≤ 256 ∧ 1 ≤ g ∧ cols < g) by omega) with h | ⟨h1, h⟩ | ⟨h1, h2, h⟩ | ⟨h1, h2, h3, h⟩
  all_goals
    go_enter Tryd.func19, Tryd.ntmps19
    go_wp2_with fail
    go_ret2
    exact ⟨rfl, Below.refl _ _⟩
set_option maxRecDepth 100000 in
set_option maxHeartbeats 2000000 in
theorem dumps_walk (s : ByteArray) (cols g : Int) (W : World) (hg : Err.Home W) :
    Calls Tryd.prog 5 #[.string s, .int .i64 cols, .int .i64 g] W fun e w' => e = .returned (.bool true) ∧ Below W.heap.size W w' := by
  have HG := Lib.hid hg
  clear hg
  by_cases hs : 600 < s.size
  · go_enter Tryd.func5, Tryd.ntmps5
    go_wp2_with fail
    go_ret
    exact ⟨rfl, Below.refl _ _⟩
  have main : ∀ (T : ByteArray) (c : Int) (v : Value), (∀ w, Err.ErrIs w v c (-1)) →
      (∀ w, Calls Tryd.prog 18 #[.string s, .int .i64 cols, .int .i64 g] w fun e w' => e = .returned (.tuple #[.string T, .int .i64 c]) ∧ Below w.heap.size w w') →
      (∀ w, Calls Tryd.prog 19 #[.string s, .int .i64 cols, .int .i64 g] w fun e w' => e = .returned (.tuple #[.string T, v]) ∧ Below w.heap.size w w') →
      Calls Tryd.prog 5 #[.string s, .int .i64 cols, .int .i64 g] W fun e w' => e = .returned (.bool true) ∧ Below W.heap.size W w' := by
    intro T c v hv h1 h2
    have H1 := Lib.hid h1
    have H2 := Lib.hid h2
    have HV := Lib.hid hv
    have H3 := Lib.hid (fun w => plain_any s (by omega) w)
    have H4 := Lib.hid (fun w => docPlain_any s (by omega) w)
    have hcc : (c == c && (-1 : Int) == -1) = true := by simp
    have CC := Lib.hid hcc
    clear h1 h2 hv hcc
    generalize (⟨(pk s s.size).toArray⟩ : ByteArray) = P at *
    go_enter Tryd.func5, Tryd.ntmps5
    go_wp2_with fail
    refine (H1.out _).mono ?_; rintro e w1 ⟨rfl, b1⟩
    have B1 := Lib.hid b1
    clear b1
    go_wp2_with fail
    refine (H2.out _).mono ?_; rintro e w2 ⟨rfl, b2⟩
    have B2 := Lib.hid (B1.out.trans (b2.mono B1.out.size))
    clear b2
    go_wp2_with fail
    refine (Err.bare_any v c (-1) c _ (HG.out.below B2.out) (HV.out _)).mono ?_; rintro e w3 ⟨rfl, b3⟩
    rw [CC.out]
    have B3 := Lib.hid (B2.out.trans (b3.mono B2.out.size))
    clear b3
    go_wp2_with fail
    refine (H3.out _).mono ?_; rintro e w4 ⟨rfl, b4⟩
    have B4 := Lib.hid (B3.out.trans (b4.mono B3.out.size))
    clear b4
    go_wp2_with fail
    refine (H4.out _).mono ?_; rintro e w5 ⟨rfl, b5⟩
    have B5 := Lib.hid (B4.out.trans (b5.mono B4.out.size))
    clear b5
    go_wp2_with fail
    go_ret
    exact ⟨by first | rfl | simp, B5.out⟩
  by_cases hok : (1 ≤ cols ∧ cols ≤ 256) ∧ (1 ≤ g ∧ g ≤ cols)
  · obtain ⟨c, rfl⟩ := Int.eq_ofNat_of_zero_le (show 0 ≤ cols by omega)
    obtain ⟨k, rfl⟩ := Int.eq_ofNat_of_zero_le (show 0 ≤ g by omega)
    exact main _ 0 .nilIface (fun _ => .inl ⟨rfl, rfl, rfl⟩) (fun w => docDump_any s (by omega) c k (by omega) (by omega) w) (fun w => dump_any s (by omega) c k (by omega) (by omega) w)
  · exact main ⟨#[]⟩ 2 _ (fun _ => .inr (.inl ⟨rfl, rfl⟩)) (fun w => docDump_no s cols g (by omega) w) (fun w => dump_no s cols g (by omega) w)
end Go.Proofs.YthkigjhbcempbaaDoor.Xd
