/-
  PROVED HERE: what the law TypesFinds returns. Conditions: as each theorem states.
-/
import Derived.Test.YtpnjlmpamincoaaDoorTfI
import Derived.Test.YtpnjlmpamincoaaDoorFar
import Derived.Test.YtpnjlmpamincoaaDoorPlc
namespace Go.Proofs.YtpnjlmpamincoaaDoor.Tm
open Go.RowKit Go.Proofs.YtpnjlmpamincoaaDoor.Lex Go.Proofs.YtpnjlmpamincoaaDoor.Dig
section
variable {W : World}
set_option maxRecDepth 100000 in
set_option maxHeartbeats 2000000 in
theorem finds_walk (s : ByteArray) (W : World) (hg : Err.Home W) (hM : Mx W) : Calls Tryd.prog 3 #[.string s] W fun e w' => e = .returned (.bool true) ∧ Below W.heap.size W w' := by
  have hml : 1 < W.heap.size := by
    obtain ⟨m, hm⟩ := hM
    exact World.block_lt_of_cell? W _ hm
  by_cases hf : (900 < s.size ∧ s.size ≤ 3000) ∨ 3009 < s.size
  · have F := Lib.hid (far_yes s hf)
    clear hf hM hml hg
    go_enter Tryd.func3, Tryd.ntmps3
    go_wp2_with fail
    refine (F.out _).mono ?_; rintro e w' ⟨rfl, rfl⟩
    go_wp2_with fail
    go_ret
    exact ⟨rfl, Below.refl _ _⟩
  · have F := Lib.hid (far_no s (by omega))
    have HT := Lib.hid (tmpl_any (W := W) s (by omega) (by omega) hM hml)
    have HG := Lib.hid hg
    clear hf hM hml hg
    go_enter Tryd.func3, Tryd.ntmps3
    go_wp2_with fail
    refine (F.out _).mono ?_; rintro e w' ⟨rfl, rfl⟩
    go_wp2_with fail
    refine (HT.out).mono ?_; rintro e w1 ⟨v, l, c, p, rfl, hb, ⟨va, vn, vc, rfl⟩, hl⟩
    have B1 := Lib.hid hb
    have HL := Lib.hid hl
    clear hb hl HT F
    go_wp2_with fail
    have hbA := (Below.refl w1.heap.size w1).alloc (Nat.le_refl _) (.cells #[.int .i64 c, .int .i64 p] 26)
    have B2 := Lib.hid (B1.out.trans (hbA.mono B1.out.size))
    have K2 := Lib.hid hbA
    clear hbA
    generalize w1.alloc (.cells #[.int .i64 c, .int .i64 p] 26) = w2 at *
    refine (is_any c p _).mono ?_; rintro e w3 ⟨rfl, hb⟩
    have B3 := Lib.hid (B2.out.trans (hb.mono B2.out.size))
    have K3 := Lib.hid (K2.out.trans (hb.mono K2.out.size))
    clear hb B2 K2
    by_cases hc : c = 0
    · subst hc
      obtain ⟨hl8, hty, htf⟩ := HL.out rfl
      have HY := Lib.hid (show TysAt w3 (.slice va vn vc) l from TysAt.below (Fw.now htf) K3.out)
      have HC := Lib.hid (Check_any (W := w3) _ l hl8 HY.out hty)
      have HD := Lib.hid (fun w4 (hb : Below w3.heap.size w3 w4) => check_any (W := w4) _ l hl8 (TysAt.below HY.out hb) hty)
      obtain ⟨⟨f1, f2⟩, hf⟩ : ∃ f, checkF l (fun _ => false) = f := ⟨_, rfl⟩
      rw [hf] at HC HD
      have hflv : flV (f1, f2) = .agg #[.int .i64 f1, .int .i64 f2] := rfl
      rw [hflv] at HD
      have e0 : ((0 : Int) == 0) = true := rfl
      rw [e0]
      clear hf hflv e0 hl8 hty htf HL HY K3
      go_wp2_with fail
      refine (HC.out).mono ?_; rintro e w4 ⟨ev, rfl, he, hb⟩
      have B4 := Lib.hid (B3.out.trans (hb.mono B3.out.size))
      have E4 := Lib.hid he
      have D4 := Lib.hid (HD.out w4 hb)
      clear hb HC HD he B3
      go_wp2_with fail
      refine (D4.out).mono ?_; rintro e w5 ⟨rfl, hb⟩
      have B5 := Lib.hid (B4.out.trans (hb.mono B4.out.size))
      have P5 := Lib.hid (Chr.placed_any ev f1 f2 f1 f2 w5 (HG.out.below B5.out) (E4.out.below hb))
      clear hb D4 B4 E4
      go_wp2_with fail
      refine (P5.out).mono ?_; rintro e w6 ⟨rfl, hb⟩
      have B6 := Lib.hid (B5.out.trans (hb.mono B5.out.size))
      have et : (f1 == f1 && f2 == f2) = true := by simp
      rw [et]
      clear hb P5 et
      go_wp2_with fail
      go_ret
      exact ⟨rfl, B6.out⟩
    · have e0 : (c == 0) = false := by simpa using hc
      rw [e0]
      clear hc e0
      go_wp2_with fail
      go_ret
      exact ⟨rfl, B3.out⟩
end
end Go.Proofs.YtpnjlmpamincoaaDoor.Tm
