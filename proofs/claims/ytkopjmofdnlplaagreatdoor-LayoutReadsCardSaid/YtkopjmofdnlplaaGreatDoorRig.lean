/-
  PROVED HERE: the contract of the laws' right (a template parsed, checked, and what is known of it). Conditions: as each theorem states.
-/
import Derived.Test.YtkopjmofdnlplaaGreatDoorTnH
import Derived.Test.YtkopjmofdnlplaaGreatDoorFar
namespace Go.Proofs.YtkopjmofdnlplaaGreatDoor.Tm
open Go.RowKit Go.Proofs.YtkopjmofdnlplaaGreatDoor.Lex Go.Proofs.YtkopjmofdnlplaaGreatDoor.Dig
variable {W : World}
def RiP (W : World) (e : Ending) (w' : World) : Prop := ∃ (v : Value) (l : List Ty) (b : Bool), e = .returned (.tuple #[v, .bool b]) ∧ Below W.heap.size W w' ∧ (∃ a m k, v = .slice a m k) ∧ (b = true → l.length ≤ 8 ∧ (∀ t ∈ l, TyOk t ∧ Fine t.items) ∧ TysAt w' v l ∧ (checkF l (fun _ => false)).1 = 0)
set_option maxRecDepth 100000 in
set_option maxHeartbeats 2000000 in
theorem right_any (s : ByteArray) (hM : Mx W) (hml : 1 < W.heap.size) : Calls Tryz.prog 7 #[.string s] W (RiP W) := by
  by_cases hf : (900 < s.size ∧ s.size ≤ 3000) ∨ 3009 < s.size
  · have F := Lib.hid (far_yes s hf)
    clear hf hM hml
    go_enter Tryz.func7, Tryz.ntmps7
    go_wp2_with fail
    refine (F.out _).mono ?_; rintro e w' ⟨rfl, rfl⟩
    go_wp2_with fail
    go_ret2
    exact ⟨_, [], false, rfl, Below.refl _ _, ⟨_, _, _, rfl⟩, fun h => by cases h⟩
  · have F := Lib.hid (far_no s (by omega))
    have HT := Lib.hid (tmpl_any (W := W) s (by omega) (by omega) hM hml)
    clear hf hM hml
    go_enter Tryz.func7, Tryz.ntmps7
    go_wp2_with fail
    refine (F.out _).mono ?_; rintro e w' ⟨rfl, rfl⟩
    go_wp2_with fail
    refine (HT.out).mono ?_; rintro e w1 ⟨v, l, c, p, rfl, hb, ⟨va, vn, vc, rfl⟩, hl⟩
    have B1 := Lib.hid hb
    have HL := Lib.hid hl
    clear hb hl HT F
    go_wp2_with fail
    have hbA := (Below.refl w1.heap.size w1).alloc (Nat.le_refl _) (.cells #[.int .i64 c, .int .i64 p] 30)
    have B2 := Lib.hid (B1.out.trans (hbA.mono B1.out.size))
    have K2 := Lib.hid hbA
    clear hbA
    generalize w1.alloc (.cells #[.int .i64 c, .int .i64 p] 30) = w2 at *
    refine (is_any c p _).mono ?_; rintro e w3 ⟨rfl, hb⟩
    have B3 := Lib.hid (B2.out.trans (hb.mono B2.out.size))
    have K3 := Lib.hid (K2.out.trans (hb.mono K2.out.size))
    clear hb B2 K2
    by_cases hc : c = 0
    · subst hc
      obtain ⟨hl8, hty, htf⟩ := HL.out rfl
      have HY := Lib.hid (show TysAt w3 (.slice va vn vc) l from TysAt.below (Fw.now htf) K3.out)
      have HC := Lib.hid (check_any (W := w3) _ l hl8 HY.out hty)
      have HTY := Lib.hid hty
      clear hty htf HL K3
      obtain ⟨⟨f1, f2⟩, hf⟩ : ∃ f, checkF l (fun _ => false) = f := ⟨_, rfl⟩
      rw [hf] at HC
      have HCK := Lib.hid (show (checkF l (fun _ => false)).1 = f1 by rw [hf])
      have HF := Lib.hid (show f1 = 0 → ∀ t ∈ l, Fine t.items from fun e => fine_of (T := fun _ => false) (by rw [hf]; exact e))
      have hflv : flV (f1, f2) = .agg #[.int .i64 f1, .int .i64 f2] := rfl
      rw [hflv] at HC
      have e0 : ((0 : Int) == 0) = true := rfl
      rw [e0]
      clear hf hflv e0
      go_wp2_with fail
      refine (HC.out).mono ?_; rintro e w4 ⟨rfl, hb⟩
      have B4 := Lib.hid (B3.out.trans (hb.mono B3.out.size))
      have Y4 := Lib.hid (HY.out.below hb)
      clear hb HC HY
      go_wp2_with fail
      refine (is_any f1 f2 _).mono ?_; rintro e w5 ⟨rfl, hb⟩
      have B5 := Lib.hid (B4.out.trans (hb.mono B4.out.size))
      have Y5 := Lib.hid (Y4.out.below hb)
      obtain ⟨bf, hbf⟩ : ∃ b, (f1 == 0) = b := ⟨_, rfl⟩
      rw [hbf]
      have HBF := Lib.hid hbf
      clear hb hbf
      go_wp2_with fail
      go_ret2
      exact ⟨_, l, bf, rfl, B5.out, ⟨_, _, _, rfl⟩, fun h => ⟨hl8, fun t ht => ⟨HTY.out t ht, HF.out (by have := HBF.out; rw [h] at this; simpa using this) t ht⟩, Y5.out, HCK.out.trans (by have := HBF.out; rw [h] at this; simpa using this)⟩⟩
    · have e0 : (c == 0) = false := by simpa using hc
      rw [e0]
      clear hc e0
      go_wp2_with fail
      go_ret2
      exact ⟨_, [], false, rfl, B3.out, ⟨_, _, _, rfl⟩, fun h => by cases h⟩
end Go.Proofs.YtkopjmofdnlplaaGreatDoor.Tm
