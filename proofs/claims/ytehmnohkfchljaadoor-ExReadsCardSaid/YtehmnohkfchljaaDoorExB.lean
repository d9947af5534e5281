/-
  PROVED HERE: contracts of ex.form, of ex.bytes, of the test for a blank, of the laws' bare. Conditions: as each theorem states.
-/
import Derived.Test.YtehmnohkfchljaaDoorExA
import Derived.Test.YtehmnohkfchljaaDoorTac
import Derived.Shelf.GgClosure.Gives
namespace Go.Proofs.YtehmnohkfchljaaDoor.Ex
open Go.RowKit Dig Go.Lib
/-- form's answer. -/
def fmS (m : Nat → UInt8) (q : Option (List Nat)) : ByteArray := match q with | none => ⟨#[]⟩ | some ks => fs m ks
set_option maxRecDepth 100000 in
set_option maxHeartbeats 2000000 in
theorem form_any (s : ByteArray) (W : World) : Calls Tryd.prog 19 #[.string s] W fun e w' => e = .returned (.tuple #[.string (fmS lp (frm s.toList)), .bool (frm s.toList).isSome]) ∧ w' = W := by
  go_enter Tryd.func19, Tryd.ntmps19
  go_wp2_with fail
  all_goals go_ret2
  all_goals refine ⟨?_, rfl⟩
  all_goals rename_i h
  all_goals simp_all [frm, fmS, fs, lp]
theorem blank_any (w : World) : PredAt Tryd.prog 17 #[] encR isBl w := fun W r _ => by
  unfold FnGives
  go_enter Tryd.func17, Tryd.ntmps17
  go_wp2
  go_ret
  exact ⟨congrArg (fun b => Ending.returned (.bool b)) (by unfold isBl; rw [Bool.eq_iff_iff, beq_iff_eq, decide_eq_true_iff]; omega), 0, rfl⟩
/-- What bytes answers. -/
def byV (q : Option ByteArray) : Value := match q with | none => .tuple #[.string ⟨#[]⟩, .iface 26 (.int .i64 3)] | some b => .tuple #[.string b, .nilIface]
set_option maxRecDepth 100000 in
set_option maxHeartbeats 2000000 in
theorem bytes_any (s : ByteArray) (hs : s.size ≤ 1000) (W : World) : Calls Tryd.prog 20 #[.string s] W fun e w' => e = .returned (byV (byt s)) ∧ Below W.heap.size W w' := by
  by_cases h : s.toList = [45]
  · have h1 : (s.toList == [45]) = true := by rw [h]; rfl
    have hb : byt s = some ⟨#[]⟩ := if_pos h
    rw [hb]
    clear h hb
    go_enter Tryd.func20, Tryd.ntmps20
    go_wp2_with fail
    go_ret2
    exact ⟨rfl, Below.refl _ _⟩
  · have h1 : (s.toList == [45]) = false := by rw [beq_eq_false_iff_ne]; exact h
    have C := Lib.hid (fun W => unhex_any s hs W)
    have hb : byt s = if (un s).err = 0 then some (un s).str else none := if_neg h
    rw [hb]
    change Hid (∀ W, Calls _ _ _ W (UhPost (un s) W)) at C
    generalize un s = Z at *
    clear h hb
    cases Z with
    | good l =>
      rw [show (if (Un.good l).err = 0 then some (Un.good l).str else none) = some (Un.good l).str from rfl]
      go_enter Tryd.func20, Tryd.ntmps20
      go_wp2_with fail
      refine (C.out _).mono ?_; rintro e w1 ⟨v, rfl, h0, hE, hb1⟩
      obtain rfl := h0 rfl
      have H1 := Lib.hid hb1
      clear hb1 hE
      go_wp2_with fail
      go_ret2
      exact ⟨rfl, H1.out⟩
    | bad p =>
      rw [show (if (Un.bad p).err = 0 then some (Un.bad p).str else none) = none from rfl]
      go_enter Tryd.func20, Tryd.ntmps20
      go_wp2_with fail
      refine (C.out _).mono ?_; rintro e w1 ⟨v, rfl, h0, hE, hb1⟩
      clear h0
      have H1 := Lib.hid hb1
      obtain ⟨t, x, rfl⟩ : ∃ t x, v = .iface t x := by
        rcases hE with ⟨_, h, _⟩ | ⟨h, _⟩ | ⟨_, _, h, _⟩
        · cases h
        · exact ⟨_, _, h⟩
        · exact ⟨_, _, h⟩
      clear hb1 hE
      go_wp2_with fail
      go_ret2
      exact ⟨rfl, H1.out⟩
end Go.Proofs.YtehmnohkfchljaaDoor.Ex
