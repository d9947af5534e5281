/-
  PROVED HERE: the contract of lex's next, at marks. Conditions: as each theorem states.
-/
import Derived.Test.YtofmheeiplagjaaGreatDoorLexC
namespace Go.Proofs.YtofmheeiplagjaaGreatDoor.Lex
open Go.RowKit
set_option maxRecDepth 100000 in
set_option maxHeartbeats 2000000 in
theorem next_mark (s : ByteArray) (h : 0 < s.size) (_hs : s.size ≤ 4000) (hw : wch s[0] = false) (W : World) (hm : HomeM W) : Calls Tryz.prog 78 #[.string s] W fun e w' => e = .returned (.int .i64 (nx (lst s))) ∧ W = w' := by
  have hN : nx (lst s) = mk s[0] (lst (s.extract 1 s.size)) := by
    rw [lst_cons s h, nx_mark _ _ hw]
  rw [hN]
  have L := letter_any s[0]
  have D := digit_any s[0]
  have hwd : (ltr s[0] || dgt s[0]) = false := hw
  simp only [Bool.or_eq_false_iff] at hwd
  rw [hwd.1] at L
  rw [hwd.2] at D
  have LH := Lib.hid L
  have DH := Lib.hid D
  have P := Lib.hid (fun k w => Tryz.strings_HasPrefix s (mks k) w)
  have hpe : ∀ k, Lib.hasPrefix s.data.toList (mks k).data.toList = hp s[0] (lst (s.extract 1 s.size)) k := fun k => by
    have : s.data.toList = s[0] :: lst (s.extract 1 s.size) := lst_cons s h
    rw [this]
    unfold hp mks
    rw [show (⟨(mkl.getD k []).toArray⟩ : ByteArray).data.toList = mkl.getD k [] by simp]
  have HIT := Lib.hid (fun k => mk_hit s[0] (lst (s.extract 1 s.size)) k)
  have NONE := Lib.hid (mk_none s[0] (lst (s.extract 1 s.size)))
  have hPE := Lib.hid hpe
  generalize hp s[0] (lst (s.extract 1 s.size)) = H at *
  generalize mk s[0] (lst (s.extract 1 s.size)) = N at *
  have IXM := Lib.hid ix_mark
  have m0 : W.cell? ⟨1, 0, none⟩ = some (.string ⟨#[61, 61]⟩) := hm 0 (by decide)
  have m1 : W.cell? ⟨1, 1, none⟩ = some (.string ⟨#[33, 61]⟩) := hm 1 (by decide)
  have m2 : W.cell? ⟨1, 2, none⟩ = some (.string ⟨#[123]⟩) := hm 2 (by decide)
  have m3 : W.cell? ⟨1, 3, none⟩ = some (.string ⟨#[125]⟩) := hm 3 (by decide)
  have m4 : W.cell? ⟨1, 4, none⟩ = some (.string ⟨#[91]⟩) := hm 4 (by decide)
  have m5 : W.cell? ⟨1, 5, none⟩ = some (.string ⟨#[93]⟩) := hm 5 (by decide)
  have m6 : W.cell? ⟨1, 6, none⟩ = some (.string ⟨#[40]⟩) := hm 6 (by decide)
  have m7 : W.cell? ⟨1, 7, none⟩ = some (.string ⟨#[41]⟩) := hm 7 (by decide)
  have m8 : W.cell? ⟨1, 8, none⟩ = some (.string ⟨#[59]⟩) := hm 8 (by decide)
  have m9 : W.cell? ⟨1, 9, none⟩ = some (.string ⟨#[44]⟩) := hm 9 (by decide)
  have m10 : W.cell? ⟨1, 10, none⟩ = some (.string ⟨#[61]⟩) := hm 10 (by decide)
  have m11 : W.cell? ⟨1, 11, none⟩ = some (.string ⟨#[43]⟩) := hm 11 (by decide)
  have m12 : W.cell? ⟨1, 12, none⟩ = some (.string ⟨#[45]⟩) := hm 12 (by decide)
  have m13 : W.cell? ⟨1, 13, none⟩ = some (.string ⟨#[42]⟩) := hm 13 (by decide)
  have m14 : W.cell? ⟨1, 14, none⟩ = some (.string ⟨#[38]⟩) := hm 14 (by decide)
  have m15 : W.cell? ⟨1, 15, none⟩ = some (.string ⟨#[124]⟩) := hm 15 (by decide)
  have m16 : W.cell? ⟨1, 16, none⟩ = some (.string ⟨#[60]⟩) := hm 16 (by decide)
  have m17 : W.cell? ⟨1, 17, none⟩ = some (.string ⟨#[62]⟩) := hm 17 (by decide)
  clear L D hw hN hwd hpe hm
  go_enter Tryz.func78, Tryz.ntmps78
  go_wp2_with fail
  refine (LH.out _).mono ?_; rintro e w' ⟨rfl, rfl⟩
  go_wp2_with fail
  refine (DH.out _).mono ?_; rintro e w' ⟨rfl, rfl⟩
  go_wp2_with fail
  go_loop [34] (fun i => ∃ k : Nat, k ≤ 18 ∧ i = .int .i64 k ∧ Hid (∀ j, j < k → H j = false)) (fun i => 18 - (intOf i).toNat)
  case atStart => exact ⟨0, by decide, rfl, Lib.hid (fun j hj => absurd hj (Nat.not_lt_zero j))⟩
  case round =>
    obtain ⟨k, hk, rfl, hno⟩ := hrel
    by_cases hlt : k < 18
    · have hix := IXM.out k hlt
      have PP := P.out k
      rw [hPE.out k] at PP
      have HK := Lib.hid (HIT.out k hlt hno.out)
      have HNX : H k = false → Hid (∀ j, j < k + 1 → H j = false) := fun h => Lib.hid (fun j hj => by
        rcases Nat.lt_succ_iff_lt_or_eq.1 hj with h1 | rfl
        · exact hno.out j h1
        · exact h)
      have HNH := Lib.hid HNX
      generalize H k = b at *
      have PH := Lib.hid PP
      clear PP HNX hno
      rcases b with _ | _
      · have hE := HNH.out rfl
        clear HK
        go_wp2_with fail
        refine (PH.out _).mono ?_; rintro e w' ⟨rfl, rfl⟩
        go_wp2_with fail
        go_round
        case rel => exact ⟨k + 1, by omega, by go_num, hE⟩
        case measure => simp [intOf]; omega
      · have hE := Lib.hid (HK.out rfl)
        clear HNH
        go_wp2_with fail
        refine (PH.out _).mono ?_; rintro e w' ⟨rfl, rfl⟩
        go_wp2_with fail
        go_ret
        exact ⟨ret_int (by rw [hE.out]), rfl⟩
    · obtain rfl : k = 18 := by omega
      have hE := Lib.hid (NONE.out hno.out)
      go_wp2_with fail
      go_ret
      exact ⟨ret_int (by rw [hE.out]; rfl), rfl⟩
theorem next_any (s : ByteArray) (h : 0 < s.size) (hs : s.size ≤ 4000) (W : World) (hm : HomeM W) : Calls Tryz.prog 78 #[.string s] W fun e w' => e = .returned (.int .i64 (nx (lst s))) ∧ W = w' := by
  rcases hw : wch s[0] with _ | _
  · exact next_mark s h hs hw W hm
  · exact next_word s h hs hw W
end Go.Proofs.YtofmheeiplagjaaGreatDoor.Lex
