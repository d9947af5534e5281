/-
  PROVED HERE: the contracts of isNum, one, and of the eyes' name and bracket; the contract of the document's eyes' name and bracket; how large an expression is that the document's parser makes; items of templates, plain and in memory. Conditions: as each theorem states.
-/
import Derived.Test.YtkopjmofdnlplaaGreatDoorTmG
import Derived.Test.YtkopjmofdnlplaaGreatDoorShelf
namespace Go.Proofs.YtkopjmofdnlplaaGreatDoor.Tm
open Go.RowKit Go.Proofs.YtkopjmofdnlplaaGreatDoor.Lex Go.Proofs.YtkopjmofdnlplaaGreatDoor.Dig
/-- MaxLen's cell is there. -/
def Mx (w : World) : Prop := ∃ m, w.cell? ⟨1, 0, none⟩ = some (.int .i64 m)
theorem Mx.grown {w w' : World} {G : Nat} (h : Mx w) (hg : w.grownBy w' (some G)) (hG : G ≠ 1) : Mx w' := by
  obtain ⟨m, hm⟩ := h
  have hlt := World.block_lt_of_cell? w _ hm
  exact ⟨m, (World.cell?_of_block (a := ⟨1, 0, none⟩) (hg.block _ hlt (fun e => hG (by simpa using e.symm)))).trans hm⟩
def NUMS : ByteArray := ⟨#[32, 117, 56, 32, 105, 56, 32, 117, 49, 54, 108, 101, 32, 117, 49, 54, 98, 101, 32, 105, 49, 54, 108, 101, 32, 105, 49, 54, 98, 101, 32, 117, 51, 50, 108, 101, 32, 117, 51, 50, 98, 101, 32, 105, 51, 50, 108, 101, 32, 105, 51, 50, 98, 101, 32, 105, 54, 52, 108, 101, 32, 105, 54, 52, 98, 101, 32]⟩
def KEPT : ByteArray := ⟨#[32, 115, 116, 114, 117, 99, 116, 32, 98, 121, 116, 101, 115, 32, 119, 104, 101, 110, 32, 115, 105, 122, 101, 32, 99, 111, 117, 110, 116, 32, 99, 104, 101, 99, 107, 32]⟩
def spaced (s : ByteArray) : ByteArray := (⟨#[32]⟩ ++ s) ++ ⟨#[32]⟩
def inside (A s : ByteArray) : Bool := Lib.contains A.data.toList (spaced s).data.toList
def isNumP (s : ByteArray) : Bool := if s = emp then false else inside NUMS s
theorem ne_emp {s : ByteArray} (h : s ≠ emp) : (s.toList == []) = false ∧ s.toList.isEmpty = false ∧ 0 < s.size := by
  have h0 : 0 < s.size := by
    rcases Nat.eq_zero_or_pos s.size with e | e
    · exact absurd (emp_iff.2 e) h
    · exact e
  have t2 := str_full s h0
  refine ⟨?_, t2, h0⟩
  rw [beq_eq_false_iff_ne]
  intro e
  rw [e] at t2
  cases t2
set_option maxRecDepth 100000 in
theorem isNum_any (s : ByteArray) (hs : s.size ≤ 1000) (W : World) (hM : Mx W) : Calls Tryz.prog 109 #[.string s] W fun e w' => e = .returned (.bool (isNumP s)) ∧ W = w' := by
  unfold isNumP
  by_cases he : s = emp
  · rw [if_pos he]
    subst he
    unfold emp
    go_enter Tryz.func109, Tryz.ntmps109
    go_wp2_with fail
    go_ret
    exact ⟨rfl, rfl⟩
  · rw [if_neg he]
    obtain ⟨t1, t2, t3⟩ := ne_emp he
    obtain ⟨m, hm⟩ := hM
    have C := Lib.hid (Tryz.strings_Contains NUMS (spaced s) m W (by decide) hm)
    rw [show Lib.contains NUMS.data.toList (spaced s).data.toList = inside NUMS s from rfl] at C
    generalize inside NUMS s = b at *
    have q1 : ¬ (9223372036854775807 < 1 + s.size) := by omega
    have q2 : ¬ (9223372036854775807 < 1 + s.size + 1) := by omega
    clear he hm
    go_enter Tryz.func109, Tryz.ntmps109
    go_wp2_with fail
    refine (C.out).mono ?_; rintro e w1 ⟨rfl, rfl⟩
    go_wp2_with fail
    go_ret
    exact ⟨rfl, rfl⟩
theorem one_any (b : Bool) (W : World) : Calls Tryz.prog 145 #[.bool b] W fun e w' => e = .returned (.int .i64 (if b then 1 else 0)) ∧ W = w' := by
  cases b
  · go_enter Tryz.func145, Tryz.ntmps145
    go_wp2_with fail
    go_ret
    exact ⟨rfl, rfl⟩
  · go_enter Tryz.func145, Tryz.ntmps145
    go_wp2_with fail
    go_ret
    exact ⟨rfl, rfl⟩
/-- Whether a word is no name. -/
def noName (s : ByteArray) : Bool := !(isN s) || isNumP s || inside KEPT s
def nameF (E : Nat) (σ : Ey) : ByteArray × Ey :=
  (txt σ, pass E (if noName (txt σ) = true then wrong σ 3 (pos E σ : Nat) else if 12 < (txt σ).size then wrong σ 4 (pos E σ : Nat) else σ))
theorem name_0 (E : Nat) (σ : Ey) : Tm0 σ (nameF E σ).2 := by
  unfold nameF
  refine Tm0.trans ?_ (pass_0 _ _)
  split
  · exact wrong_0 _ _ _
  · exact ite_0 (wrong_0 _ _ _)
end Go.Proofs.YtkopjmofdnlplaaGreatDoor.Tm
namespace Go.Proofs.YtkopjmofdnlplaaGreatDoor.Tm
open Go.RowKit Go.Proofs.YtkopjmofdnlplaaGreatDoor.Lex Go.Proofs.YtkopjmofdnlplaaGreatDoor.Dig
section
variable {G E : Nat} {lv : Value} {σ : Ey} {W : World}
def NmP (G E : Nat) (σ : Ey) (W : World) (e : Ending) (w' : World) : Prop := e = .returned (.string (nameF E σ).1) ∧ StP G E (nameF E σ).2 W w'
theorem wrong_bad (σ : Ey) (e k : Int) (h : e ≠ 0) : (wrong σ e k).c ≠ 0 := by
  unfold wrong
  split
  · exact h
  · assumption
set_option maxRecDepth 100000 in
set_option maxHeartbeats 2000000 in
theorem name_a (h : PS G E lv σ W) (hA : AllT σ.l) (hM : Mx W) (hG : G ≠ 1) (h1 : isN (txt σ) = false) : Calls Tryz.prog 68 #[.pointer (some ⟨G, 0, none⟩)] W (NmP G E σ W) := by
  have HF := Lib.hid (show nameF E σ = (txt σ, wrong σ 3 (pos E σ : Nat)) by
    unfold nameF noName
    rw [if_pos (by simp [h1]), pass_stop (wrong_bad σ 3 (pos E σ : Nat) (by decide))])
  have HN := Lib.hid (docName_any (txt σ))
  rw [h1] at HN
  clear h1
  have h0 := Lib.hid h
  have g0 := Lib.hid (gb_refl W (some G))
  have HM := Lib.hid (fun w (g : W.grownBy w (some G)) => hM.grown g hG)
  have hsl := txt_size hA
  obtain ⟨s, hs⟩ : ∃ s, txt σ = s := ⟨_, rfl⟩
  have HS := Lib.hid hs
  rw [hs] at hsl HN HF
  try rw [hs] at HU
  try rw [hs] at HK
  try rw [hs] at h4
  clear h hA hM hG hs
  go_enter Tryz.func68, Tryz.ntmps68
  go_wp2_with fail
  refine (text_any h0.out).mono ?_; rintro e w1 ⟨rfl, hb⟩
  rw [HS.out]
  have h1 := Lib.hid (h0.out.below hb)
  have g1 := Lib.hid (gb_trans g0.out (gb_below (some G) hb))
  clear hb
  go_wp2_with fail
  refine (HN.out _).mono ?_; rintro e wz ⟨rfl, rfl⟩
  go_wp2_with fail
  refine (place_any h1.out).mono ?_; rintro e w2 ⟨rfl, hb⟩
  have h2 := Lib.hid (h1.out.below hb)
  have g2 := Lib.hid (gb_trans g1.out (gb_below (some G) hb))
  clear hb
  go_wp2_with fail
  refine (wrong_any h2.out 3 (pos E σ : Nat)).mono ?_; rintro e w3 ⟨rfl, ⟨lv3, hp⟩, hg⟩
  have h3 := Lib.hid hp
  have g3 := Lib.hid (gb_trans g2.out hg)
  clear hp hg
  have hbd := bad_yes (wrong_bad σ 3 (pos E σ : Nat) (by decide))
  go_wp2_with fail
  refine (stop_any h3.out).mono ?_; rintro e w4 ⟨rfl, hb⟩
  have h4 := Lib.hid (h3.out.below hb)
  have g4 := Lib.hid (gb_trans g3.out (gb_below (some G) hb))
  clear hb
  go_wp2_with fail
  go_ret
  exact ⟨by rw [HF.out]; rfl, by rw [HF.out]; exact ⟨⟨_, h4.out⟩, g4.out⟩⟩
set_option maxRecDepth 100000 in
set_option maxHeartbeats 2000000 in
theorem name_b (h : PS G E lv σ W) (hA : AllT σ.l) (hM : Mx W) (hG : G ≠ 1) (h1 : isN (txt σ) = true) (h2 : isNumP (txt σ) = true) : Calls Tryz.prog 68 #[.pointer (some ⟨G, 0, none⟩)] W (NmP G E σ W) := by
  have HF := Lib.hid (show nameF E σ = (txt σ, wrong σ 3 (pos E σ : Nat)) by
    unfold nameF noName
    rw [if_pos (by simp [h2]), pass_stop (wrong_bad σ 3 (pos E σ : Nat) (by decide))])
  have HN := Lib.hid (docName_any (txt σ))
  rw [h1] at HN
  have HU := Lib.hid h2
  clear h1 h2
  have h0 := Lib.hid h
  have g0 := Lib.hid (gb_refl W (some G))
  have HM := Lib.hid (fun w (g : W.grownBy w (some G)) => hM.grown g hG)
  have hsl := txt_size hA
  obtain ⟨s, hs⟩ : ∃ s, txt σ = s := ⟨_, rfl⟩
  have HS := Lib.hid hs
  rw [hs] at hsl HN HF
  try rw [hs] at HU
  try rw [hs] at HK
  try rw [hs] at h4
  clear h hA hM hG hs
  go_enter Tryz.func68, Tryz.ntmps68
  go_wp2_with fail
  refine (text_any h0.out).mono ?_; rintro e w1 ⟨rfl, hb⟩
  rw [HS.out]
  have h1 := Lib.hid (h0.out.below hb)
  have g1 := Lib.hid (gb_trans g0.out (gb_below (some G) hb))
  clear hb
  go_wp2_with fail
  refine (HN.out _).mono ?_; rintro e wz ⟨rfl, rfl⟩
  go_wp2_with fail
  refine (isNum_any s hsl _ (HM.out _ g1.out)).mono ?_; rintro e wz ⟨rfl, rfl⟩
  rw [HU.out]
  go_wp2_with fail
  refine (place_any h1.out).mono ?_; rintro e w2 ⟨rfl, hb⟩
  have h2 := Lib.hid (h1.out.below hb)
  have g2 := Lib.hid (gb_trans g1.out (gb_below (some G) hb))
  clear hb
  go_wp2_with fail
  refine (wrong_any h2.out 3 (pos E σ : Nat)).mono ?_; rintro e w3 ⟨rfl, ⟨lv3, hp⟩, hg⟩
  have h3 := Lib.hid hp
  have g3 := Lib.hid (gb_trans g2.out hg)
  clear hp hg
  have hbd := bad_yes (wrong_bad σ 3 (pos E σ : Nat) (by decide))
  go_wp2_with fail
  refine (stop_any h3.out).mono ?_; rintro e w4 ⟨rfl, hb⟩
  have h4 := Lib.hid (h3.out.below hb)
  have g4 := Lib.hid (gb_trans g3.out (gb_below (some G) hb))
  clear hb
  go_wp2_with fail
  go_ret
  exact ⟨by rw [HF.out]; rfl, by rw [HF.out]; exact ⟨⟨_, h4.out⟩, g4.out⟩⟩
set_option maxRecDepth 100000 in
set_option maxHeartbeats 2000000 in
theorem name_c (h : PS G E lv σ W) (hA : AllT σ.l) (hM : Mx W) (hG : G ≠ 1) (h1 : isN (txt σ) = true) (h2 : isNumP (txt σ) = false) (h3 : inside KEPT (txt σ) = true) : Calls Tryz.prog 68 #[.pointer (some ⟨G, 0, none⟩)] W (NmP G E σ W) := by
  have HF := Lib.hid (show nameF E σ = (txt σ, wrong σ 3 (pos E σ : Nat)) by
    unfold nameF noName
    rw [if_pos (by simp [h3]), pass_stop (wrong_bad σ 3 (pos E σ : Nat) (by decide))])
  have HN := Lib.hid (docName_any (txt σ))
  rw [h1] at HN
  have HU := Lib.hid h2
  have HK := Lib.hid h3
  clear h1 h2 h3
  have h0 := Lib.hid h
  have g0 := Lib.hid (gb_refl W (some G))
  have HM := Lib.hid (fun w (g : W.grownBy w (some G)) => hM.grown g hG)
  have hsl := txt_size hA
  obtain ⟨s, hs⟩ : ∃ s, txt σ = s := ⟨_, rfl⟩
  have HS := Lib.hid hs
  rw [hs] at hsl HN HF
  try rw [hs] at HU
  try rw [hs] at HK
  try rw [hs] at h4
  clear h hA hM hG hs
  go_enter Tryz.func68, Tryz.ntmps68
  have q1 : ¬ (9223372036854775807 < 1 + s.size) := by omega
  have q2 : ¬ (9223372036854775807 < 1 + s.size + 1) := by omega
  go_wp2_with fail
  refine (text_any h0.out).mono ?_; rintro e w1 ⟨rfl, hb⟩
  rw [HS.out]
  have h1 := Lib.hid (h0.out.below hb)
  have g1 := Lib.hid (gb_trans g0.out (gb_below (some G) hb))
  clear hb
  go_wp2_with fail
  refine (HN.out _).mono ?_; rintro e wz ⟨rfl, rfl⟩
  go_wp2_with fail
  refine (isNum_any s hsl _ (HM.out _ g1.out)).mono ?_; rintro e wz ⟨rfl, rfl⟩
  rw [HU.out]
  obtain ⟨mm, hmm⟩ := HM.out _ g1.out
  have CK := Lib.hid (Tryz.strings_Contains KEPT (spaced s) mm w1 (by decide) hmm)
  rw [show Lib.contains KEPT.data.toList (spaced s).data.toList = inside KEPT s from rfl, HK.out] at CK
  clear hmm
  go_wp2_with fail
  refine (CK.out).mono ?_; rintro e wz ⟨rfl, rfl⟩
  go_wp2_with fail
  refine (place_any h1.out).mono ?_; rintro e w2 ⟨rfl, hb⟩
  have h2 := Lib.hid (h1.out.below hb)
  have g2 := Lib.hid (gb_trans g1.out (gb_below (some G) hb))
  clear hb
  go_wp2_with fail
  refine (wrong_any h2.out 3 (pos E σ : Nat)).mono ?_; rintro e w3 ⟨rfl, ⟨lv3, hp⟩, hg⟩
  have h3 := Lib.hid hp
  have g3 := Lib.hid (gb_trans g2.out hg)
  clear hp hg
  have hbd := bad_yes (wrong_bad σ 3 (pos E σ : Nat) (by decide))
  go_wp2_with fail
  refine (stop_any h3.out).mono ?_; rintro e w4 ⟨rfl, hb⟩
  have h4 := Lib.hid (h3.out.below hb)
  have g4 := Lib.hid (gb_trans g3.out (gb_below (some G) hb))
  clear hb
  go_wp2_with fail
  go_ret
  exact ⟨by rw [HF.out]; rfl, by rw [HF.out]; exact ⟨⟨_, h4.out⟩, g4.out⟩⟩
set_option maxRecDepth 100000 in
set_option maxHeartbeats 2000000 in
theorem name_d (h : PS G E lv σ W) (hA : AllT σ.l) (hM : Mx W) (hG : G ≠ 1) (h1 : isN (txt σ) = true) (h2 : isNumP (txt σ) = false) (h3 : inside KEPT (txt σ) = false) (h4 : 12 < (txt σ).size) : Calls Tryz.prog 68 #[.pointer (some ⟨G, 0, none⟩)] W (NmP G E σ W) := by
  have HF := Lib.hid (show nameF E σ = (txt σ, wrong σ 4 (pos E σ : Nat)) by
    unfold nameF noName
    rw [if_neg (by simp [h1, h2, h3]), if_pos h4, pass_stop (wrong_bad σ 4 (pos E σ : Nat) (by decide))])
  have HN := Lib.hid (docName_any (txt σ))
  rw [h1] at HN
  have HU := Lib.hid h2
  have HK := Lib.hid h3
  clear h1 h2 h3
  have h0 := Lib.hid h
  have g0 := Lib.hid (gb_refl W (some G))
  have HM := Lib.hid (fun w (g : W.grownBy w (some G)) => hM.grown g hG)
  have hsl := txt_size hA
  obtain ⟨s, hs⟩ : ∃ s, txt σ = s := ⟨_, rfl⟩
  have HS := Lib.hid hs
  rw [hs] at hsl HN HF
  try rw [hs] at HU
  try rw [hs] at HK
  try rw [hs] at h4
  clear h hA hM hG hs
  go_enter Tryz.func68, Tryz.ntmps68
  have q1 : ¬ (9223372036854775807 < 1 + s.size) := by omega
  have q2 : ¬ (9223372036854775807 < 1 + s.size + 1) := by omega
  have q3 : (12 : Int) < (s.size : Int) := by omega
  go_wp2_with fail
  refine (text_any h0.out).mono ?_; rintro e w1 ⟨rfl, hb⟩
  rw [HS.out]
  have h1 := Lib.hid (h0.out.below hb)
  have g1 := Lib.hid (gb_trans g0.out (gb_below (some G) hb))
  clear hb
  go_wp2_with fail
  refine (HN.out _).mono ?_; rintro e wz ⟨rfl, rfl⟩
  go_wp2_with fail
  refine (isNum_any s hsl _ (HM.out _ g1.out)).mono ?_; rintro e wz ⟨rfl, rfl⟩
  rw [HU.out]
  obtain ⟨mm, hmm⟩ := HM.out _ g1.out
  have CK := Lib.hid (Tryz.strings_Contains KEPT (spaced s) mm w1 (by decide) hmm)
  rw [show Lib.contains KEPT.data.toList (spaced s).data.toList = inside KEPT s from rfl, HK.out] at CK
  clear hmm
  go_wp2_with fail
  refine (CK.out).mono ?_; rintro e wz ⟨rfl, rfl⟩
  go_wp2_with fail
  refine (place_any h1.out).mono ?_; rintro e w2 ⟨rfl, hb⟩
  have h2 := Lib.hid (h1.out.below hb)
  have g2 := Lib.hid (gb_trans g1.out (gb_below (some G) hb))
  clear hb
  go_wp2_with fail
  refine (wrong_any h2.out 4 (pos E σ : Nat)).mono ?_; rintro e w3 ⟨rfl, ⟨lv3, hp⟩, hg⟩
  have h3 := Lib.hid hp
  have g3 := Lib.hid (gb_trans g2.out hg)
  clear hp hg
  have hbd := bad_yes (wrong_bad σ 4 (pos E σ : Nat) (by decide))
  go_wp2_with fail
  refine (stop_any h3.out).mono ?_; rintro e w4 ⟨rfl, hb⟩
  have h4 := Lib.hid (h3.out.below hb)
  have g4 := Lib.hid (gb_trans g3.out (gb_below (some G) hb))
  clear hb
  go_wp2_with fail
  go_ret
  exact ⟨by rw [HF.out]; rfl, by rw [HF.out]; exact ⟨⟨_, h4.out⟩, g4.out⟩⟩
set_option maxRecDepth 100000 in
set_option maxHeartbeats 2000000 in
theorem name_e (h : PS G E lv σ W) (hA : AllT σ.l) (hM : Mx W) (hG : G ≠ 1) (h1 : isN (txt σ) = true) (h2 : isNumP (txt σ) = false) (h3 : inside KEPT (txt σ) = false) (h4 : ¬ 12 < (txt σ).size) : Calls Tryz.prog 68 #[.pointer (some ⟨G, 0, none⟩)] W (NmP G E σ W) := by
  have hc : σ.c = 0 := (txt_some (σ := σ) (fun e => by rw [e] at h1; exact absurd h1 (by decide))).1
  have HF := Lib.hid (show nameF E σ = (txt σ, pass E σ) by
    unfold nameF noName
    rw [if_neg (by simp [h1, h2, h3]), if_neg h4])
  have hbd := bad_no hc
  have HN := Lib.hid (docName_any (txt σ))
  rw [h1] at HN
  have HU := Lib.hid h2
  have HK := Lib.hid h3
  clear h1 h2 h3 hc
  have h0 := Lib.hid h
  have g0 := Lib.hid (gb_refl W (some G))
  have HM := Lib.hid (fun w (g : W.grownBy w (some G)) => hM.grown g hG)
  have hsl := txt_size hA
  obtain ⟨s, hs⟩ : ∃ s, txt σ = s := ⟨_, rfl⟩
  have HS := Lib.hid hs
  rw [hs] at hsl HN HF
  try rw [hs] at HU
  try rw [hs] at HK
  try rw [hs] at h4
  clear h hA hM hG hs
  go_enter Tryz.func68, Tryz.ntmps68
  have q1 : ¬ (9223372036854775807 < 1 + s.size) := by omega
  have q2 : ¬ (9223372036854775807 < 1 + s.size + 1) := by omega
  have q3 : ¬ (12 : Int) < (s.size : Int) := by omega
  go_wp2_with fail
  refine (text_any h0.out).mono ?_; rintro e w1 ⟨rfl, hb⟩
  rw [HS.out]
  have h1 := Lib.hid (h0.out.below hb)
  have g1 := Lib.hid (gb_trans g0.out (gb_below (some G) hb))
  clear hb
  go_wp2_with fail
  refine (HN.out _).mono ?_; rintro e wz ⟨rfl, rfl⟩
  go_wp2_with fail
  refine (isNum_any s hsl _ (HM.out _ g1.out)).mono ?_; rintro e wz ⟨rfl, rfl⟩
  rw [HU.out]
  obtain ⟨mm, hmm⟩ := HM.out _ g1.out
  have CK := Lib.hid (Tryz.strings_Contains KEPT (spaced s) mm w1 (by decide) hmm)
  rw [show Lib.contains KEPT.data.toList (spaced s).data.toList = inside KEPT s from rfl, HK.out] at CK
  clear hmm
  go_wp2_with fail
  refine (CK.out).mono ?_; rintro e wz ⟨rfl, rfl⟩
  go_wp2_with fail
  refine (stop_any h1.out).mono ?_; rintro e w4 ⟨rfl, hb⟩
  have h4 := Lib.hid (h1.out.below hb)
  have g4 := Lib.hid (gb_trans g1.out (gb_below (some G) hb))
  clear hb
  go_wp2_with fail
  refine (pass_any h4.out).mono ?_; rintro e w5 ⟨rfl, ⟨lv5, hp⟩, hg⟩
  have h5 := Lib.hid hp
  have g5 := Lib.hid (gb_trans g4.out hg)
  clear hp hg
  go_wp2_with fail
  go_ret
  exact ⟨by rw [HF.out]; rfl, by rw [HF.out]; exact ⟨⟨_, h5.out⟩, g5.out⟩⟩
theorem name_any (h : PS G E lv σ W) (hA : AllT σ.l) (hM : Mx W) (hG : G ≠ 1) : Calls Tryz.prog 68 #[.pointer (some ⟨G, 0, none⟩)] W (NmP G E σ W) := by
  cases h1 : isN (txt σ)
  · exact name_a h hA hM hG h1
  · cases h2 : isNumP (txt σ)
    · cases h3 : inside KEPT (txt σ)
      · by_cases h4 : 12 < (txt σ).size
        · exact name_d h hA hM hG h1 h2 h3 h4
        · exact name_e h hA hM hG h1 h2 h3 h4
      · exact name_c h hA hM hG h1 h2 h3
    · exact name_b h hA hM hG h1 h2
/-- An expression in brackets. -/
def brackF (E n : Nat) (σ : Ey) : Pr := let r := exprF E n 1 0 (must E σ ⟨#[91]⟩); (r.1, must E r.2 ⟨#[93]⟩)
theorem brack_0 (E n : Nat) (σ : Ey) : Tm0 σ (brackF E n σ).2 := (must_0 _ _ _).trans ((expr_0 _ _ _ _ _).trans (must_0 _ _ _))
set_option maxRecDepth 100000 in
set_option maxHeartbeats 2000000 in
theorem bracket_any (h : PS G E lv σ W) (hA : AllT σ.l) (hE : E ≤ 4000) (n : Nat) (hn : σ.l.length < n) : Calls Tryz.prog 144 #[.pointer (some ⟨G, 0, none⟩)] W (ExP G E (brackF E n σ) W) := by
  have HG := Lib.hid h.lt
  have HX := Lib.hid (fun lv' w' (hp : PS G E lv' (must E σ ⟨#[91]⟩) w') => expr_ok n G E lv' _ w' 1 0 hp ((must_0 _ _ _).1 hA) hE (by omega) (fun _ => ⟨by omega, Nat.lt_of_le_of_lt (must_0 E σ ⟨#[91]⟩).2.1 hn⟩) (by omega))
  unfold brackF
  obtain ⟨r, hr⟩ : ∃ r, exprF E n 1 0 (must E σ ⟨#[91]⟩) = r := ⟨_, rfl⟩
  rw [hr] at HX ⊢
  have HX : Hid (∀ lv' w', PS G E lv' (must E σ ⟨#[91]⟩) w' → Calls Tryz.prog 143 #[.pointer (some ⟨G, 0, none⟩), .int .i64 1, .int .i64 0] w' (ExP G E r w')) := HX
  have h0 := Lib.hid h
  have g0 := Lib.hid (gb_refl W (some G))
  clear hr h hA hn
  go_enter Tryz.func144, Tryz.ntmps144
  go_wp2_with fail
  refine (must_any h0.out ⟨#[91]⟩ (by decide)).mono ?_; rintro e w1 ⟨rfl, ⟨lv1, hp⟩, hg⟩
  have h1 := Lib.hid hp
  have g1 := Lib.hid (gb_trans g0.out hg)
  clear hp hg
  go_wp2_with fail
  refine (HX.out _ _ h1.out).mono ?_; rintro e w2 ⟨v, rfl, ⟨⟨lv2, hp⟩, hg⟩, ⟨p, rfl⟩, hx⟩
  have h2 := Lib.hid hp
  have g2 := Lib.hid (gb_trans g1.out hg)
  have X2 := Lib.hid hx
  clear hp hg hx
  go_wp2_with fail
  refine (must_any h2.out ⟨#[93]⟩ (by decide)).mono ?_; rintro e w3 ⟨rfl, ⟨lv3, hp⟩, hg⟩
  have h3 := Lib.hid hp
  have g3 := Lib.hid (gb_trans g2.out hg)
  have G3 := Lib.hid hg
  clear hp hg
  go_wp2_with fail
  go_ret
  refine ⟨_, rfl, ⟨⟨_, h3.out⟩, g3.out⟩, ⟨p, rfl⟩, fun e => ?_⟩
  have ec : r.2.c = 0 := by
    by_cases hc : r.2.c = 0
    · exact hc
    · have e2 := (must_0 E r.2 ⟨#[93]⟩).2.2 hc
      rw [e2] at e
      exact e
  obtain ⟨x, ex, hx⟩ := X2.out ec
  exact ⟨x, ex, (hx.grown G3.out (Nat.lt_of_lt_of_le HG.out g1.out.size)).low g1.out.size⟩
end
end Go.Proofs.YtkopjmofdnlplaaGreatDoor.Tm
namespace Go.Proofs.YtkopjmofdnlplaaGreatDoor.Tm
open Go.RowKit Go.Proofs.YtkopjmofdnlplaaGreatDoor.Lex Go.Proofs.YtkopjmofdnlplaaGreatDoor.Dig
def leaves : Ex → Nat
  | .num _ _ => 1
  | .nam _ _ => 1
  | .bin _ _ l r => leaves l + leaves r
/-- What the parser makes of an expression. -/
def ExOk : Ex → Prop
  | .num k n => k ≤ 4000 ∧ -9223372036854775808 ≤ n ∧ n ≤ 9223372036854775807
  | .nam k s => k ≤ 4000 ∧ s.size ≤ 1000
  | .bin k op l r => k ≤ 4000 ∧ 0 < hold op ∧ ExOk l ∧ ExOk r
def Lv (c : Option Ex) : Prop := ∀ e, c = some e → leaves e ≤ 4000 ∧ ExOk e
theorem lv_none : Lv none := fun _ h => by cases h
def Sz (σ : Ey) (r : Pr) : Prop := r.2.c = 0 → ∀ x, r.1 = some x → leaves x + r.2.l.length ≤ σ.l.length
theorem pass_sz {E : Nat} {σ : Ey} (h : (pass E σ).c = 0) : (pass E σ).l.length + 1 ≤ σ.l.length := by
  by_cases e : txt σ = emp
  · unfold pass at h
    rw [if_pos e] at h
    exact absurd h (wrong_bad _ _ _ (by decide))
  · exact pass_lt e
theorem ite_len {p : Prop} [Decidable p] {σ : Ey} {e k : Int} : (if p then wrong σ e k else σ).l.length = σ.l.length := by
  split
  · rw [wrong_l]
  · rfl
theorem single_sz {E : Nat} {rec : Nat → Ey → Pr} (h : ∀ d τ, Sz τ (rec d τ)) (deep : Nat) (σ : Ey) : Sz σ (singleF E rec deep σ) := by
  unfold singleF
  split
  · intro _ x hx; cases hx
  · split
    · intro hc x hx
      simp only at hc hx ⊢
      have hl := (must_0 E (rec (deep + 1) (take E (if 8 ≤ deep then wrong σ 4 (pos E σ : Nat) else σ) ⟨#[40]⟩)).2 ⟨#[41]⟩).2
      have hr : (rec (deep + 1) (take E (if 8 ≤ deep then wrong σ 4 (pos E σ : Nat) else σ) ⟨#[40]⟩)).2.c = 0 := by
        by_cases e : (rec (deep + 1) (take E (if 8 ≤ deep then wrong σ 4 (pos E σ : Nat) else σ) ⟨#[40]⟩)).2.c = 0
        · exact e
        · rw [hl.2 e] at hc; exact absurd hc e
      have h1 := h _ _ hr x hx
      have h2 := take_len E (if 8 ≤ deep then wrong σ 4 (pos E σ : Nat) else σ) ⟨#[40]⟩
      rw [ite_len] at h2
      omega
    · split
      · intro hc x hx
        simp only at hc hx ⊢
        have := pass_sz hc
        rw [ite_len] at this
        injection hx with hx
        subst hx
        simp only [leaves]
        omega
      · split
        · intro hc x hx
          simp only at hc hx ⊢
          have := pass_sz hc
          rw [ite_len] at this
          injection hx with hx
          subst hx
          simp only [leaves]
          omega
        · intro _ x hx; cases hx
theorem loop_sz {E N : Nat} {rec : Nat → Ey → Pr} (h0 : ∀ d τ, Tm0 τ (rec d τ).2) (h : ∀ d τ, Sz τ (rec d τ)) (least : Nat) : ∀ (m : Nat) (x : Option Ex) (σ : Ey), (σ.c = 0 → ∀ y, x = some y → leaves y + σ.l.length ≤ N) → (loopF E rec least m x σ).2.c = 0 → ∀ z, (loopF E rec least m x σ).1 = some z → leaves z + (loopF E rec least m x σ).2.l.length ≤ N := by
  intro m
  induction m with
  | zero => intro x σ H hc z hz; exact H hc z hz
  | succ m ih =>
    intro x σ H
    unfold loopF
    split
    · rename_i hh
      refine ih _ _ (fun hc y hy => ?_)
      have hp : (pass E σ).c = 0 := by
        by_cases e : (pass E σ).c = 0
        · exact e
        · rw [(h0 _ _).2.2 e] at hc; exact absurd hc e
      have h1 := pass_sz hp
      cases hx : x with
      | none => rw [hx] at hy; simp [binO] at hy
      | some a =>
        cases hr : (rec (hold (txt σ) + 1) (pass E σ)).1 with
        | none => rw [hx, hr] at hy; simp [binO] at hy
        | some b =>
          rw [hx, hr] at hy
          injection hy with hy
          subst hy
          have h2 := h _ _ hc b hr
          have h3 := H hh.1 a hx
          simp only [leaves]
          omega
    · exact fun hc z hz => H hc z hz
theorem expr_sz (E : Nat) : ∀ (n least deep : Nat) (σ : Ey), Sz σ (exprF E n least deep σ) := by
  intro n
  induction n with
  | zero => intro least deep σ _ x hx; cases hx
  | succ n ih =>
    intro least deep σ
    exact loop_sz (fun l τ => expr_0 E n l deep τ) (fun l τ => ih l deep τ) least _ _ _ (single_sz (fun d τ => ih 1 d τ) deep σ)
theorem brack_sz (E n : Nat) (σ : Ey) : Sz σ (brackF E n σ) := by
  intro hc x hx
  unfold brackF at hc hx ⊢
  simp only at hc hx ⊢
  have hl := (must_0 E (exprF E n 1 0 (must E σ ⟨#[91]⟩)).2 ⟨#[93]⟩).2
  have hr : (exprF E n 1 0 (must E σ ⟨#[91]⟩)).2.c = 0 := by
    by_cases e : (exprF E n 1 0 (must E σ ⟨#[91]⟩)).2.c = 0
    · exact e
    · rw [hl.2 e] at hc; exact absurd hc e
  have h1 := expr_sz E n 1 0 _ hr x hx
  have h2 := must_len E σ ⟨#[91]⟩
  omega
theorem numV_bds (s : ByteArray) : -9223372036854775808 ≤ numV s ∧ numV s ≤ 9223372036854775807 := by
  unfold numV
  generalize nneg s = a
  generalize pv (nu (nt s)) (nb (nt s)) = b
  generalize pe (nu (nt s)) (nb (nt s)) = c
  unfold nv
  split
  · omega
  · split
    · split <;> omega
    · split <;> omega
theorem single_okk {E : Nat} (hE : E ≤ 4000) {rec : Nat → Ey → Pr} (h : ∀ d τ, AllT τ.l → ∀ x, (rec d τ).1 = some x → ExOk x) (deep : Nat) (σ : Ey) (hA : AllT σ.l) : ∀ x, (singleF E rec deep σ).1 = some x → ExOk x := by
  have hA2 : ∀ (p : Prop) [Decidable p] (e k : Int), AllT (if p then wrong σ e k else σ).l := by
    intro p _ e k
    split
    · exact wrong_all hA
    · exact hA
  unfold singleF
  split
  · intro x hx; cases hx
  · split
    · intro x hx
      exact h _ _ (take_all (hA2 _ _ _)) x hx
    · split
      · intro x hx
        injection hx with hx
        subst hx
        exact ⟨pos_le hE hA, txt_size hA⟩
      · split
        · intro x hx
          injection hx with hx
          subst hx
          exact ⟨pos_le hE hA, numV_bds _⟩
        · intro x hx; cases hx
theorem loop_okk {E : Nat} (hE : E ≤ 4000) {rec : Nat → Ey → Pr} (h0 : ∀ d τ, Tm0 τ (rec d τ).2) (h : ∀ d τ, AllT τ.l → ∀ x, (rec d τ).1 = some x → ExOk x) (least : Nat) : ∀ (m : Nat) (x : Option Ex) (σ : Ey), AllT σ.l → (∀ y, x = some y → ExOk y) → ∀ z, (loopF E rec least m x σ).1 = some z → ExOk z := by
  intro m
  induction m with
  | zero => intro x σ _ H z hz; exact H z hz
  | succ m ih =>
    intro x σ hA H
    unfold loopF
    split
    · rename_i hh
      refine ih _ _ ((h0 _ _).1 (pass_all hA)) (fun y hy => ?_)
      cases hx : x with
      | none => rw [hx] at hy; simp [binO] at hy
      | some a =>
        cases hr : (rec (hold (txt σ) + 1) (pass E σ)).1 with
        | none => rw [hx, hr] at hy; simp [binO] at hy
        | some b =>
          rw [hx, hr] at hy
          injection hy with hy
          subst hy
          exact ⟨pos_le hE hA, hh.2.2, H a hx, h _ _ (pass_all hA) b hr⟩
    · exact fun z hz => H z hz
theorem expr_okk {E : Nat} (hE : E ≤ 4000) : ∀ (n least deep : Nat) (σ : Ey), AllT σ.l → ∀ x, (exprF E n least deep σ).1 = some x → ExOk x := by
  intro n
  induction n with
  | zero => intro least deep σ _ x hx; cases hx
  | succ n ih =>
    intro least deep σ hA
    exact loop_okk hE (fun l τ => expr_0 E n l deep τ) (fun l τ => ih l deep τ) least _ _ _ ((single_0 (fun d τ => expr_0 E n 1 d τ) deep σ).1 hA) (single_okk hE (fun d τ => ih 1 d τ) deep σ hA)
theorem brack_okk {E : Nat} (hE : E ≤ 4000) (n : Nat) (σ : Ey) (hA : AllT σ.l) : ∀ x, (brackF E n σ).1 = some x → ExOk x := by
  unfold brackF
  exact expr_okk hE n 1 0 _ (must_all hA)
end Go.Proofs.YtkopjmofdnlplaaGreatDoor.Tm
namespace Go.Proofs.YtkopjmofdnlplaaGreatDoor.Tm
open Go.RowKit Go.Proofs.YtkopjmofdnlplaaGreatDoor.Lex Go.Proofs.YtkopjmofdnlplaaGreatDoor.Dig
/-- A part of a struct. -/
inductive It
  | mk (kind : Int) (at_ : Nat) (name type : ByteArray) (width order : Int) (signed many : Bool) (count : Option Ex) (rule : Int) (first last : ByteArray) (items : List It)
def It.kind : It → Int | .mk k _ _ _ _ _ _ _ _ _ _ _ _ => k
def It.at_ : It → Nat | .mk _ a _ _ _ _ _ _ _ _ _ _ _ => a
def It.name : It → ByteArray | .mk _ _ n _ _ _ _ _ _ _ _ _ _ => n
def It.type : It → ByteArray | .mk _ _ _ t _ _ _ _ _ _ _ _ _ => t
def It.width : It → Int | .mk _ _ _ _ w _ _ _ _ _ _ _ _ => w
def It.order : It → Int | .mk _ _ _ _ _ o _ _ _ _ _ _ _ => o
def It.signed : It → Bool | .mk _ _ _ _ _ _ s _ _ _ _ _ _ => s
def It.many : It → Bool | .mk _ _ _ _ _ _ _ m _ _ _ _ _ => m
def It.count : It → Option Ex | .mk _ _ _ _ _ _ _ _ c _ _ _ _ => c
def It.rule : It → Int | .mk _ _ _ _ _ _ _ _ _ r _ _ _ => r
def It.first : It → ByteArray | .mk _ _ _ _ _ _ _ _ _ _ f _ _ => f
def It.last : It → ByteArray | .mk _ _ _ _ _ _ _ _ _ _ _ l _ => l
def It.items : It → List It | .mk _ _ _ _ _ _ _ _ _ _ _ _ i => i
/-- The thirteen cells of an item, but for what hangs on it. -/
def itVals (x : It) (cv iv : Value) : List Value :=
  [.int .i64 x.kind, .int .i64 x.at_, .string x.name, .string x.type, .int .i64 x.width, .int .i64 x.order, .bool x.signed, .bool x.many, cv, .int .i64 x.rule, .string x.first, .string x.last, iv]
def CtAt (w : World) : Option Ex → Value → Prop
  | none, v => v = .pointer none
  | some x, v => ExAt w x v
mutual
def ItAt (w : World) : It → Value → Value → Prop
  | .mk _ _ _ _ _ _ _ _ count _ _ _ items, cv, iv => CtAt w count cv ∧ ∃ a cap, iv = .slice a items.length cap ∧ items.length ≤ cap ∧ RowAt w items a 0
def RowAt (w : World) : List It → Option Addr → Nat → Prop
  | [], _, _ => True
  | x :: r, a, j => (∃ ad cv iv, a = some ad ∧ (∀ i v, (itVals x cv iv)[i]? = some v → w.cell? (ad.add (j * 13 + i)) = some v) ∧ ItAt w x cv iv) ∧ RowAt w r a (j + 1)
end
/-- The slice v shows the items l. -/
def ItsAt (w : World) (v : Value) (l : List It) : Prop := ∃ a cap, v = .slice a l.length cap ∧ l.length ≤ cap ∧ RowAt w l a 0
theorem itAt_iff (w : World) (x : It) (cv iv : Value) : ItAt w x cv iv ↔ CtAt w x.count cv ∧ ItsAt w iv x.items := by
  cases x
  simp only [ItAt, ItsAt, It.count, It.items]
theorem rowAt_get {w : World} {a : Option Addr} : ∀ (l : List It) (j : Nat), RowAt w l a j → ∀ i (h : i < l.length), ∃ ad cv iv, a = some ad ∧ (∀ m v, (itVals l[i] cv iv)[m]? = some v → w.cell? (ad.add ((j + i) * 13 + m)) = some v) ∧ ItAt w l[i] cv iv := by
  intro l
  induction l with
  | nil => intro j _ i h; simp at h
  | cons x r ih =>
    intro j hr i h
    unfold RowAt at hr
    cases i with
    | zero => exact hr.1
    | succ i =>
      have := ih (j + 1) hr.2 i (by simpa using h)
      rw [show j + 1 + i = j + (i + 1) by omega] at this
      exact this
theorem rowAt_mk {w : World} {a : Option Addr} : ∀ (l : List It) (j : Nat), (∀ i (h : i < l.length), ∃ ad cv iv, a = some ad ∧ (∀ m v, (itVals l[i] cv iv)[m]? = some v → w.cell? (ad.add ((j + i) * 13 + m)) = some v) ∧ ItAt w l[i] cv iv) → RowAt w l a j := by
  intro l
  induction l with
  | nil => intro j _; unfold RowAt; trivial
  | cons x r ih =>
    intro j h
    unfold RowAt
    refine ⟨h 0 (by simp), ih (j + 1) fun i hi => ?_⟩
    have := h (i + 1) (by simpa using hi)
    rw [show j + (i + 1) = j + 1 + i by omega] at this
    exact this
/-- What the parser makes of an item. -/
structure WfHead (x : It) : Prop where
  kind : 1 ≤ x.kind ∧ x.kind ≤ 4
  rule : 0 ≤ x.rule ∧ x.rule ≤ 3
  ruled : x.rule ≠ 0 → x.kind = 1 ∧ x.many = false
  wide : x.kind = 1 → x.width = 1 ∨ x.width = 2 ∨ x.width = 4 ∨ x.width = 8
  ord : x.order = 0 ∨ x.order = 1
  names : x.name.size ≤ 1000 ∧ x.type.size ≤ 1000 ∧ x.first.size ≤ 1000 ∧ x.last.size ≤ 1000
  cnt : x.kind = 2 ∨ x.kind = 4 ∨ x.many = true → x.count ≠ none
  nocnt : (x.kind = 1 ∨ x.kind = 3) ∧ x.many = false → x.count = none
  sub : x.kind ≠ 4 → x.items = []
  place : x.at_ ≤ 4000
  few : x.items.length ≤ 16
  sz : Lv x.count
mutual
def WfI : It → Prop
  | .mk k a n t wd od s m c r f la its => WfHead (.mk k a n t wd od s m c r f la its) ∧ WfL its
def WfL : List It → Prop
  | [] => True
  | x :: r => WfI x ∧ WfL r
end
theorem wfI_iff (x : It) : WfI x ↔ WfHead x ∧ WfL x.items := by cases x; simp only [WfI, It.items]
theorem wfL_mem {l : List It} (h : WfL l) : ∀ x ∈ l, WfI x := by
  induction l with
  | nil => intro x hx; simp at hx
  | cons y r ih =>
    unfold WfL at h
    intro x hx
    rcases List.mem_cons.1 hx with rfl | hx
    · exact h.1
    · exact ih h.2 x hx
theorem wfL_snoc {l : List It} {x : It} (h : WfL l) (hx : WfI x) : WfL (l ++ [x]) := by
  induction l with
  | nil => exact ⟨hx, trivial⟩
  | cons y r ih => unfold WfL at h; exact ⟨h.1, ih h.2⟩
/-! ### An item's box -/
def IB (w : World) (X : Nat) (vs : List Value) : Prop := w.heap[X]? = some (.cells vs.toArray 78)
theorem IB.cell {w : World} {X : Nat} {vs : List Value} (h : IB w X vs) (j : Nat) : w.cell? ⟨X, j, none⟩ = vs[j]? := by
  unfold World.cell?
  rw [h]
  simp
theorem IB.free {w : World} {X : Nat} {vs : List Value} (h : IB w X vs) (j : Nat) : w.frozen? ⟨X, j, none⟩ = false := by
  unfold World.frozen?
  rw [show w.heap[X]? = _ from h]
  simp
theorem IB.lt {w : World} {X : Nat} {vs : List Value} (h : IB w X vs) : X < w.heap.size := (Array.getElem?_eq_some_iff.1 h).1
theorem IB.set {w : World} {X : Nat} {vs : List Value} (h : IB w X vs) (j : Nat) (v : Value) : IB (w.setCell ⟨X, j, none⟩ v) X (vs.set j v) := by
  unfold IB at h ⊢
  simp [World.setCell, Array.getElem?_modify, h]
theorem IB.grown {w w' : World} {X G : Nat} {vs : List Value} (h : IB w X vs) (hg : w.grownBy w' (some G)) (hne : X ≠ G) : IB w' X vs :=
  (hg.block X h.lt (fun e => hne (by simpa using e))).trans h
theorem IB.new (w : World) (vs : List Value) : IB (w.alloc (.cells vs.toArray 78)) w.heap.size vs := heap_alloc_new _ _
theorem IB.setOther {w : World} {X Y j : Nat} {v : Value} {vs : List Value} (h : IB w X vs) (hne : X ≠ Y) : IB (w.setCell ⟨Y, j, none⟩ v) X vs := (Below.heap_setCell _ _ _ _ hne).trans h
theorem IB.alloc {w : World} {X : Nat} {vs : List Value} (h : IB w X vs) (o : Obj) : IB (w.alloc o) X vs := (heap_alloc_old w o h.lt).trans h
end Go.Proofs.YtkopjmofdnlplaaGreatDoor.Tm
