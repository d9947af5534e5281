/-
  PROVED HERE: the contract of the program's expr.one. Conditions: as each theorem states.
-/
import Derived.Test.YtofmheeiplagjaaGreatDoorExpC
import Derived.Test.YtofmheeiplagjaaGreatDoorParC
namespace Go.Proofs.YtofmheeiplagjaaGreatDoor.Tm
open Go.RowKit Go.Proofs.YtofmheeiplagjaaGreatDoor.Lex Go.Proofs.YtofmheeiplagjaaGreatDoor.Dig
section
variable {n B G E : Nat} {lv : Value} {σ : Ey} {W : World} {deep : Nat}
theorem Pass_ok (h : RS G E lv σ W) (ht : txt σ ≠ emp) : Calls Tryz.prog 68 #[.pointer (some ⟨G, 0, none⟩)] W fun e w' => e = .returned (.string (txt σ)) ∧ (∃ lv', RS G E lv' (pass E σ) w') ∧ W.grownBy w' (some G) := by
  refine (Pass_any h).mono ?_
  rintro e w' ⟨hg, ⟨rfl, hs⟩ | ⟨hc, _⟩⟩
  · exact ⟨rfl, hs, hg⟩
  · rw [pass_ok ht] at hc
    exact absurd h.ok hc
theorem Take_no (h : RS G E lv σ W) (s : ByteArray) (hs : 0 < s.size) (ht : txt σ ≠ s) : Calls Tryz.prog 65 #[.pointer (some ⟨G, 0, none⟩), .string s] W fun e w' => e = .returned (.bool false) ∧ (∃ lv', RS G E lv' σ w') ∧ W.grownBy w' (some G) := by
  refine (Take_any h s hs).mono ?_
  rintro e w' ⟨rfl, hr, hg⟩
  rw [show take E σ s = σ from if_neg ht] at hr
  exact ⟨by rw [decide_eq_false ht], hr, hg⟩
theorem alloc_gb (w : World) (o : Obj) (G : Nat) : w.grownBy (w.alloc o) (some G) := gb_below _ ((Below.refl _ _).alloc (Nat.le_refl _) _)
set_option maxRecDepth 100000 in
set_option maxHeartbeats 4000000 in
theorem one_name (rec : Nat → Ey → Pr) (h : RS G E lv σ W) (hA : AllT σ.l) (hp : txt σ ≠ ⟨#[40]⟩) (hn : isN (txt σ) = true) : Calls Tryz.prog 79 #[.pointer (some ⟨G, 0, none⟩), .int .i64 (deep : Nat)] W (LvP G E (singleF E rec deep σ) W) := by
  have hne : txt σ ≠ emp := fun e => by have := isN_size hn; rw [emp_iff.1 e] at this; omega
  have hsl : (txt σ).size ≤ 1000 := txt_size hA
  have h0 := Lib.hid h
  have HN := Lib.hid (name_any (txt σ))
  rw [hn] at HN
  have HT := Lib.hid (fun w lv (h1 : RS G E lv σ w) => Take_no h1 ⟨#[40]⟩ (by decide) hp)
  have HP := Lib.hid (fun w lv (h1 : RS G E lv σ w) => Pass_ok h1 hne)
  have HX := Lib.hid (fun w lv (h1 : RS G E lv σ w) => Text_any h1)
  have hr : singleF E rec deep σ = (some (.nam (pos E σ) (txt σ)), pass E (if 12 < (txt σ).size then wrong σ 4 (pos E σ : Nat) else σ)) := by
    unfold singleF; rw [if_neg (by simp [h.ok]), if_neg hp, if_pos hn]
  by_cases h12 : 12 < (txt σ).size
  · rw [if_pos h12, h.err, pass_stop (show (4 : Int) ≠ 0 by decide)] at hr
    rw [hr]
    have d12 : (12 : Int) < ((txt σ).size : Int) := by omega
    obtain ⟨s, hs⟩ : ∃ s, txt σ = s := ⟨_, rfl⟩
    rw [hs] at d12 HN HP HX
    rw [hs]
    clear hr h hA hp hn hne h12 hsl hs
    go_enter Tryz.func79, Tryz.ntmps79
    go_wp2_with fail
    refine (At_any h0.out).mono ?_; rintro e w1 ⟨rfl, hb⟩
    have h1 := Lib.hid (h0.out.below hb)
    have g1 := Lib.hid (gb_below (some G) hb)
    clear hb
    go_wp2_with fail
    refine (HT.out w1 lv h1.out).mono ?_; rintro e w2 ⟨rfl, ⟨lv2, hp⟩, hg⟩
    have h2 := Lib.hid hp
    have g2 := Lib.hid (gb_trans g1.out hg)
    clear hp hg
    go_wp2_with fail
    refine (HX.out w2 lv2 h2.out).mono ?_; rintro e w3 ⟨rfl, hb⟩
    have h3 := Lib.hid (h2.out.below hb)
    have g3 := Lib.hid (gb_trans g2.out (gb_below (some G) hb))
    clear hb
    go_wp2_with fail
    refine (HN.out _).mono ?_; rintro e w4 ⟨rfl, rfl⟩
    go_wp2_with fail
    refine (HP.out w3 lv2 h3.out).mono ?_; rintro e w5 ⟨rfl, _, hg⟩
    have g5 := Lib.hid (gb_trans g3.out hg)
    clear hg
    go_wp2_with fail
    refine (Fail_any _ _ _).mono ?_; rintro e w6 ⟨⟨b9, rfl, q0, q1⟩, hb⟩
    have HS := Lib.hid (gb_trans g5.out (gb_below (some G) hb))
    have T9 := Lib.hid (show LThr w6 (4, (pos E σ : Nat)) _ from ⟨b9, rfl, q0, q1⟩)
    clear hb q0 q1
    go_wp2_with fail
    exact ⟨rfl, HS.out, .inr ⟨show (4 : Int) ≠ 0 by decide, T9.out⟩⟩
  · rw [if_neg h12] at hr
    rw [hr]
    have d12 : ¬ (12 : Int) < ((txt σ).size : Int) := by omega
    obtain ⟨s, hs⟩ : ∃ s, txt σ = s := ⟨_, rfl⟩
    rw [hs] at d12 HN HP HX
    rw [hs]
    clear hr h hA hp hn hne h12 hsl hs
    go_enter Tryz.func79, Tryz.ntmps79
    go_wp2_with fail
    refine (At_any h0.out).mono ?_; rintro e w1 ⟨rfl, hb⟩
    have h1 := Lib.hid (h0.out.below hb)
    have g1 := Lib.hid (gb_below (some G) hb)
    clear hb
    go_wp2_with fail
    refine (HT.out w1 lv h1.out).mono ?_; rintro e w2 ⟨rfl, ⟨lv2, hp⟩, hg⟩
    have h2 := Lib.hid hp
    have g2 := Lib.hid (gb_trans g1.out hg)
    clear hp hg
    go_wp2_with fail
    refine (HX.out w2 lv2 h2.out).mono ?_; rintro e w3 ⟨rfl, hb⟩
    have h3 := Lib.hid (h2.out.below hb)
    have g3 := Lib.hid (gb_trans g2.out (gb_below (some G) hb))
    clear hb
    go_wp2_with fail
    refine (HN.out _).mono ?_; rintro e w4 ⟨rfl, rfl⟩
    go_wp2_with fail
    refine (HP.out w3 lv2 h3.out).mono ?_; rintro e w5 ⟨rfl, ⟨lv5, hp⟩, hg⟩
    have h5 := Lib.hid hp
    have g5 := Lib.hid (gb_trans g3.out hg)
    clear hp hg
    go_wp2_with fail
    go_ret
    exact ⟨gb_trans g5.out (alloc_gb _ _ _), .inl ⟨_, _, lv5, rfl, rfl, h5.out.below ((Below.refl _ _).alloc (Nat.le_refl _) _), exF_nam g5.out.size _ _, _, rfl⟩⟩
theorem no_digit {s : ByteArray} (h : 0 < s.size) (hd : isD s = true) : ¬ (s[0].toNat : Int) < 48 ∧ ¬ (57 : Int) < (s[0].toNat : Int) := by
  rw [isD_at h] at hd
  unfold dgt at hd
  rw [Bool.and_eq_true, decide_eq_true_iff, decide_eq_true_iff, UInt8.le_iff_toNat_le, UInt8.le_iff_toNat_le] at hd
  have h1 : (48 : UInt8).toNat = 48 := rfl
  have h2 : (57 : UInt8).toNat = 57 := rfl
  omega
theorem is_digit {s : ByteArray} (h : 0 < s.size) (hd : isD s = false) : (s[0].toNat : Int) < 48 ∨ (¬ (s[0].toNat : Int) < 48 ∧ (57 : Int) < (s[0].toNat : Int)) := by
  rw [isD_at h] at hd
  unfold dgt at hd
  rw [Bool.and_eq_false_iff, decide_eq_false_iff_not, decide_eq_false_iff_not, UInt8.le_iff_toNat_le, UInt8.le_iff_toNat_le] at hd
  have h1 : (48 : UInt8).toNat = 48 := rfl
  have h2 : (57 : UInt8).toNat = 57 := rfl
  omega
set_option maxRecDepth 100000 in
set_option maxHeartbeats 4000000 in
theorem one_num (rec : Nat → Ey → Pr) (h : RS G E lv σ W) (hL : LH B W) (hBG : B ≤ G) (hA : AllT σ.l) (hp : txt σ ≠ ⟨#[40]⟩) (hn : isN (txt σ) = false) (hd2 : isD (txt σ) = true) : Calls Tryz.prog 79 #[.pointer (some ⟨G, 0, none⟩), .int .i64 (deep : Nat)] W (LvP G E (singleF E rec deep σ) W) := by
  have hsl : (txt σ).size ≤ 1000 := txt_size hA
  have hs0 : 0 < (txt σ).size := by
    rcases Nat.eq_zero_or_pos (txt σ).size with e | e
    · rw [isD_none (by omega)] at hd2; cases hd2
    · exact e
  have hne : txt σ ≠ emp := fun e => by rw [emp_iff.1 e] at hs0; omega
  have hBs : B ≤ W.heap.size := by have := h.lt; omega
  have h0 := Lib.hid h
  have HL := Lib.hid hL
  have HN := Lib.hid (name_any (txt σ))
  rw [hn] at HN
  have HT := Lib.hid (fun w lv (h1 : RS G E lv σ w) => Take_no h1 ⟨#[40]⟩ (by decide) hp)
  have HP := Lib.hid (fun w lv (h1 : RS G E lv σ w) => Pass_ok h1 hne)
  have HX := Lib.hid (fun w lv (h1 : RS G E lv σ w) => Text_any h1)
  have HU := Lib.hid (number_any (txt σ) hsl)
  rw [show (nv (nneg (txt σ)) (pv (nu (nt (txt σ))) (nb (nt (txt σ)))) (pe (nu (nt (txt σ))) (nb (nt (txt σ))))) = numV (txt σ) from rfl, show (ne (nneg (txt σ)) (pv (nu (nt (txt σ))) (nb (nt (txt σ)))) (pe (nu (nt (txt σ))) (nb (nt (txt σ))))) = numE (txt σ) from rfl] at HU
  have hr : singleF E rec deep σ = (some (.num (pos E σ) (numV (txt σ))), pass E (if numE (txt σ) ≠ 0 then wrong σ (numE (txt σ)) (pos E σ : Nat) else σ)) := by
    unfold singleF; rw [if_neg (by simp [h.ok]), if_neg hp, if_neg (by rw [hn]; decide), if_pos hd2]
  have t2 := str_full (txt σ) hs0
  have i0 : (0 : Int) < ((txt σ).size : Int) := by omega
  obtain ⟨n1, n2⟩ := no_digit hs0 hd2
  generalize numV (txt σ) = nV at *
  obtain ⟨nE, hnE⟩ : ∃ x, numE (txt σ) = x := ⟨_, rfl⟩
  rw [hnE] at hr HU
  by_cases h12 : nE = 0
  · rw [if_neg (by simpa using h12)] at hr
    rw [hr]
    subst h12
    rw [show ev 0 = .nilIface from rfl] at HU
    obtain ⟨s, hs⟩ : ∃ s, txt σ = s := ⟨_, rfl⟩
    simp only [hs] at HN HP HX HU t2 i0 n1 n2
    have e2 : (s.toList == []) = false := by rw [beq_eq_false_iff_ne]; intro e; rw [e] at t2; cases t2
    clear hr h hL hA hp hn hne hsl hd2 hnE
    go_enter Tryz.func79, Tryz.ntmps79
    go_wp2_with fail
    refine (At_any h0.out).mono ?_; rintro e w1 ⟨rfl, hb⟩
    have h1 := Lib.hid (h0.out.below hb)
    have g1 := Lib.hid (gb_below (some G) hb)
    clear hb
    go_wp2_with fail
    refine (HT.out w1 lv h1.out).mono ?_; rintro e w2 ⟨rfl, ⟨lv2, hp⟩, hg⟩
    have h2 := Lib.hid hp
    have g2 := Lib.hid (gb_trans g1.out hg)
    clear hp hg
    go_wp2_with fail
    refine (HX.out w2 lv2 h2.out).mono ?_; rintro e w3 ⟨rfl, hb⟩
    have h3 := Lib.hid (h2.out.below hb)
    have g3 := Lib.hid (gb_trans g2.out (gb_below (some G) hb))
    clear hb
    go_wp2_with fail
    refine (HN.out _).mono ?_; rintro e w4 ⟨rfl, rfl⟩
    go_wp2_with fail
    refine (HP.out w3 lv2 h3.out).mono ?_; rintro e w5 ⟨rfl, ⟨lv5, hp⟩, hg⟩
    have h5 := Lib.hid hp
    have g5 := Lib.hid (gb_trans g3.out hg)
    clear hp hg
    go_wp2_with fail
    refine (HU.out w5).mono ?_; rintro e w6 ⟨rfl, hb⟩
    have h6 := Lib.hid (h5.out.below hb)
    have g6 := Lib.hid (gb_trans g5.out (gb_below (some G) hb))
    clear hb
    go_wp2_with fail
    go_ret
    exact ⟨gb_trans g6.out (alloc_gb _ _ _), .inl ⟨_, _, lv5, rfl, rfl, h6.out.below ((Below.refl _ _).alloc (Nat.le_refl _) _), exF_num g6.out.size _ _, _, rfl⟩⟩
  · rw [if_pos h12, h.err, pass_stop h12] at hr
    rw [hr]
    rw [show ev nE = .iface 25 (.int .i64 nE) from if_neg h12] at HU
    have C9 := Lib.hid h12
    obtain ⟨s, hs⟩ : ∃ s, txt σ = s := ⟨_, rfl⟩
    simp only [hs] at HN HP HX HU t2 i0 n1 n2
    have e2 : (s.toList == []) = false := by rw [beq_eq_false_iff_ne]; intro e; rw [e] at t2; cases t2
    clear hr h hL hA hp hn hne hsl hd2 hnE h12
    go_enter Tryz.func79, Tryz.ntmps79
    go_wp2_with fail
    refine (At_any h0.out).mono ?_; rintro e w1 ⟨rfl, hb⟩
    have h1 := Lib.hid (h0.out.below hb)
    have g1 := Lib.hid (gb_below (some G) hb)
    clear hb
    go_wp2_with fail
    refine (HT.out w1 lv h1.out).mono ?_; rintro e w2 ⟨rfl, ⟨lv2, hp⟩, hg⟩
    have h2 := Lib.hid hp
    have g2 := Lib.hid (gb_trans g1.out hg)
    clear hp hg
    go_wp2_with fail
    refine (HX.out w2 lv2 h2.out).mono ?_; rintro e w3 ⟨rfl, hb⟩
    have h3 := Lib.hid (h2.out.below hb)
    have g3 := Lib.hid (gb_trans g2.out (gb_below (some G) hb))
    clear hb
    go_wp2_with fail
    refine (HN.out _).mono ?_; rintro e w4 ⟨rfl, rfl⟩
    go_wp2_with fail
    refine (HP.out w3 lv2 h3.out).mono ?_; rintro e w5 ⟨rfl, ⟨lv5, hp⟩, hg⟩
    have g5 := Lib.hid (gb_trans g3.out hg)
    clear hp hg
    go_wp2_with fail
    refine (HU.out w5).mono ?_; rintro e w6 ⟨rfl, hb⟩
    have g6 := Lib.hid (gb_trans g5.out (gb_below (some G) hb))
    have L6 := Lib.hid (HL.out.grown hBG hBs g6.out)
    clear hb
    go_wp2_with fail
    refine (Err.tell_errno nE w6 L6.out.home).mono ?_; rintro e w7 ⟨rfl, hb⟩
    have g7 := Lib.hid (gb_trans g6.out (gb_below (some G) hb))
    clear hb
    go_wp2_with fail
    refine (Fail_any _ _ _).mono ?_; rintro e w8 ⟨⟨b9, rfl, q0, q1⟩, hb⟩
    have HS := Lib.hid (gb_trans g7.out (gb_below (some G) hb))
    have T9 := Lib.hid (show LThr w8 (nE, (pos E σ : Nat)) _ from ⟨b9, rfl, q0, q1⟩)
    clear hb q0 q1
    go_wp2_with fail
    exact ⟨rfl, HS.out, .inr ⟨C9.out, T9.out⟩⟩
set_option maxRecDepth 100000 in
set_option maxHeartbeats 4000000 in
theorem one_bad (rec : Nat → Ey → Pr) (h : RS G E lv σ W) (hp : txt σ ≠ ⟨#[40]⟩) (hn : isN (txt σ) = false) (hd2 : isD (txt σ) = false) : Calls Tryz.prog 79 #[.pointer (some ⟨G, 0, none⟩), .int .i64 (deep : Nat)] W (LvP G E (singleF E rec deep σ) W) := by
  have h0 := Lib.hid h
  have HN := Lib.hid (name_any (txt σ))
  rw [hn] at HN
  have HT := Lib.hid (fun w lv (h1 : RS G E lv σ w) => Take_no h1 ⟨#[40]⟩ (by decide) hp)
  have HX := Lib.hid (fun w lv (h1 : RS G E lv σ w) => Text_any h1)
  have hr : singleF E rec deep σ = (none, ⟨3, (pos E σ : Nat), σ.l⟩) := by
    unfold singleF; rw [if_neg (by simp [h.ok]), if_neg hp, if_neg (by rw [hn]; decide), if_neg (by rw [hd2]; decide), h.err]
  rw [hr]
  have hcase : txt σ = ⟨#[]⟩ ∨ ∃ h : 0 < (txt σ).size, ((txt σ)[0].toNat : Int) < 48 ∨ (¬ ((txt σ)[0].toNat : Int) < 48 ∧ (57 : Int) < ((txt σ)[0].toNat : Int)) := by
    by_cases hs0 : 0 < (txt σ).size
    · exact .inr ⟨hs0, is_digit hs0 hd2⟩
    · exact .inl (emp_iff.2 (by omega))
  obtain ⟨s, hs⟩ : ∃ s, txt σ = s := ⟨_, rfl⟩
  simp only [hs] at HN HX hcase
  clear hr h hp hn hd2
  rcases hcase with rfl | ⟨hs0, n1 | ⟨n1, n2⟩⟩
  all_goals
    try (have t2 := str_full s hs0)
    try (have i0 : (0 : Int) < (s.size : Int) := by omega)
    try (have e2 : (s.toList == []) = false := by rw [beq_eq_false_iff_ne]; intro e; rw [e] at t2; cases t2)
    try clear hs0
    go_enter Tryz.func79, Tryz.ntmps79
    go_wp2_with fail
    refine (At_any h0.out).mono ?_; rintro e w1 ⟨rfl, hb⟩
    have h1 := Lib.hid (h0.out.below hb)
    have g1 := Lib.hid (gb_below (some G) hb)
    clear hb
    go_wp2_with fail
    refine (HT.out w1 lv h1.out).mono ?_; rintro e w2 ⟨rfl, ⟨lv2, hp⟩, hg⟩
    have h2 := Lib.hid hp
    have g2 := Lib.hid (gb_trans g1.out hg)
    clear hp hg
    go_wp2_with fail
    refine (HX.out w2 lv2 h2.out).mono ?_; rintro e w3 ⟨rfl, hb⟩
    have g3 := Lib.hid (gb_trans g2.out (gb_below (some G) hb))
    clear hb
    go_wp2_with fail
    refine (HN.out _).mono ?_; rintro e w4 ⟨rfl, rfl⟩
    go_wp2_with fail
    refine (Fail_any _ _ _).mono ?_; rintro e w5 ⟨⟨b9, rfl, q0, q1⟩, hb⟩
    have HS := Lib.hid (gb_trans g3.out (gb_below (some G) hb))
    have T9 := Lib.hid (show LThr w5 (3, (pos E σ : Nat)) _ from ⟨b9, rfl, q0, q1⟩)
    clear hb q0 q1
    go_wp2_with fail
    exact ⟨rfl, HS.out, .inr ⟨show (3 : Int) ≠ 0 by decide, T9.out⟩⟩
theorem expOne_any (IH : RdC n) (h : RS G E lv σ W) (hL : LH B W) (hBG : B ≤ G) (hA : AllT σ.l) (hE : E ≤ 4000) (hd : deep ≤ 8) (hn : σ.l.length < n + 1) : Calls Tryz.prog 79 #[.pointer (some ⟨G, 0, none⟩), .int .i64 (deep : Nat)] W (LvP G E (exprF E (n + 1) 4 deep σ) W) := by
  rw [exprF_top]
  by_cases hp : txt σ = ⟨#[40]⟩
  · exact one_open IH h hL hBG hA hE hd hn hp
  · cases hN : isN (txt σ)
    · cases hD : isD (txt σ)
      · exact one_bad _ h hp hN hD
      · exact one_num _ h hL hBG hA hp hN hD
    · exact one_name _ h hA hp hN
end
end Go.Proofs.YtofmheeiplagjaaGreatDoor.Tm
