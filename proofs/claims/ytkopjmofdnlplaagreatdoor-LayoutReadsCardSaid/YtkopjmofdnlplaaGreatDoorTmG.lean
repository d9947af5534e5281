/-
  PROVED HERE: the contract of the document's eyes' single; the contract of the document's eyes' expr. Conditions: as each theorem states.
-/
import Derived.Test.YtkopjmofdnlplaaGreatDoorTmE
namespace Go.Proofs.YtkopjmofdnlplaaGreatDoor.Tm
open Go.RowKit Go.Proofs.YtkopjmofdnlplaaGreatDoor.Lex Go.Proofs.YtkopjmofdnlplaaGreatDoor.Dig
def ExprC (n : Nat) : Prop := ∀ (G E : Nat) (lv : Value) (σ : Ey) (W : World) (least deep : Nat), PS G E lv σ W → AllT σ.l → E ≤ 4000 → deep ≤ 9 → (σ.c = 0 → deep ≤ 8 ∧ σ.l.length < n) → least ≤ 4 → Calls Tryz.prog 143 #[.pointer (some ⟨G, 0, none⟩), .int .i64 (least : Nat), .int .i64 (deep : Nat)] W (ExP G E (exprF E n least deep σ) W)
theorem lp_ne : (⟨#[40]⟩ : ByteArray) ≠ emp := by decide
theorem rp_ne : (⟨#[41]⟩ : ByteArray) ≠ emp := by decide
theorem wrong_c {σ : Ey} (h : σ.c = 0) (e k : Int) : (wrong σ e k).c = e := by unfold wrong; rw [if_pos h]
theorem isN_size {s : ByteArray} (h : isN s = true) : 0 < s.size := by
  unfold isN at h
  rcases Nat.eq_zero_or_pos s.size with e | e
  · rw [lst_nil (by omega)] at h; cases h
  · exact e
theorem isD_at {s : ByteArray} (h : 0 < s.size) : isD s = dgt s[0] := by unfold isD; rw [lst_cons s h]
theorem isD_none {s : ByteArray} (h : ¬ 0 < s.size) : isD s = false := by unfold isD; rw [lst_nil h]
section
variable {n G E : Nat} {lv : Value} {σ : Ey} {W : World} {deep : Nat}
theorem got_nil {r : Pr} {w : World} (p : Option Addr) (h : r.2.c ≠ 0) (lo : Nat) : Got lo r (.pointer p) w := ⟨⟨p, rfl⟩, fun e => absurd e h⟩
set_option maxRecDepth 100000 in
set_option maxHeartbeats 4000000 in
theorem single_stop (h : PS G E lv σ W) (hc : σ.c ≠ 0) (rec : Nat → Ey → Pr) : Calls Tryz.prog 164 #[.pointer (some ⟨G, 0, none⟩), .int .i64 (deep : Nat)] W (ExP G E (singleF E rec deep σ) W) := by
  have hr : singleF E rec deep σ = (none, σ) := if_pos hc
  rw [hr]
  have HC := Lib.hid hc
  have hbd := bad_yes hc
  clear hr hc
  go_enter Tryz.func164, Tryz.ntmps164
  have h0 := Lib.hid h
  have g0 := Lib.hid (gb_refl W (some G))
  clear h
  go_wp2_with fail
  refine (place_any h0.out).mono ?_; rintro e w1 ⟨rfl, hb⟩
  have h1 := Lib.hid (h0.out.below hb)
  have g1 := Lib.hid (gb_trans g0.out (gb_below (some G) hb))
  clear hb
  go_wp2_with fail
  refine (text_any h1.out).mono ?_; rintro e w2 ⟨rfl, hb⟩
  have h2 := Lib.hid (h1.out.below hb)
  have g2 := Lib.hid (gb_trans g1.out (gb_below (some G) hb))
  clear hb
  go_wp2_with fail
  refine (stop_any h2.out).mono ?_; rintro e w3 ⟨rfl, hb⟩
  have h3 := Lib.hid (h2.out.below hb)
  have g3 := Lib.hid (gb_trans g2.out (gb_below (some G) hb))
  clear hb
  go_wp2_with fail
  go_ret
  exact ⟨_, rfl, ⟨⟨_, h3.out⟩, g3.out⟩, got_nil none HC.out _⟩
set_option maxRecDepth 100000 in
set_option maxHeartbeats 4000000 in
theorem single_open (IH : ExprC n) (h : PS G E lv σ W) (hA : AllT σ.l) (hE : E ≤ 4000) (hc : σ.c = 0) (hd : deep ≤ 8) (hn : σ.l.length < n + 1) (ht : txt σ = ⟨#[40]⟩) : Calls Tryz.prog 164 #[.pointer (some ⟨G, 0, none⟩), .int .i64 (deep : Nat)] W (ExP G E (singleF E (fun d τ => exprF E n 1 d τ) deep σ) W) := by
  have hr : singleF E (fun d τ => exprF E n 1 d τ) deep σ = ((exprF E n 1 (deep + 1) (take E (if 8 ≤ deep then wrong σ 4 (pos E σ : Nat) else σ) ⟨#[40]⟩)).1, must E (exprF E n 1 (deep + 1) (take E (if 8 ≤ deep then wrong σ 4 (pos E σ : Nat) else σ) ⟨#[40]⟩)).2 ⟨#[41]⟩) := by
    unfold singleF; rw [if_neg (by simp [hc]), if_pos ht]
  rw [hr]
  obtain ⟨σ1, hs1⟩ : ∃ σ1, (if 8 ≤ deep then wrong σ 4 (pos E σ : Nat) else σ) = σ1 := ⟨_, rfl⟩
  rw [hs1]
  have hlt : (take E σ ⟨#[40]⟩).l.length < n := by
    unfold take; rw [if_pos ht]
    have := pass_lt (E := E) (σ := σ) (by rw [ht]; exact lp_ne)
    omega
  have h00 : Tm0 σ σ1 := by rw [← hs1]; exact ite_0 (wrong_0 _ _ _)
  have hpre : (take E σ1 ⟨#[40]⟩).c = 0 → deep + 1 ≤ 8 ∧ (take E σ1 ⟨#[40]⟩).l.length < n := by
    intro e
    by_cases h8 : 8 ≤ deep
    · rw [if_pos h8] at hs1
      have hw : σ1.c ≠ 0 := by rw [← hs1, wrong_c hc]; decide
      exact absurd e (by rw [(take_0 E σ1 _).2.2 hw]; exact hw)
    · rw [if_neg h8] at hs1
      subst hs1
      exact ⟨by omega, hlt⟩
  have HA := Lib.hid (((h00.trans (take_0 E σ1 ⟨#[40]⟩)).1 hA))
  have HX := Lib.hid (fun lv' w' (hp : PS G E lv' (take E σ1 ⟨#[40]⟩) w') => IH G E lv' _ w' 1 (deep + 1) hp HA.out hE (by omega) hpre (by omega))
  have HS1 := Lib.hid hs1
  have hbd := bad_no hc
  have HT := Lib.hid ht
  obtain ⟨d1, hd1⟩ : ∃ d1, deep + 1 = d1 := ⟨_, rfl⟩
  have dp : IntKind.i64.wrap ((deep : Int) + 1) = (d1 : Int) := by rw [IntKind.wrap_i64]; omega
  have dq : (deep : Int) + 1 = (d1 : Int) := by omega
  rw [hd1] at HX ⊢
  have HX : Hid (∀ lv' w', PS G E lv' (take E σ1 ⟨#[40]⟩) w' → Calls Tryz.prog 143 #[.pointer (some ⟨G, 0, none⟩), .int .i64 1, .int .i64 (d1 : Nat)] w' (ExP G E (exprF E n 1 d1 (take E σ1 ⟨#[40]⟩)) w')) := HX
  obtain ⟨r9, hr9⟩ : ∃ r, exprF E n 1 d1 (take E σ1 ⟨#[40]⟩) = r := ⟨_, rfl⟩
  rw [hr9] at HX ⊢
  clear hd1 hr9
  have e1 : ((txt σ).toList == [40]) = true := tl_yes (a := #[40]) ht
  clear hr hs1 hlt h00 hpre IH hc hn ht hA
  obtain ⟨s, hs⟩ : ∃ s, txt σ = s := ⟨_, rfl⟩
  rw [hs] at e1
  have HG := Lib.hid h.lt
  by_cases h8 : 8 ≤ deep
  · rw [if_pos h8] at HS1
    have d8 : (8 : Int) ≤ (deep : Int) := by omega
    obtain ⟨σw, hsw⟩ : ∃ x, wrong σ 4 (pos E σ : Nat) = x := ⟨_, rfl⟩
    obtain rfl : σw = σ1 := hsw.symm.trans HS1.out
    go_enter Tryz.func164, Tryz.ntmps164
    have h0 := Lib.hid h
    have g0 := Lib.hid (gb_refl W (some G))
    clear h
    go_wp2_with fail
    refine (place_any h0.out).mono ?_; rintro e w1 ⟨rfl, hb⟩
    have h1 := Lib.hid (h0.out.below hb)
    have g1 := Lib.hid (gb_trans g0.out (gb_below (some G) hb))
    clear hb
    go_wp2_with fail
    refine (text_any h1.out).mono ?_; rintro e w2 ⟨rfl, hb⟩
    rw [hs]
    have h2 := Lib.hid (h1.out.below hb)
    have g2 := Lib.hid (gb_trans g1.out (gb_below (some G) hb))
    clear hb
    go_wp2_with fail
    refine (stop_any h2.out).mono ?_; rintro e w3 ⟨rfl, hb⟩
    have h3 := Lib.hid (h2.out.below hb)
    have g3 := Lib.hid (gb_trans g2.out (gb_below (some G) hb))
    clear hb
    go_wp2_with fail
    refine (wrong_any h3.out _ _).mono ?_; rw [hsw]; rintro e w4 ⟨rfl, ⟨lv4, hp⟩, hg⟩
    have h4 := Lib.hid hp
    have g4 := Lib.hid (gb_trans g3.out hg)
    clear hp hg
    clear hsw
    go_wp2_with fail
    refine (take_any h4.out ⟨#[40]⟩).mono ?_; rintro e w5 ⟨rfl, ⟨lv5, hp⟩, hg⟩
    have h5 := Lib.hid hp
    have g5 := Lib.hid (gb_trans g4.out hg)
    clear hp hg
    have ho5 := Lib.hid (show W.heap.size ≤ w5.heap.size from g5.out.size)
    go_wp2_with fail
    refine (HX.out _ _ h5.out).mono ?_; rintro e w6 ⟨v, rfl, ⟨⟨lv6, hp⟩, hg⟩, ⟨p9, rfl⟩, hx⟩
    have h6 := Lib.hid hp
    have g6 := Lib.hid (gb_trans g5.out hg)
    have X9 := Lib.hid hx
    clear hp hg hx
    go_wp2_with fail
    refine (must_any h6.out ⟨#[41]⟩ rp_ne).mono ?_; rintro e w7 ⟨rfl, ⟨lv7, hp⟩, hg⟩
    have h7 := Lib.hid hp
    have g7 := Lib.hid (gb_trans g6.out hg)
    have G9 := Lib.hid hg
    clear hp hg
    go_wp2_with fail
    go_ret
    refine ⟨_, rfl, ⟨⟨_, h7.out⟩, g7.out⟩, ⟨p9, rfl⟩, fun e => ?_⟩
    have ec : r9.2.c = 0 := by
      by_cases hc : r9.2.c = 0
      · exact hc
      · have e2 := (must_0 E _ ⟨#[41]⟩).2.2 hc
        rw [e2] at e
        exact e
    obtain ⟨x, ex, hx⟩ := X9.out ec
    exact ⟨x, ex, (hx.grown G9.out (Nat.lt_of_lt_of_le HG.out ho5.out)).low ho5.out⟩
  · rw [if_neg h8] at HS1
    have d8 : ¬ (8 : Int) ≤ (deep : Int) := by omega
    obtain rfl := HS1.out
    go_enter Tryz.func164, Tryz.ntmps164
    have h0 := Lib.hid h
    have g0 := Lib.hid (gb_refl W (some G))
    clear h
    go_wp2_with fail
    refine (place_any h0.out).mono ?_; rintro e w1 ⟨rfl, hb⟩
    have h1 := Lib.hid (h0.out.below hb)
    have g1 := Lib.hid (gb_trans g0.out (gb_below (some G) hb))
    clear hb
    go_wp2_with fail
    refine (text_any h1.out).mono ?_; rintro e w2 ⟨rfl, hb⟩
    rw [hs]
    have h2 := Lib.hid (h1.out.below hb)
    have g2 := Lib.hid (gb_trans g1.out (gb_below (some G) hb))
    clear hb
    go_wp2_with fail
    refine (stop_any h2.out).mono ?_; rintro e w3 ⟨rfl, hb⟩
    have h3 := Lib.hid (h2.out.below hb)
    have g3 := Lib.hid (gb_trans g2.out (gb_below (some G) hb))
    clear hb
    go_wp2_with fail
    refine (take_any h3.out ⟨#[40]⟩).mono ?_; rintro e w4 ⟨rfl, ⟨lv4, hp⟩, hg⟩
    have h4 := Lib.hid hp
    have g4 := Lib.hid (gb_trans g3.out hg)
    clear hp hg
    have ho4 := Lib.hid (show W.heap.size ≤ w4.heap.size from g4.out.size)
    go_wp2_with fail
    refine (HX.out _ _ h4.out).mono ?_; rintro e w5 ⟨v, rfl, ⟨⟨lv5, hp⟩, hg⟩, ⟨p9, rfl⟩, hx⟩
    have h5 := Lib.hid hp
    have g5 := Lib.hid (gb_trans g4.out hg)
    have X9 := Lib.hid hx
    clear hp hg hx
    go_wp2_with fail
    refine (must_any h5.out ⟨#[41]⟩ rp_ne).mono ?_; rintro e w6 ⟨rfl, ⟨lv6, hp⟩, hg⟩
    have h6 := Lib.hid hp
    have g6 := Lib.hid (gb_trans g5.out hg)
    have G9 := Lib.hid hg
    clear hp hg
    go_wp2_with fail
    go_ret
    refine ⟨_, rfl, ⟨⟨_, h6.out⟩, g6.out⟩, ⟨p9, rfl⟩, fun e => ?_⟩
    have ec : r9.2.c = 0 := by
      by_cases hc : r9.2.c = 0
      · exact hc
      · have e2 := (must_0 E _ ⟨#[41]⟩).2.2 hc
        rw [e2] at e
        exact e
    obtain ⟨x, ex, hx⟩ := X9.out ec
    exact ⟨x, ex, (hx.grown G9.out (Nat.lt_of_lt_of_le HG.out ho4.out)).low ho4.out⟩
set_option maxRecDepth 100000 in
set_option maxHeartbeats 4000000 in
theorem single_name (rec : Nat → Ey → Pr) (h : PS G E lv σ W) (hA : AllT σ.l) (_hd : deep ≤ 8) (hc : σ.c = 0) (hp : txt σ ≠ ⟨#[40]⟩) (hn : isN (txt σ) = true) : Calls Tryz.prog 164 #[.pointer (some ⟨G, 0, none⟩), .int .i64 (deep : Nat)] W (ExP G E (singleF E rec deep σ) W) := by
  have hr : singleF E rec deep σ = (some (.nam (pos E σ) (txt σ)), pass E (if 12 < (txt σ).size then wrong σ 4 (pos E σ : Nat) else σ)) := by
    unfold singleF; rw [if_neg (by simp [hc]), if_neg hp, if_pos hn]
  rw [hr]
  have hbd := bad_no hc
  have e1 : ((txt σ).toList == [40]) = false := tl_no (a := #[40]) hp
  have HN := Lib.hid (docName_any (txt σ))
  rw [hn] at HN
  obtain ⟨σ1, hs1⟩ : ∃ σ1, (if 12 < (txt σ).size then wrong σ 4 (pos E σ : Nat) else σ) = σ1 := ⟨_, rfl⟩
  rw [hs1]
  have HS1 := Lib.hid hs1
  obtain ⟨s, hs⟩ : ∃ s, txt σ = s := ⟨_, rfl⟩
  rw [hs] at e1 HN HS1 ⊢
  have hsl : s.size ≤ 1000 := by rw [← hs]; exact txt_size hA
  have HC := Lib.hid hc
  clear hr hs1 hn hp hA hc
  by_cases h12 : 12 < s.size
  · rw [if_pos h12] at HS1
    have d12 : (12 : Int) < (s.size : Int) := by omega
    obtain ⟨σw, hsw⟩ : ∃ x, wrong σ 4 (pos E σ : Nat) = x := ⟨_, rfl⟩
    obtain rfl : σw = σ1 := hsw.symm.trans HS1.out
    go_enter Tryz.func164, Tryz.ntmps164
    have h0 := Lib.hid h
    have g0 := Lib.hid (gb_refl W (some G))
    clear h
    go_wp2_with fail
    refine (place_any h0.out).mono ?_; rintro e w1 ⟨rfl, hb⟩
    have h1 := Lib.hid (h0.out.below hb)
    have g1 := Lib.hid (gb_trans g0.out (gb_below (some G) hb))
    clear hb
    go_wp2_with fail
    refine (text_any h1.out).mono ?_; rintro e w2 ⟨rfl, hb⟩
    rw [hs]
    have h2 := Lib.hid (h1.out.below hb)
    have g2 := Lib.hid (gb_trans g1.out (gb_below (some G) hb))
    clear hb
    go_wp2_with fail
    refine (stop_any h2.out).mono ?_; rintro e w3 ⟨rfl, hb⟩
    have h3 := Lib.hid (h2.out.below hb)
    have g3 := Lib.hid (gb_trans g2.out (gb_below (some G) hb))
    clear hb
    go_wp2_with fail
    refine (HN.out _).mono ?_; rintro e w4 ⟨rfl, rfl⟩
    go_wp2_with fail
    refine (wrong_any h3.out _ _).mono ?_; rw [hsw]; rintro e w5 ⟨rfl, ⟨lv5, hp⟩, hg⟩
    have h5 := Lib.hid hp
    have g5 := Lib.hid (gb_trans g3.out hg)
    clear hp hg
    clear hsw
    go_wp2_with fail
    refine (pass_any h5.out).mono ?_; rintro e w6 ⟨rfl, ⟨lv6, hp⟩, hg⟩
    have h6 := Lib.hid hp
    have g6 := Lib.hid (gb_trans g5.out hg)
    clear hp hg
    go_wp2_with fail
    go_ret
    refine ⟨_, rfl, ⟨⟨_, h6.out.below ((Below.refl _ _).alloc (Nat.le_refl _) _)⟩, gb_trans g6.out (gb_below (some G) ((Below.refl _ _).alloc (Nat.le_refl _) _))⟩, ⟨_, rfl⟩, fun _ => ⟨_, rfl, exF_nam g6.out.size _ _⟩⟩
  · rw [if_neg h12] at HS1
    have d12 : ¬ (12 : Int) < (s.size : Int) := by omega
    obtain rfl := HS1.out
    go_enter Tryz.func164, Tryz.ntmps164
    have h0 := Lib.hid h
    have g0 := Lib.hid (gb_refl W (some G))
    clear h
    go_wp2_with fail
    refine (place_any h0.out).mono ?_; rintro e w1 ⟨rfl, hb⟩
    have h1 := Lib.hid (h0.out.below hb)
    have g1 := Lib.hid (gb_trans g0.out (gb_below (some G) hb))
    clear hb
    go_wp2_with fail
    refine (text_any h1.out).mono ?_; rintro e w2 ⟨rfl, hb⟩
    rw [hs]
    have h2 := Lib.hid (h1.out.below hb)
    have g2 := Lib.hid (gb_trans g1.out (gb_below (some G) hb))
    clear hb
    go_wp2_with fail
    refine (stop_any h2.out).mono ?_; rintro e w3 ⟨rfl, hb⟩
    have h3 := Lib.hid (h2.out.below hb)
    have g3 := Lib.hid (gb_trans g2.out (gb_below (some G) hb))
    clear hb
    go_wp2_with fail
    refine (HN.out _).mono ?_; rintro e w4 ⟨rfl, rfl⟩
    go_wp2_with fail
    refine (pass_any h3.out).mono ?_; rintro e w4 ⟨rfl, ⟨lv4, hp⟩, hg⟩
    have h4 := Lib.hid hp
    have g4 := Lib.hid (gb_trans g3.out hg)
    clear hp hg
    go_wp2_with fail
    go_ret
    refine ⟨_, rfl, ⟨⟨_, h4.out.below ((Below.refl _ _).alloc (Nat.le_refl _) _)⟩, gb_trans g4.out (gb_below (some G) ((Below.refl _ _).alloc (Nat.le_refl _) _))⟩, ⟨_, rfl⟩, fun _ => ⟨_, rfl, exF_nam g4.out.size _ _⟩⟩
set_option maxRecDepth 100000 in
set_option maxHeartbeats 4000000 in
theorem single_num (rec : Nat → Ey → Pr) (h : PS G E lv σ W) (hA : AllT σ.l) (_hd : deep ≤ 8) (hc : σ.c = 0) (hp : txt σ ≠ ⟨#[40]⟩) (hn : isN (txt σ) = false) (hd2 : isD (txt σ) = true) : Calls Tryz.prog 164 #[.pointer (some ⟨G, 0, none⟩), .int .i64 (deep : Nat)] W (ExP G E (singleF E rec deep σ) W) := by
  have hr : singleF E rec deep σ = (some (.num (pos E σ) (numV (txt σ))), pass E (if numE (txt σ) ≠ 0 then wrong σ (numE (txt σ)) (pos E σ : Nat) else σ)) := by
    unfold singleF; rw [if_neg (by simp [hc]), if_neg hp, if_neg (by rw [hn]; decide), if_pos hd2]
  rw [hr]
  have hbd := bad_no hc
  have e1 : ((txt σ).toList == [40]) = false := tl_no (a := #[40]) hp
  have HN := Lib.hid (docName_any (txt σ))
  rw [hn] at HN
  obtain ⟨σ1, hs1⟩ : ∃ σ1, (if numE (txt σ) ≠ 0 then wrong σ (numE (txt σ)) (pos E σ : Nat) else σ) = σ1 := ⟨_, rfl⟩
  rw [hs1]
  have HS1 := Lib.hid hs1
  have hsl0 : (txt σ).size ≤ 1000 := txt_size hA
  have hs0 : 0 < (txt σ).size := by
    rcases Nat.eq_zero_or_pos (txt σ).size with e | e
    · rw [isD_none (by omega)] at hd2; cases hd2
    · exact e
  have HD := Lib.hid (docDigit_any (txt σ)[0])
  rw [← isD_at hs0, hd2] at HD
  have HU := Lib.hid (docNumber_any (txt σ) hsl0)
  rw [show (nv (nneg (txt σ)) (pv (nu (nt (txt σ))) (nb (nt (txt σ)))) (pe (nu (nt (txt σ))) (nb (nt (txt σ))))) = numV (txt σ) from rfl, show (ne (nneg (txt σ)) (pv (nu (nt (txt σ))) (nb (nt (txt σ)))) (pe (nu (nt (txt σ))) (nb (nt (txt σ))))) = numE (txt σ) from rfl] at HU
  have t2 := str_full (txt σ) hs0
  have i0 : (0 : Int) < ((txt σ).size : Int) := by omega
  generalize numV (txt σ) = nV at *
  obtain ⟨nE, hnE⟩ : ∃ x, numE (txt σ) = x := ⟨_, rfl⟩
  rw [hnE] at HS1 HU
  obtain ⟨s, hs⟩ : ∃ s, txt σ = s := ⟨_, rfl⟩
  have e2 : (s.toList == []) = false := by rw [beq_eq_false_iff_ne]; intro e; rw [hs, e] at t2; cases t2
  simp only [hs] at e1 HN HS1 HU HD t2 i0
  have HC := Lib.hid hc
  clear hr hs1 hn hp hA hc hsl0 hd2 hnE
  by_cases h12 : nE ≠ 0
  · rw [if_pos h12] at HS1
    have d12 : (nE != 0) = true := by rw [bne_iff_ne]; exact h12
    have d13 : (nE == 0) = false := by rw [beq_eq_false_iff_ne]; exact h12
    obtain ⟨σw, hsw⟩ : ∃ x, wrong σ nE (pos E σ : Nat) = x := ⟨_, rfl⟩
    obtain rfl : σw = σ1 := hsw.symm.trans HS1.out
    clear h12
    go_enter Tryz.func164, Tryz.ntmps164
    have h0 := Lib.hid h
    have g0 := Lib.hid (gb_refl W (some G))
    clear h
    go_wp2_with fail
    refine (place_any h0.out).mono ?_; rintro e w1 ⟨rfl, hb⟩
    have h1 := Lib.hid (h0.out.below hb)
    have g1 := Lib.hid (gb_trans g0.out (gb_below (some G) hb))
    clear hb
    go_wp2_with fail
    refine (text_any h1.out).mono ?_; rintro e w2 ⟨rfl, hb⟩
    rw [hs]
    have h2 := Lib.hid (h1.out.below hb)
    have g2 := Lib.hid (gb_trans g1.out (gb_below (some G) hb))
    clear hb
    go_wp2_with fail
    refine (stop_any h2.out).mono ?_; rintro e w3 ⟨rfl, hb⟩
    have h3 := Lib.hid (h2.out.below hb)
    have g3 := Lib.hid (gb_trans g2.out (gb_below (some G) hb))
    clear hb
    go_wp2_with fail
    refine (HN.out _).mono ?_; rintro e w4 ⟨rfl, rfl⟩
    go_wp2_with fail
    refine (HD.out _).mono ?_; rintro e w4 ⟨rfl, rfl⟩
    go_wp2_with fail
    refine (HU.out _).mono ?_; rintro e w6 ⟨rfl, hb⟩
    have h6 := Lib.hid (h3.out.below hb)
    have g6 := Lib.hid (gb_trans g3.out (gb_below (some G) hb))
    clear hb
    go_wp2_with fail
    refine (wrong_any h6.out _ _).mono ?_; rw [hsw]; rintro e w7 ⟨rfl, ⟨lv7, hp⟩, hg⟩
    have h7 := Lib.hid hp
    have g7 := Lib.hid (gb_trans g6.out hg)
    clear hp hg
    clear hsw
    go_wp2_with fail
    refine (pass_any h7.out).mono ?_; rintro e w8 ⟨rfl, ⟨lv8, hp⟩, hg⟩
    have h8 := Lib.hid hp
    have g8 := Lib.hid (gb_trans g7.out hg)
    clear hp hg
    go_wp2_with fail
    go_ret
    refine ⟨_, rfl, ⟨⟨_, h8.out.below ((Below.refl _ _).alloc (Nat.le_refl _) _)⟩, gb_trans g8.out (gb_below (some G) ((Below.refl _ _).alloc (Nat.le_refl _) _))⟩, ⟨_, rfl⟩, fun _ => ⟨_, rfl, exF_num g8.out.size _ _⟩⟩
  · rw [if_neg h12] at HS1
    obtain rfl : nE = 0 := by omega
    obtain rfl := HS1.out
    clear h12
    go_enter Tryz.func164, Tryz.ntmps164
    have h0 := Lib.hid h
    have g0 := Lib.hid (gb_refl W (some G))
    clear h
    go_wp2_with fail
    refine (place_any h0.out).mono ?_; rintro e w1 ⟨rfl, hb⟩
    have h1 := Lib.hid (h0.out.below hb)
    have g1 := Lib.hid (gb_trans g0.out (gb_below (some G) hb))
    clear hb
    go_wp2_with fail
    refine (text_any h1.out).mono ?_; rintro e w2 ⟨rfl, hb⟩
    rw [hs]
    have h2 := Lib.hid (h1.out.below hb)
    have g2 := Lib.hid (gb_trans g1.out (gb_below (some G) hb))
    clear hb
    go_wp2_with fail
    refine (stop_any h2.out).mono ?_; rintro e w3 ⟨rfl, hb⟩
    have h3 := Lib.hid (h2.out.below hb)
    have g3 := Lib.hid (gb_trans g2.out (gb_below (some G) hb))
    clear hb
    go_wp2_with fail
    refine (HN.out _).mono ?_; rintro e w4 ⟨rfl, rfl⟩
    go_wp2_with fail
    refine (HD.out _).mono ?_; rintro e w4 ⟨rfl, rfl⟩
    go_wp2_with fail
    refine (HU.out _).mono ?_; rintro e w6 ⟨rfl, hb⟩
    have h6 := Lib.hid (h3.out.below hb)
    have g6 := Lib.hid (gb_trans g3.out (gb_below (some G) hb))
    clear hb
    go_wp2_with fail
    refine (pass_any h6.out).mono ?_; rintro e w7 ⟨rfl, ⟨lv7, hp⟩, hg⟩
    have h7 := Lib.hid hp
    have g7 := Lib.hid (gb_trans g6.out hg)
    clear hp hg
    go_wp2_with fail
    go_ret
    refine ⟨_, rfl, ⟨⟨_, h7.out.below ((Below.refl _ _).alloc (Nat.le_refl _) _)⟩, gb_trans g7.out (gb_below (some G) ((Below.refl _ _).alloc (Nat.le_refl _) _))⟩, ⟨_, rfl⟩, fun _ => ⟨_, rfl, exF_num g7.out.size _ _⟩⟩
set_option maxRecDepth 100000 in
set_option maxHeartbeats 4000000 in
theorem single_bad (rec : Nat → Ey → Pr) (h : PS G E lv σ W) (_hA : AllT σ.l) (_hd : deep ≤ 8) (hc : σ.c = 0) (hp : txt σ ≠ ⟨#[40]⟩) (hn : isN (txt σ) = false) (hd2 : isD (txt σ) = false) : Calls Tryz.prog 164 #[.pointer (some ⟨G, 0, none⟩), .int .i64 (deep : Nat)] W (ExP G E (singleF E rec deep σ) W) := by
  have hr : singleF E rec deep σ = (none, wrong σ 3 (pos E σ : Nat)) := by
    unfold singleF; rw [if_neg (by simp [hc]), if_neg hp, if_neg (by rw [hn]; decide), if_neg (by rw [hd2]; decide)]
  rw [hr]
  have hbd := bad_no hc
  have e1 : ((txt σ).toList == [40]) = false := tl_no (a := #[40]) hp
  have HN := Lib.hid (docName_any (txt σ))
  rw [hn] at HN
  have hw := wrong_c hc 3 (pos E σ : Nat)
  have HW := Lib.hid (show (wrong σ 3 (pos E σ : Nat)).c ≠ 0 by rw [hw]; decide)
  by_cases hs0 : 0 < (txt σ).size
  · have HD := Lib.hid (docDigit_any (txt σ)[0])
    rw [← isD_at hs0, hd2] at HD
    have t2 := str_full (txt σ) hs0
    have i0 : (0 : Int) < ((txt σ).size : Int) := by omega
    obtain ⟨s, hs⟩ : ∃ s, txt σ = s := ⟨_, rfl⟩
    have e2 : (s.toList == []) = false := by rw [beq_eq_false_iff_ne]; intro e; rw [hs, e] at t2; cases t2
    simp only [hs] at e1 HN HD t2 i0
    have HC := Lib.hid hc
    clear hr hn hp _hA hc hd2 hw
    go_enter Tryz.func164, Tryz.ntmps164
    have h0 := Lib.hid h
    have g0 := Lib.hid (gb_refl W (some G))
    clear h
    go_wp2_with fail
    refine (place_any h0.out).mono ?_; rintro e w1 ⟨rfl, hb⟩
    have h1 := Lib.hid (h0.out.below hb)
    have g1 := Lib.hid (gb_trans g0.out (gb_below (some G) hb))
    clear hb
    go_wp2_with fail
    refine (text_any h1.out).mono ?_; rintro e w2 ⟨rfl, hb⟩
    rw [hs]
    have h2 := Lib.hid (h1.out.below hb)
    have g2 := Lib.hid (gb_trans g1.out (gb_below (some G) hb))
    clear hb
    go_wp2_with fail
    refine (stop_any h2.out).mono ?_; rintro e w3 ⟨rfl, hb⟩
    have h3 := Lib.hid (h2.out.below hb)
    have g3 := Lib.hid (gb_trans g2.out (gb_below (some G) hb))
    clear hb
    go_wp2_with fail
    refine (HN.out _).mono ?_; rintro e w4 ⟨rfl, rfl⟩
    go_wp2_with fail
    refine (HD.out _).mono ?_; rintro e w4 ⟨rfl, rfl⟩
    go_wp2_with fail
    refine (wrong_any h3.out _ _).mono ?_; rintro e w5 ⟨rfl, ⟨lv5, hp⟩, hg⟩
    have h5 := Lib.hid hp
    have g5 := Lib.hid (gb_trans g3.out hg)
    clear hp hg
    go_wp2_with fail
    go_ret
    exact ⟨_, rfl, ⟨⟨_, h5.out⟩, g5.out⟩, got_nil none HW.out _⟩
  · have hse : txt σ = emp := emp_iff.2 (by omega)
    have HC := Lib.hid hc
    have HN2 := Lib.hid (show ∀ w, Calls Tryz.prog 108 #[.string ⟨#[]⟩] w fun e w' => e = .returned (.bool false) ∧ w = w' from by have := HN.out; rw [hse] at this; exact this)
    have hs : txt σ = ⟨#[]⟩ := hse
    clear hr hn hp _hA hc hs0 hd2 hw hse HN e1
    go_enter Tryz.func164, Tryz.ntmps164
    have h0 := Lib.hid h
    have g0 := Lib.hid (gb_refl W (some G))
    clear h
    go_wp2_with fail
    refine (place_any h0.out).mono ?_; rintro e w1 ⟨rfl, hb⟩
    have h1 := Lib.hid (h0.out.below hb)
    have g1 := Lib.hid (gb_trans g0.out (gb_below (some G) hb))
    clear hb
    go_wp2_with fail
    refine (text_any h1.out).mono ?_; rintro e w2 ⟨rfl, hb⟩
    rw [hs]
    have h2 := Lib.hid (h1.out.below hb)
    have g2 := Lib.hid (gb_trans g1.out (gb_below (some G) hb))
    clear hb
    go_wp2_with fail
    refine (stop_any h2.out).mono ?_; rintro e w3 ⟨rfl, hb⟩
    have h3 := Lib.hid (h2.out.below hb)
    have g3 := Lib.hid (gb_trans g2.out (gb_below (some G) hb))
    clear hb
    go_wp2_with fail
    refine (HN2.out _).mono ?_; rintro e w4 ⟨rfl, rfl⟩
    go_wp2_with fail
    refine (wrong_any h3.out _ _).mono ?_; rintro e w5 ⟨rfl, ⟨lv5, hp⟩, hg⟩
    have h5 := Lib.hid hp
    have g5 := Lib.hid (gb_trans g3.out hg)
    clear hp hg
    go_wp2_with fail
    go_ret
    exact ⟨_, rfl, ⟨⟨_, h5.out⟩, g5.out⟩, got_nil none HW.out _⟩
theorem single_any (IH : ExprC n) (h : PS G E lv σ W) (hA : AllT σ.l) (hE : E ≤ 4000) (hn : σ.c = 0 → deep ≤ 8 ∧ σ.l.length < n + 1) : Calls Tryz.prog 164 #[.pointer (some ⟨G, 0, none⟩), .int .i64 (deep : Nat)] W (ExP G E (singleF E (fun d τ => exprF E n 1 d τ) deep σ) W) := by
  by_cases hc : σ.c = 0
  · obtain ⟨hd8, hl⟩ := hn hc
    by_cases hp : txt σ = ⟨#[40]⟩
    · exact single_open IH h hA hE hc hd8 hl hp
    · cases hN : isN (txt σ)
      · cases hD : isD (txt σ)
        · exact single_bad _ h hA hd8 hc hp hN hD
        · exact single_num _ h hA hd8 hc hp hN hD
      · exact single_name _ h hA hd8 hc hp hN
  · exact single_stop h hc _
end
end Go.Proofs.YtkopjmofdnlplaaGreatDoor.Tm
namespace Go.Proofs.YtkopjmofdnlplaaGreatDoor.Tm
open Go.RowKit Go.Proofs.YtkopjmofdnlplaaGreatDoor.Lex Go.Proofs.YtkopjmofdnlplaaGreatDoor.Dig
def lenAt (G : Nat) (w : World) : Nat := match w.cell? ⟨G, 0, none⟩ with | some (.slice _ n _) => n | _ => 0
theorem lenAt_ps {G E : Nat} {lv : Value} {σ : Ey} {w : World} (h : PS G E lv σ w) : lenAt G w = σ.l.length := by
  obtain ⟨a, c, e, _⟩ := h.cap
  unfold lenAt
  rw [h.c0, e]
theorem loopF_stop {E : Nat} {rec : Nat → Ey → Pr} {least : Nat} (m : Nat) (x : Option Ex) {σ : Ey} (h : ¬ (σ.c = 0 ∧ least ≤ hold (txt σ) ∧ 0 < hold (txt σ))) : loopF E rec least m x σ = (x, σ) := by
  cases m with
  | zero => rfl
  | succ m => unfold loopF; rw [if_neg h]
theorem exprF_stop {E : Nat} (n least deep : Nat) {σ : Ey} (h : σ.c ≠ 0) : exprF E n least deep σ = (none, σ) := by
  cases n with
  | zero => rfl
  | succ n =>
    unfold exprF
    have e : singleF E (fun d τ => exprF E n 1 d τ) deep σ = (none, σ) := if_pos h
    simp only [e]
    exact loopF_stop _ _ (fun q => h q.1)
theorem binO_some (k : Nat) (op : ByteArray) (x y : Ex) : binO k op (some x) (some y) = some (.bin k op x y) := rfl
theorem hold_le (s : ByteArray) : hold s ≤ 3 := by unfold hold; (repeat' split) <;> omega
def LpR (G E n deep least : Nat) (R : Pr) (W : World) (v : Value) (wr : World) : Prop := ∃ (m : Nat) (x : Option Ex) (τ : Ey) (lv : Value) (p : Option Addr), v = .pointer p ∧ Hid (loopF E (fun l τ => exprF E n l deep τ) least m x τ = R) ∧ Hid (τ.l.length ≤ m) ∧ Hid (PS G E lv τ wr) ∧ Hid (W.grownBy wr (some G)) ∧ Hid (τ.c = 0 → ∃ y, x = some y ∧ ExF W.heap.size wr y (.pointer p)) ∧ Hid (AllT τ.l) ∧ Hid (τ.c = 0 → deep ≤ 8 ∧ τ.l.length < n + 1)
section
variable {n G E : Nat} {lv : Value} {σ : Ey} {W : World} {deep least : Nat}
set_option maxRecDepth 100000 in
set_option maxHeartbeats 4000000 in
theorem expr_stop (h : PS G E lv σ W) (hc : σ.c ≠ 0) (n : Nat) : Calls Tryz.prog 143 #[.pointer (some ⟨G, 0, none⟩), .int .i64 (least : Nat), .int .i64 (deep : Nat)] W (ExP G E (exprF E n least deep σ) W) := by
  rw [exprF_stop n least deep hc]
  have hr : singleF E (fun _ τ => (none, τ)) deep σ = (none, σ) := if_pos hc
  have C := Lib.hid (single_stop (deep := deep) h hc (fun _ τ => (none, τ)))
  rw [hr] at C
  have HC := Lib.hid hc
  have hbd := bad_yes hc
  clear hr hc h
  go_enter Tryz.func143, Tryz.ntmps143
  go_wp2_with fail
  refine (C.out).mono ?_; rintro e w1 ⟨v, rfl, ⟨⟨lv1, hp⟩, hg⟩, ⟨p, rfl⟩, -⟩
  have h1 := Lib.hid hp
  have g1 := Lib.hid hg
  clear hp hg C
  go_wp2_with fail
  go_loopw [7] (fun v wr => v = .pointer p ∧ Hid (PS G E lv1 σ wr) ∧ Hid (W.grownBy wr (some G))) (fun _ _ => 0)
  case atStart => exact ⟨rfl, h1, g1⟩
  case round =>
    obtain ⟨rfl, h2, g2⟩ := hrel
    clear h1 g1
    go_wp2_with fail
    refine (stop_any h2.out).mono ?_; rintro e w3 ⟨rfl, hb⟩
    have h3 := Lib.hid (h2.out.below hb)
    have g3 := Lib.hid (gb_trans g2.out (gb_below (some G) hb))
    clear hb
    go_wp2_with fail
    go_ret
    exact ⟨_, rfl, ⟨⟨_, h3.out⟩, g3.out⟩, got_nil p HC.out _⟩
set_option maxRecDepth 100000 in
set_option maxHeartbeats 4000000 in
theorem expr_ok : ∀ n, ExprC n := by
  intro n
  induction n with
  | zero =>
    intro G E lv σ W least deep h _ _ _ hn _
    exact expr_stop h (fun hc => absurd (hn hc).2 (Nat.not_lt_zero _)) 0
  | succ n IH =>
    intro G E lv σ W least deep h hA hE hd hn hl4
    by_cases hc : σ.c = 0
    · have C := Lib.hid (single_any (deep := deep) IH h hA hE hn)
      have hf := show exprF E (n + 1) least deep σ = loopF E (fun l τ => exprF E n l deep τ) least (singleF E (fun d τ => exprF E n 1 d τ) deep σ).2.l.length (singleF E (fun d τ => exprF E n 1 d τ) deep σ).1 (singleF E (fun d τ => exprF E n 1 d τ) deep σ).2 from rfl
      have h0 := single_0 (E := E) (rec := fun d τ => exprF E n 1 d τ) (fun d τ => expr_0 E n 1 d τ) deep σ
      obtain ⟨hd8, hln⟩ := hn hc
      obtain ⟨R, hR⟩ : ∃ R, exprF E (n + 1) least deep σ = R := ⟨_, rfl⟩
      rw [hR] at hf ⊢
      have HG := Lib.hid h.lt
      generalize singleF E (fun d τ => exprF E n 1 d τ) deep σ = s at *
      obtain ⟨x0, σ0⟩ := s
      have HF := Lib.hid hf
      have HA0 := Lib.hid (h0.1 hA)
      have HL0 := Lib.hid (show σ0.l.length < n + 1 from Nat.lt_of_le_of_lt h0.2.1 hln)
      have HI := Lib.hid IH
      clear hf h0 hR h hA hc hn hln IH
      go_enter Tryz.func143, Tryz.ntmps143
      go_wp2_with fail
      refine (C.out).mono ?_; rintro e w1 ⟨v, rfl, ⟨⟨lv1, hp⟩, hg⟩, ⟨p, rfl⟩, hx⟩
      have h1 := Lib.hid hp
      have g1 := Lib.hid hg
      have X1 := Lib.hid hx
      clear hp hg C hx
      go_wp2_with fail
      go_loopw [7] (fun v wr => LpR G E n deep least R W v wr) (fun _ wr => lenAt G wr)
      case atStart => exact ⟨σ0.l.length, x0, σ0, lv1, p, rfl, Lib.hid HF.out.symm, Lib.hid (Nat.le_refl _), h1, g1, X1, HA0, Lib.hid fun _ => ⟨hd8, HL0.out⟩⟩
      case round =>
        clear h1 g1 X1 HF HA0 HL0
        obtain ⟨m, x, τ, lv2, q, rfl, hF, hm, h2, g2, X2, hA2, hN2⟩ := hrel
        obtain ⟨s, hs⟩ : ∃ s, txt τ = s := ⟨_, rfl⟩
        obtain ⟨hv, hhv⟩ : ∃ k, hold s = k := ⟨_, rfl⟩
        have HS := Lib.hid hs
        have HV := Lib.hid hhv
        have hv3 : hv ≤ 3 := by rw [← hhv]; exact hold_le s
        by_cases hc : τ.c = 0
        · have hbd := bad_no hc
          by_cases h5 : least ≤ hv
          · by_cases h6 : 0 < hv
            · have d5 : (least : Int) ≤ (hv : Int) := by omega
              have d6 : (0 : Int) < (hv : Int) := by omega
              have hse : txt τ ≠ emp := by intro e; rw [hs] at e; subst e; rw [hold_emp] at hhv; omega
              have hpl := pass_lt (E := E) hse
              obtain ⟨hd8', hl2⟩ := hN2.out hc
              have hm1 := hm.out
              obtain ⟨m', rfl⟩ : ∃ m', m = m' + 1 := ⟨m - 1, by omega⟩
              have hF2 := hF.out
              unfold loopF at hF2
              rw [if_pos ⟨hc, by rw [hs, hhv]; exact h5, by rw [hs, hhv]; exact h6⟩] at hF2
              simp only [hs, hhv] at hF2
              have HF2 := Lib.hid hF2
              have h00 := (pass_0 E τ).trans (expr_0 E n (hv + 1) deep (pass E τ))
              have HA3 := Lib.hid (h00.1 hA2.out)
              clear h00
              have HAp := (pass_0 E τ).1 hA2.out
              have HL3 := Lib.hid (show (exprF E n (hv + 1) deep (pass E τ)).2.l.length ≤ m' from by have := (expr_0 E n (hv + 1) deep (pass E τ)).2.1; omega)
              have HL4 := Lib.hid (show (exprF E n (hv + 1) deep (pass E τ)).2.l.length < lenAt G wr from by rw [lenAt_ps h2.out]; have := (expr_0 E n (hv + 1) deep (pass E τ)).2.1; omega)
              have HL5 := Lib.hid (show (exprF E n (hv + 1) deep (pass E τ)).2.l.length < n + 1 from by have := (expr_0 E n (hv + 1) deep (pass E τ)).2.1; omega)
              have HX := Lib.hid (fun lv' w' (hp : PS G E lv' (pass E τ) w') => HI.out G E lv' _ w' (hv + 1) deep hp HAp hE hd (fun _ => ⟨hd8', by omega⟩) (by omega))
              obtain ⟨y, ey, hy⟩ := X2.out hc
              subst ey
              have HY := Lib.hid hy
              obtain ⟨h1v, hh1⟩ : ∃ k, hv + 1 = k := ⟨_, rfl⟩
              have dp : IntKind.i64.wrap ((hv : Int) + 1) = (h1v : Int) := by rw [IntKind.wrap_i64]; omega
              have dq : (hv : Int) + 1 = (h1v : Int) := by omega
              rw [hh1] at HX HL3 HL4 HL5 HA3 HF2
              clear hh1
              obtain ⟨r, hr⟩ : ∃ r, exprF E n h1v deep (pass E τ) = r := ⟨_, rfl⟩
              rw [hr] at HX HL3 HL4 HL5 HA3 HF2
              clear hr hF hm hN2 X2 hF2 HAp hy hpl hse hl2 hm1 hc hA2 hhv hs
              have g0 := Lib.hid (gb_refl wr (some G))
              go_wp2_with fail
              refine (stop_any h2.out).mono ?_; rintro e w3 ⟨rfl, hb⟩
              have h3 := Lib.hid (h2.out.below hb)
              have g3 := Lib.hid (gb_trans g0.out (gb_below (some G) hb))
              clear hb
              go_wp2_with fail
              refine (text_any h3.out).mono ?_; rintro e w4 ⟨rfl, hb⟩
              rw [HS.out]
              have h4 := Lib.hid (h3.out.below hb)
              have g4 := Lib.hid (gb_trans g3.out (gb_below (some G) hb))
              clear hb
              go_wp2_with fail
              refine (hold_any s _).mono ?_; rintro e wz ⟨rfl, rfl⟩
              rw [HV.out]
              go_wp2_with fail
              refine (text_any h4.out).mono ?_; rintro e w5 ⟨rfl, hb⟩
              rw [HS.out]
              have h5 := Lib.hid (h4.out.below hb)
              have g5 := Lib.hid (gb_trans g4.out (gb_below (some G) hb))
              clear hb
              go_wp2_with fail
              refine (hold_any s _).mono ?_; rintro e wz ⟨rfl, rfl⟩
              rw [HV.out]
              go_wp2_with fail
              refine (place_any h5.out).mono ?_; rintro e w6 ⟨rfl, hb⟩
              have h6 := Lib.hid (h5.out.below hb)
              have g6 := Lib.hid (gb_trans g5.out (gb_below (some G) hb))
              clear hb
              go_wp2_with fail
              refine (text_any h6.out).mono ?_; rintro e w7 ⟨rfl, hb⟩
              rw [HS.out]
              have h7 := Lib.hid (h6.out.below hb)
              have g7 := Lib.hid (gb_trans g6.out (gb_below (some G) hb))
              clear hb
              go_wp2_with fail
              refine (pass_any h7.out).mono ?_; rintro e w8 ⟨rfl, ⟨lv8, hp⟩, hg⟩
              have h8 := Lib.hid hp
              have g8 := Lib.hid (gb_trans g7.out hg)
              clear hp hg
              go_wp2_with fail
              refine (hold_any s _).mono ?_; rintro e wz ⟨rfl, rfl⟩
              rw [HV.out]
              go_wp2_with fail
              refine (HX.out _ _ h8.out).mono ?_; rintro e w9 ⟨v9, rfl, ⟨⟨lv9, hp⟩, hg⟩, ⟨p9, rfl⟩, hx⟩
              have h9 := Lib.hid hp
              have g9 := Lib.hid (gb_trans g8.out hg)
              have s8 := Lib.hid (Nat.le_trans g2.out.size g8.out.size)
              have X9 := Lib.hid hx
              clear hp hg hx
              go_wp2_with fail
              have hbx := (Below.refl w9.heap.size w9).alloc (Nat.le_refl _) (exCells 3 (pos E τ) 0 emp s (.pointer q) (.pointer p9))
              have HP := Lib.hid (h9.out.below hbx)
              have HGB := Lib.hid (gb_trans g2.out (gb_trans g9.out (gb_below (some G) hbx)))
              have HE := Lib.hid (show r.2.c = 0 → ∃ z, binO (pos E τ) s (some y) r.1 = some z ∧ ExF W.heap.size (w9.alloc (exCells 3 (pos E τ) 0 emp s (.pointer q) (.pointer p9))) z (.pointer (some ⟨w9.heap.size, 0, none⟩)) from fun ec => by
                obtain ⟨x9, e9, hx9⟩ := X9.out ec
                exact ⟨_, by rw [e9]; rfl, exF_bin (Nat.le_trans g2.out.size g9.out.size) _ _ (HY.out.grown g9.out HG.out) (ExF.low hx9 s8.out)⟩)
              have HN := Lib.hid (show r.2.c = 0 → deep ≤ 8 ∧ r.2.l.length < n + 1 from fun _ => ⟨hd8', HL5.out⟩)
              have HM := Lib.hid (lenAt_ps HP.out)
              clear hbx
              go_roundw
              case rel => first | exact ⟨m', _, r.2, lv9, _, rfl, HF2, HL3, HP, HGB, HE, HA3, HN⟩ | ((repeat apply Exists.intro); exact ⟨⟨m', _, r.2, lv9, _, rfl, HF2, HL3, HP, HGB, HE, HA3, HN⟩, rfl⟩)
              case measure =>
                have hL := HL4.out
                rw [← HM.out] at hL
                exact hL
            · have d5 : (least : Int) ≤ (hv : Int) := by omega
              have d6 : ¬ (0 : Int) < (hv : Int) := by omega
              have HR := Lib.hid (show (x, τ) = R by rw [← hF.out]; exact (loopF_stop m x (fun e => by rw [hs, hhv] at e; omega)).symm)
              clear hF hm hN2 hc hA2 hhv hs
              have g0 := Lib.hid (gb_refl wr (some G))
              go_wp2_with fail
              refine (stop_any h2.out).mono ?_; rintro e w3 ⟨rfl, hb⟩
              have h3 := Lib.hid (h2.out.below hb)
              have g3 := Lib.hid (gb_trans g0.out (gb_below (some G) hb))
              clear hb
              go_wp2_with fail
              refine (text_any h3.out).mono ?_; rintro e w4 ⟨rfl, hb⟩
              rw [HS.out]
              have h4 := Lib.hid (h3.out.below hb)
              have g4 := Lib.hid (gb_trans g3.out (gb_below (some G) hb))
              clear hb
              go_wp2_with fail
              refine (hold_any s _).mono ?_; rintro e wz ⟨rfl, rfl⟩
              rw [HV.out]
              go_wp2_with fail
              refine (text_any h4.out).mono ?_; rintro e w5 ⟨rfl, hb⟩
              rw [HS.out]
              have h5 := Lib.hid (h4.out.below hb)
              have g5 := Lib.hid (gb_trans g4.out (gb_below (some G) hb))
              clear hb
              go_wp2_with fail
              refine (hold_any s _).mono ?_; rintro e wz ⟨rfl, rfl⟩
              rw [HV.out]
              go_wp2_with fail
              go_ret
              refine ⟨_, rfl, ?_⟩
              rw [← HR.out]
              exact ⟨⟨⟨_, h5.out⟩, gb_trans g2.out g5.out⟩, ⟨_, rfl⟩, fun ec => by
                obtain ⟨y, ey, hy⟩ := X2.out ec
                exact ⟨y, ey, hy.grown g5.out HG.out⟩⟩
          · have d5 : ¬ (least : Int) ≤ (hv : Int) := by omega
            have HR := Lib.hid (show (x, τ) = R by rw [← hF.out]; exact (loopF_stop m x (fun e => by rw [hs, hhv] at e; omega)).symm)
            clear hF hm hN2 hc hA2 hhv hs
            have g0 := Lib.hid (gb_refl wr (some G))
            go_wp2_with fail
            refine (stop_any h2.out).mono ?_; rintro e w3 ⟨rfl, hb⟩
            have h3 := Lib.hid (h2.out.below hb)
            have g3 := Lib.hid (gb_trans g0.out (gb_below (some G) hb))
            clear hb
            go_wp2_with fail
            refine (text_any h3.out).mono ?_; rintro e w4 ⟨rfl, hb⟩
            rw [HS.out]
            have h4 := Lib.hid (h3.out.below hb)
            have g4 := Lib.hid (gb_trans g3.out (gb_below (some G) hb))
            clear hb
            go_wp2_with fail
            refine (hold_any s _).mono ?_; rintro e wz ⟨rfl, rfl⟩
            rw [HV.out]
            go_wp2_with fail
            go_ret
            refine ⟨_, rfl, ?_⟩
            rw [← HR.out]
            exact ⟨⟨⟨_, h4.out⟩, gb_trans g2.out g4.out⟩, ⟨_, rfl⟩, fun ec => by
              obtain ⟨y, ey, hy⟩ := X2.out ec
              exact ⟨y, ey, hy.grown g4.out HG.out⟩⟩
        · have hbd := bad_yes hc
          have HR := Lib.hid (show (x, τ) = R by rw [← hF.out]; exact (loopF_stop m x (fun e => by exact hc e.1)).symm)
          clear hF hm hN2 hc hA2 hhv hs
          have g0 := Lib.hid (gb_refl wr (some G))
          go_wp2_with fail
          refine (stop_any h2.out).mono ?_; rintro e w3 ⟨rfl, hb⟩
          have h3 := Lib.hid (h2.out.below hb)
          have g3 := Lib.hid (gb_trans g0.out (gb_below (some G) hb))
          clear hb
          go_wp2_with fail
          go_ret
          refine ⟨_, rfl, ?_⟩
          rw [← HR.out]
          exact ⟨⟨⟨_, h3.out⟩, gb_trans g2.out g3.out⟩, ⟨_, rfl⟩, fun ec => by
            obtain ⟨y, ey, hy⟩ := X2.out ec
            exact ⟨y, ey, hy.grown g3.out HG.out⟩⟩
    · exact expr_stop h hc (n + 1)
end
end Go.Proofs.YtkopjmofdnlplaaGreatDoor.Tm
