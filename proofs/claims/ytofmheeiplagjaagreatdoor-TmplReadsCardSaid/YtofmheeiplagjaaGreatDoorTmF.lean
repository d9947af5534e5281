/-
  PROVED HERE: the contract of the document's eyes' single. Conditions: as each theorem states.
-/
import Derived.Test.YtofmheeiplagjaaGreatDoorTmE
namespace Go.Proofs.YtofmheeiplagjaaGreatDoor.Tm
open Go.RowKit Go.Proofs.YtofmheeiplagjaaGreatDoor.Lex Go.Proofs.YtofmheeiplagjaaGreatDoor.Dig
def ExprC (n : Nat) : Prop := ∀ (G E : Nat) (lv : Value) (σ : Ey) (W : World) (least deep : Nat), PS G E lv σ W → AllT σ.l → E ≤ 4000 → deep ≤ 9 → (σ.c = 0 → deep ≤ 8 ∧ σ.l.length < n) → least ≤ 4 → Calls Tryz.prog 21 #[.pointer (some ⟨G, 0, none⟩), .int .i64 (least : Nat), .int .i64 (deep : Nat)] W (ExP G E (exprF E n least deep σ) W)
theorem lp_ne : (⟨#[40]⟩ : ByteArray) ≠ emp := by decide
theorem rp_ne : (⟨#[41]⟩ : ByteArray) ≠ emp := by decide
theorem wrong_c {σ : Ey} (h : σ.c = 0) (e k : Int) : (wrong σ e k).c = e := by unfold wrong; rw [if_pos h]
theorem isN_size {s : ByteArray} (h : isN s = true) : 0 < s.size := by
  unfold isN at h
  rcases Nat.eq_zero_or_pos s.size with e | e
  · rw [lst_nil (by omega)] at h; cases h
  · exact e
theorem isD_at {s : ByteArray} (h : 0 < s.size) : isD s = dgt s[0] := by unfold isD; rw [lst_cons s h]
theorem isD_none {s : ByteArray} (h : ¬ 0 < s.size) : isD s = false := by unfold isD; rw [lst_nil h]
section
variable {n G E : Nat} {lv : Value} {σ : Ey} {W : World} {deep : Nat}
theorem got_nil {r : Pr} {w : World} (p : Option Addr) (h : r.2.c ≠ 0) (lo : Nat) : Got lo r (.pointer p) w := ⟨⟨p, rfl⟩, fun e => absurd e h⟩
set_option maxRecDepth 100000 in
set_option maxHeartbeats 4000000 in
theorem single_stop (h : PS G E lv σ W) (hc : σ.c ≠ 0) (rec : Nat → Ey → Pr) : Calls Tryz.prog 53 #[.pointer (some ⟨G, 0, none⟩), .int .i64 (deep : Nat)] W (ExP G E (singleF E rec deep σ) W) := by
  have hr : singleF E rec deep σ = (none, σ) := if_pos hc
  rw [hr]
  have HC := Lib.hid hc
  have hbd := bad_yes hc
  clear hr hc
  go_enter Tryz.func53, Tryz.ntmps53
  have h0 := Lib.hid h
  have g0 := Lib.hid (gb_refl W (some G))
  clear h
  go_wp2_with fail
  refine (place_any h0.out).mono ?_; rintro e w1 ⟨rfl, hb⟩
  have h1 := Lib.hid (h0.out.below hb)
  have g1 := Lib.hid (gb_trans g0.out (gb_below (some G) hb))
  clear hb
  go_wp2_with fail
  refine (text_any h1.out).mono ?_; rintro e w2 ⟨rfl, hb⟩
  have h2 := Lib.hid (h1.out.below hb)
  have g2 := Lib.hid (gb_trans g1.out (gb_below (some G) hb))
  clear hb
  go_wp2_with fail
  refine (stop_any h2.out).mono ?_; rintro e w3 ⟨rfl, hb⟩
  have h3 := Lib.hid (h2.out.below hb)
  have g3 := Lib.hid (gb_trans g2.out (gb_below (some G) hb))
  clear hb
  go_wp2_with fail
  go_ret
  exact ⟨_, rfl, ⟨⟨_, h3.out⟩, g3.out⟩, got_nil none HC.out _⟩
set_option maxRecDepth 100000 in
set_option maxHeartbeats 4000000 in
theorem single_open (IH : ExprC n) (h : PS G E lv σ W) (hA : AllT σ.l) (hE : E ≤ 4000) (hc : σ.c = 0) (hd : deep ≤ 8) (hn : σ.l.length < n + 1) (ht : txt σ = ⟨#[40]⟩) : Calls Tryz.prog 53 #[.pointer (some ⟨G, 0, none⟩), .int .i64 (deep : Nat)] W (ExP G E (singleF E (fun d τ => exprF E n 1 d τ) deep σ) W) := by
  have hr : singleF E (fun d τ => exprF E n 1 d τ) deep σ = ((exprF E n 1 (deep + 1) (take E (if 8 ≤ deep then wrong σ 4 (pos E σ : Nat) else σ) ⟨#[40]⟩)).1, must E (exprF E n 1 (deep + 1) (take E (if 8 ≤ deep then wrong σ 4 (pos E σ : Nat) else σ) ⟨#[40]⟩)).2 ⟨#[41]⟩) := by
    unfold singleF; rw [if_neg (by simp [hc]), if_pos ht]
  rw [hr]
  obtain ⟨σ1, hs1⟩ : ∃ σ1, (if 8 ≤ deep then wrong σ 4 (pos E σ : Nat) else σ) = σ1 := ⟨_, rfl⟩
  rw [hs1]
  have hlt : (take E σ ⟨#[40]⟩).l.length < n := by
    unfold take; rw [if_pos ht]
    have := pass_lt (E := E) (σ := σ) (by rw [ht]; exact lp_ne)
    omega
  have h00 : Tm0 σ σ1 := by rw [← hs1]; exact ite_0 (wrong_0 _ _ _)
  have hpre : (take E σ1 ⟨#[40]⟩).c = 0 → deep + 1 ≤ 8 ∧ (take E σ1 ⟨#[40]⟩).l.length < n := by
    intro e
    by_cases h8 : 8 ≤ deep
    · rw [if_pos h8] at hs1
      have hw : σ1.c ≠ 0 := by rw [← hs1, wrong_c hc]; decide
      exact absurd e (by rw [(take_0 E σ1 _).2.2 hw]; exact hw)
    · rw [if_neg h8] at hs1
      subst hs1
      exact ⟨by omega, hlt⟩
  have HA := Lib.hid (((h00.trans (take_0 E σ1 ⟨#[40]⟩)).1 hA))
  have HX := Lib.hid (fun lv' w' (hp : PS G E lv' (take E σ1 ⟨#[40]⟩) w') => IH G E lv' _ w' 1 (deep + 1) hp HA.out hE (by omega) hpre (by omega))
  have HS1 := Lib.hid hs1
  have hbd := bad_no hc
  have HT := Lib.hid ht
  obtain ⟨d1, hd1⟩ : ∃ d1, deep + 1 = d1 := ⟨_, rfl⟩
  have dp : IntKind.i64.wrap ((deep : Int) + 1) = (d1 : Int) := by rw [IntKind.wrap_i64]; omega
  have dq : (deep : Int) + 1 = (d1 : Int) := by omega
  rw [hd1] at HX ⊢
  have HX : Hid (∀ lv' w', PS G E lv' (take E σ1 ⟨#[40]⟩) w' → Calls Tryz.prog 21 #[.pointer (some ⟨G, 0, none⟩), .int .i64 1, .int .i64 (d1 : Nat)] w' (ExP G E (exprF E n 1 d1 (take E σ1 ⟨#[40]⟩)) w')) := HX
  obtain ⟨r9, hr9⟩ : ∃ r, exprF E n 1 d1 (take E σ1 ⟨#[40]⟩) = r := ⟨_, rfl⟩
  rw [hr9] at HX ⊢
  clear hd1 hr9
  have e1 : ((txt σ).toList == [40]) = true := tl_yes (a := #[40]) ht
  clear hr hs1 hlt h00 hpre IH hc hn ht hA
  obtain ⟨s, hs⟩ : ∃ s, txt σ = s := ⟨_, rfl⟩
  rw [hs] at e1
  have HG := Lib.hid h.lt
  by_cases h8 : 8 ≤ deep
  · rw [if_pos h8] at HS1
    have d8 : (8 : Int) ≤ (deep : Int) := by omega
    obtain ⟨σw, hsw⟩ : ∃ x, wrong σ 4 (pos E σ : Nat) = x := ⟨_, rfl⟩
    obtain rfl : σw = σ1 := hsw.symm.trans HS1.out
    go_enter Tryz.func53, Tryz.ntmps53
    have h0 := Lib.hid h
    have g0 := Lib.hid (gb_refl W (some G))
    clear h
    go_wp2_with fail
    refine (place_any h0.out).mono ?_; rintro e w1 ⟨rfl, hb⟩
    have h1 := Lib.hid (h0.out.below hb)
    have g1 := Lib.hid (gb_trans g0.out (gb_below (some G) hb))
    clear hb
    go_wp2_with fail
    refine (text_any h1.out).mono ?_; rintro e w2 ⟨rfl, hb⟩
    rw [hs]
    have h2 := Lib.hid (h1.out.below hb)
    have g2 := Lib.hid (gb_trans g1.out (gb_below (some G) hb))
    clear hb
    go_wp2_with fail
    refine (stop_any h2.out).mono ?_; rintro e w3 ⟨rfl, hb⟩
    have h3 := Lib.hid (h2.out.below hb)
    have g3 := Lib.hid (gb_trans g2.out (gb_below (some G) hb))
    clear hb
    go_wp2_with fail
    refine (wrong_any h3.out _ _).mono ?_; rw [hsw]; rintro e w4 ⟨rfl, ⟨lv4, hp⟩, hg⟩
    have h4 := Lib.hid hp
    have g4 := Lib.hid (gb_trans g3.out hg)
    clear hp hg
    clear hsw
    go_wp2_with fail
    refine (take_any h4.out ⟨#[40]⟩).mono ?_; rintro e w5 ⟨rfl, ⟨lv5, hp⟩, hg⟩
    have h5 := Lib.hid hp
    have g5 := Lib.hid (gb_trans g4.out hg)
    clear hp hg
    have ho5 := Lib.hid (show W.heap.size ≤ w5.heap.size from g5.out.size)
    go_wp2_with fail
    refine (HX.out _ _ h5.out).mono ?_; rintro e w6 ⟨v, rfl, ⟨⟨lv6, hp⟩, hg⟩, ⟨p9, rfl⟩, hx⟩
    have h6 := Lib.hid hp
    have g6 := Lib.hid (gb_trans g5.out hg)
    have X9 := Lib.hid hx
    clear hp hg hx
    go_wp2_with fail
    refine (must_any h6.out ⟨#[41]⟩ rp_ne).mono ?_; rintro e w7 ⟨rfl, ⟨lv7, hp⟩, hg⟩
    have h7 := Lib.hid hp
    have g7 := Lib.hid (gb_trans g6.out hg)
    have G9 := Lib.hid hg
    clear hp hg
    go_wp2_with fail
    go_ret
    refine ⟨_, rfl, ⟨⟨_, h7.out⟩, g7.out⟩, ⟨p9, rfl⟩, fun e => ?_⟩
    have ec : r9.2.c = 0 := by
      by_cases hc : r9.2.c = 0
      · exact hc
      · have e2 := (must_0 E _ ⟨#[41]⟩).2.2 hc
        rw [e2] at e
        exact e
    obtain ⟨x, ex, hx⟩ := X9.out ec
    exact ⟨x, ex, (hx.grown G9.out (Nat.lt_of_lt_of_le HG.out ho5.out)).low ho5.out⟩
  · rw [if_neg h8] at HS1
    have d8 : ¬ (8 : Int) ≤ (deep : Int) := by omega
    obtain rfl := HS1.out
    go_enter Tryz.func53, Tryz.ntmps53
    have h0 := Lib.hid h
    have g0 := Lib.hid (gb_refl W (some G))
    clear h
    go_wp2_with fail
    refine (place_any h0.out).mono ?_; rintro e w1 ⟨rfl, hb⟩
    have h1 := Lib.hid (h0.out.below hb)
    have g1 := Lib.hid (gb_trans g0.out (gb_below (some G) hb))
    clear hb
    go_wp2_with fail
    refine (text_any h1.out).mono ?_; rintro e w2 ⟨rfl, hb⟩
    rw [hs]
    have h2 := Lib.hid (h1.out.below hb)
    have g2 := Lib.hid (gb_trans g1.out (gb_below (some G) hb))
    clear hb
    go_wp2_with fail
    refine (stop_any h2.out).mono ?_; rintro e w3 ⟨rfl, hb⟩
    have h3 := Lib.hid (h2.out.below hb)
    have g3 := Lib.hid (gb_trans g2.out (gb_below (some G) hb))
    clear hb
    go_wp2_with fail
    refine (take_any h3.out ⟨#[40]⟩).mono ?_; rintro e w4 ⟨rfl, ⟨lv4, hp⟩, hg⟩
    have h4 := Lib.hid hp
    have g4 := Lib.hid (gb_trans g3.out hg)
    clear hp hg
    have ho4 := Lib.hid (show W.heap.size ≤ w4.heap.size from g4.out.size)
    go_wp2_with fail
    refine (HX.out _ _ h4.out).mono ?_; rintro e w5 ⟨v, rfl, ⟨⟨lv5, hp⟩, hg⟩, ⟨p9, rfl⟩, hx⟩
    have h5 := Lib.hid hp
    have g5 := Lib.hid (gb_trans g4.out hg)
    have X9 := Lib.hid hx
    clear hp hg hx
    go_wp2_with fail
    refine (must_any h5.out ⟨#[41]⟩ rp_ne).mono ?_; rintro e w6 ⟨rfl, ⟨lv6, hp⟩, hg⟩
    have h6 := Lib.hid hp
    have g6 := Lib.hid (gb_trans g5.out hg)
    have G9 := Lib.hid hg
    clear hp hg
    go_wp2_with fail
    go_ret
    refine ⟨_, rfl, ⟨⟨_, h6.out⟩, g6.out⟩, ⟨p9, rfl⟩, fun e => ?_⟩
    have ec : r9.2.c = 0 := by
      by_cases hc : r9.2.c = 0
      · exact hc
      · have e2 := (must_0 E _ ⟨#[41]⟩).2.2 hc
        rw [e2] at e
        exact e
    obtain ⟨x, ex, hx⟩ := X9.out ec
    exact ⟨x, ex, (hx.grown G9.out (Nat.lt_of_lt_of_le HG.out ho4.out)).low ho4.out⟩
set_option maxRecDepth 100000 in
set_option maxHeartbeats 4000000 in
theorem single_name (rec : Nat → Ey → Pr) (h : PS G E lv σ W) (hA : AllT σ.l) (_hd : deep ≤ 8) (hc : σ.c = 0) (hp : txt σ ≠ ⟨#[40]⟩) (hn : isN (txt σ) = true) : Calls Tryz.prog 53 #[.pointer (some ⟨G, 0, none⟩), .int .i64 (deep : Nat)] W (ExP G E (singleF E rec deep σ) W) := by
  have hr : singleF E rec deep σ = (some (.nam (pos E σ) (txt σ)), pass E (if 12 < (txt σ).size then wrong σ 4 (pos E σ : Nat) else σ)) := by
    unfold singleF; rw [if_neg (by simp [hc]), if_neg hp, if_pos hn]
  rw [hr]
  have hbd := bad_no hc
  have e1 : ((txt σ).toList == [40]) = false := tl_no (a := #[40]) hp
  have HN := Lib.hid (docName_any (txt σ))
  rw [hn] at HN
  obtain ⟨σ1, hs1⟩ : ∃ σ1, (if 12 < (txt σ).size then wrong σ 4 (pos E σ : Nat) else σ) = σ1 := ⟨_, rfl⟩
  rw [hs1]
  have HS1 := Lib.hid hs1
  obtain ⟨s, hs⟩ : ∃ s, txt σ = s := ⟨_, rfl⟩
  rw [hs] at e1 HN HS1 ⊢
  have hsl : s.size ≤ 1000 := by rw [← hs]; exact txt_size hA
  have HC := Lib.hid hc
  clear hr hs1 hn hp hA hc
  by_cases h12 : 12 < s.size
  · rw [if_pos h12] at HS1
    have d12 : (12 : Int) < (s.size : Int) := by omega
    obtain ⟨σw, hsw⟩ : ∃ x, wrong σ 4 (pos E σ : Nat) = x := ⟨_, rfl⟩
    obtain rfl : σw = σ1 := hsw.symm.trans HS1.out
    go_enter Tryz.func53, Tryz.ntmps53
    have h0 := Lib.hid h
    have g0 := Lib.hid (gb_refl W (some G))
    clear h
    go_wp2_with fail
    refine (place_any h0.out).mono ?_; rintro e w1 ⟨rfl, hb⟩
    have h1 := Lib.hid (h0.out.below hb)
    have g1 := Lib.hid (gb_trans g0.out (gb_below (some G) hb))
    clear hb
    go_wp2_with fail
    refine (text_any h1.out).mono ?_; rintro e w2 ⟨rfl, hb⟩
    rw [hs]
    have h2 := Lib.hid (h1.out.below hb)
    have g2 := Lib.hid (gb_trans g1.out (gb_below (some G) hb))
    clear hb
    go_wp2_with fail
    refine (stop_any h2.out).mono ?_; rintro e w3 ⟨rfl, hb⟩
    have h3 := Lib.hid (h2.out.below hb)
    have g3 := Lib.hid (gb_trans g2.out (gb_below (some G) hb))
    clear hb
    go_wp2_with fail
    refine (HN.out _).mono ?_; rintro e w4 ⟨rfl, rfl⟩
    go_wp2_with fail
    refine (wrong_any h3.out _ _).mono ?_; rw [hsw]; rintro e w5 ⟨rfl, ⟨lv5, hp⟩, hg⟩
    have h5 := Lib.hid hp
    have g5 := Lib.hid (gb_trans g3.out hg)
    clear hp hg
    clear hsw
    go_wp2_with fail
    refine (pass_any h5.out).mono ?_; rintro e w6 ⟨rfl, ⟨lv6, hp⟩, hg⟩
    have h6 := Lib.hid hp
    have g6 := Lib.hid (gb_trans g5.out hg)
    clear hp hg
    go_wp2_with fail
    go_ret
    refine ⟨_, rfl, ⟨⟨_, h6.out.below ((Below.refl _ _).alloc (Nat.le_refl _) _)⟩, gb_trans g6.out (gb_below (some G) ((Below.refl _ _).alloc (Nat.le_refl _) _))⟩, ⟨_, rfl⟩, fun _ => ⟨_, rfl, exF_nam g6.out.size _ _⟩⟩
  · rw [if_neg h12] at HS1
    have d12 : ¬ (12 : Int) < (s.size : Int) := by omega
    obtain rfl := HS1.out
    go_enter Tryz.func53, Tryz.ntmps53
    have h0 := Lib.hid h
    have g0 := Lib.hid (gb_refl W (some G))
    clear h
    go_wp2_with fail
    refine (place_any h0.out).mono ?_; rintro e w1 ⟨rfl, hb⟩
    have h1 := Lib.hid (h0.out.below hb)
    have g1 := Lib.hid (gb_trans g0.out (gb_below (some G) hb))
    clear hb
    go_wp2_with fail
    refine (text_any h1.out).mono ?_; rintro e w2 ⟨rfl, hb⟩
    rw [hs]
    have h2 := Lib.hid (h1.out.below hb)
    have g2 := Lib.hid (gb_trans g1.out (gb_below (some G) hb))
    clear hb
    go_wp2_with fail
    refine (stop_any h2.out).mono ?_; rintro e w3 ⟨rfl, hb⟩
    have h3 := Lib.hid (h2.out.below hb)
    have g3 := Lib.hid (gb_trans g2.out (gb_below (some G) hb))
    clear hb
    go_wp2_with fail
    refine (HN.out _).mono ?_; rintro e w4 ⟨rfl, rfl⟩
    go_wp2_with fail
    refine (pass_any h3.out).mono ?_; rintro e w4 ⟨rfl, ⟨lv4, hp⟩, hg⟩
    have h4 := Lib.hid hp
    have g4 := Lib.hid (gb_trans g3.out hg)
    clear hp hg
    go_wp2_with fail
    go_ret
    refine ⟨_, rfl, ⟨⟨_, h4.out.below ((Below.refl _ _).alloc (Nat.le_refl _) _)⟩, gb_trans g4.out (gb_below (some G) ((Below.refl _ _).alloc (Nat.le_refl _) _))⟩, ⟨_, rfl⟩, fun _ => ⟨_, rfl, exF_nam g4.out.size _ _⟩⟩
set_option maxRecDepth 100000 in
set_option maxHeartbeats 4000000 in
theorem single_num (rec : Nat → Ey → Pr) (h : PS G E lv σ W) (hA : AllT σ.l) (_hd : deep ≤ 8) (hc : σ.c = 0) (hp : txt σ ≠ ⟨#[40]⟩) (hn : isN (txt σ) = false) (hd2 : isD (txt σ) = true) : Calls Tryz.prog 53 #[.pointer (some ⟨G, 0, none⟩), .int .i64 (deep : Nat)] W (ExP G E (singleF E rec deep σ) W) := by
  have hr : singleF E rec deep σ = (some (.num (pos E σ) (numV (txt σ))), pass E (if numE (txt σ) ≠ 0 then wrong σ (numE (txt σ)) (pos E σ : Nat) else σ)) := by
    unfold singleF; rw [if_neg (by simp [hc]), if_neg hp, if_neg (by rw [hn]; decide), if_pos hd2]
  rw [hr]
  have hbd := bad_no hc
  have e1 : ((txt σ).toList == [40]) = false := tl_no (a := #[40]) hp
  have HN := Lib.hid (docName_any (txt σ))
  rw [hn] at HN
  obtain ⟨σ1, hs1⟩ : ∃ σ1, (if numE (txt σ) ≠ 0 then wrong σ (numE (txt σ)) (pos E σ : Nat) else σ) = σ1 := ⟨_, rfl⟩
  rw [hs1]
  have HS1 := Lib.hid hs1
  have hsl0 : (txt σ).size ≤ 1000 := txt_size hA
  have hs0 : 0 < (txt σ).size := by
    rcases Nat.eq_zero_or_pos (txt σ).size with e | e
    · rw [isD_none (by omega)] at hd2; cases hd2
    · exact e
  have HD := Lib.hid (docDigit_any (txt σ)[0])
  rw [← isD_at hs0, hd2] at HD
  have HU := Lib.hid (docNumber_any (txt σ) hsl0)
  rw [show (nv (nneg (txt σ)) (pv (nu (nt (txt σ))) (nb (nt (txt σ)))) (pe (nu (nt (txt σ))) (nb (nt (txt σ))))) = numV (txt σ) from rfl, show (ne (nneg (txt σ)) (pv (nu (nt (txt σ))) (nb (nt (txt σ)))) (pe (nu (nt (txt σ))) (nb (nt (txt σ))))) = numE (txt σ) from rfl] at HU
  have t2 := str_full (txt σ) hs0
  have i0 : (0 : Int) < ((txt σ).size : Int) := by omega
  generalize numV (txt σ) = nV at *
  obtain ⟨nE, hnE⟩ : ∃ x, numE (txt σ) = x := ⟨_, rfl⟩
  rw [hnE] at HS1 HU
  obtain ⟨s, hs⟩ : ∃ s, txt σ = s := ⟨_, rfl⟩
  have e2 : (s.toList == []) = false := by rw [beq_eq_false_iff_ne]; intro e; rw [hs, e] at t2; cases t2
  simp only [hs] at e1 HN HS1 HU HD t2 i0
  have HC := Lib.hid hc
  clear hr hs1 hn hp hA hc hsl0 hd2 hnE
  by_cases h12 : nE ≠ 0
  · rw [if_pos h12] at HS1
    have d12 : (nE != 0) = true := by rw [bne_iff_ne]; exact h12
    have d13 : (nE == 0) = false := by rw [beq_eq_false_iff_ne]; exact h12
    obtain ⟨σw, hsw⟩ : ∃ x, wrong σ nE (pos E σ : Nat) = x := ⟨_, rfl⟩
    obtain rfl : σw = σ1 := hsw.symm.trans HS1.out
    clear h12
    go_enter Tryz.func53, Tryz.ntmps53
    have h0 := Lib.hid h
    have g0 := Lib.hid (gb_refl W (some G))
    clear h
    go_wp2_with fail
    refine (place_any h0.out).mono ?_; rintro e w1 ⟨rfl, hb⟩
    have h1 := Lib.hid (h0.out.below hb)
    have g1 := Lib.hid (gb_trans g0.out (gb_below (some G) hb))
    clear hb
    go_wp2_with fail
    refine (text_any h1.out).mono ?_; rintro e w2 ⟨rfl, hb⟩
    rw [hs]
    have h2 := Lib.hid (h1.out.below hb)
    have g2 := Lib.hid (gb_trans g1.out (gb_below (some G) hb))
    clear hb
    go_wp2_with fail
    refine (stop_any h2.out).mono ?_; rintro e w3 ⟨rfl, hb⟩
    have h3 := Lib.hid (h2.out.below hb)
    have g3 := Lib.hid (gb_trans g2.out (gb_below (some G) hb))
    clear hb
    go_wp2_with fail
    refine (HN.out _).mono ?_; rintro e w4 ⟨rfl, rfl⟩
    go_wp2_with fail
    refine (HD.out _).mono ?_; rintro e w4 ⟨rfl, rfl⟩
    go_wp2_with fail
    refine (HU.out _).mono ?_; rintro e w6 ⟨rfl, hb⟩
    have h6 := Lib.hid (h3.out.below hb)
    have g6 := Lib.hid (gb_trans g3.out (gb_below (some G) hb))
    clear hb
    go_wp2_with fail
    refine (wrong_any h6.out _ _).mono ?_; rw [hsw]; rintro e w7 ⟨rfl, ⟨lv7, hp⟩, hg⟩
    have h7 := Lib.hid hp
    have g7 := Lib.hid (gb_trans g6.out hg)
    clear hp hg
    clear hsw
    go_wp2_with fail
    refine (pass_any h7.out).mono ?_; rintro e w8 ⟨rfl, ⟨lv8, hp⟩, hg⟩
    have h8 := Lib.hid hp
    have g8 := Lib.hid (gb_trans g7.out hg)
    clear hp hg
    go_wp2_with fail
    go_ret
    refine ⟨_, rfl, ⟨⟨_, h8.out.below ((Below.refl _ _).alloc (Nat.le_refl _) _)⟩, gb_trans g8.out (gb_below (some G) ((Below.refl _ _).alloc (Nat.le_refl _) _))⟩, ⟨_, rfl⟩, fun _ => ⟨_, rfl, exF_num g8.out.size _ _⟩⟩
  · rw [if_neg h12] at HS1
    obtain rfl : nE = 0 := by omega
    obtain rfl := HS1.out
    clear h12
    go_enter Tryz.func53, Tryz.ntmps53
    have h0 := Lib.hid h
    have g0 := Lib.hid (gb_refl W (some G))
    clear h
    go_wp2_with fail
    refine (place_any h0.out).mono ?_; rintro e w1 ⟨rfl, hb⟩
    have h1 := Lib.hid (h0.out.below hb)
    have g1 := Lib.hid (gb_trans g0.out (gb_below (some G) hb))
    clear hb
    go_wp2_with fail
    refine (text_any h1.out).mono ?_; rintro e w2 ⟨rfl, hb⟩
    rw [hs]
    have h2 := Lib.hid (h1.out.below hb)
    have g2 := Lib.hid (gb_trans g1.out (gb_below (some G) hb))
    clear hb
    go_wp2_with fail
    refine (stop_any h2.out).mono ?_; rintro e w3 ⟨rfl, hb⟩
    have h3 := Lib.hid (h2.out.below hb)
    have g3 := Lib.hid (gb_trans g2.out (gb_below (some G) hb))
    clear hb
    go_wp2_with fail
    refine (HN.out _).mono ?_; rintro e w4 ⟨rfl, rfl⟩
    go_wp2_with fail
    refine (HD.out _).mono ?_; rintro e w4 ⟨rfl, rfl⟩
    go_wp2_with fail
    refine (HU.out _).mono ?_; rintro e w6 ⟨rfl, hb⟩
    have h6 := Lib.hid (h3.out.below hb)
    have g6 := Lib.hid (gb_trans g3.out (gb_below (some G) hb))
    clear hb
    go_wp2_with fail
    refine (pass_any h6.out).mono ?_; rintro e w7 ⟨rfl, ⟨lv7, hp⟩, hg⟩
    have h7 := Lib.hid hp
    have g7 := Lib.hid (gb_trans g6.out hg)
    clear hp hg
    go_wp2_with fail
    go_ret
    refine ⟨_, rfl, ⟨⟨_, h7.out.below ((Below.refl _ _).alloc (Nat.le_refl _) _)⟩, gb_trans g7.out (gb_below (some G) ((Below.refl _ _).alloc (Nat.le_refl _) _))⟩, ⟨_, rfl⟩, fun _ => ⟨_, rfl, exF_num g7.out.size _ _⟩⟩
set_option maxRecDepth 100000 in
set_option maxHeartbeats 4000000 in
theorem single_bad (rec : Nat → Ey → Pr) (h : PS G E lv σ W) (_hA : AllT σ.l) (_hd : deep ≤ 8) (hc : σ.c = 0) (hp : txt σ ≠ ⟨#[40]⟩) (hn : isN (txt σ) = false) (hd2 : isD (txt σ) = false) : Calls Tryz.prog 53 #[.pointer (some ⟨G, 0, none⟩), .int .i64 (deep : Nat)] W (ExP G E (singleF E rec deep σ) W) := by
  have hr : singleF E rec deep σ = (none, wrong σ 3 (pos E σ : Nat)) := by
    unfold singleF; rw [if_neg (by simp [hc]), if_neg hp, if_neg (by rw [hn]; decide), if_neg (by rw [hd2]; decide)]
  rw [hr]
  have hbd := bad_no hc
  have e1 : ((txt σ).toList == [40]) = false := tl_no (a := #[40]) hp
  have HN := Lib.hid (docName_any (txt σ))
  rw [hn] at HN
  have hw := wrong_c hc 3 (pos E σ : Nat)
  have HW := Lib.hid (show (wrong σ 3 (pos E σ : Nat)).c ≠ 0 by rw [hw]; decide)
  by_cases hs0 : 0 < (txt σ).size
  · have HD := Lib.hid (docDigit_any (txt σ)[0])
    rw [← isD_at hs0, hd2] at HD
    have t2 := str_full (txt σ) hs0
    have i0 : (0 : Int) < ((txt σ).size : Int) := by omega
    obtain ⟨s, hs⟩ : ∃ s, txt σ = s := ⟨_, rfl⟩
    have e2 : (s.toList == []) = false := by rw [beq_eq_false_iff_ne]; intro e; rw [hs, e] at t2; cases t2
    simp only [hs] at e1 HN HD t2 i0
    have HC := Lib.hid hc
    clear hr hn hp _hA hc hd2 hw
    go_enter Tryz.func53, Tryz.ntmps53
    have h0 := Lib.hid h
    have g0 := Lib.hid (gb_refl W (some G))
    clear h
    go_wp2_with fail
    refine (place_any h0.out).mono ?_; rintro e w1 ⟨rfl, hb⟩
    have h1 := Lib.hid (h0.out.below hb)
    have g1 := Lib.hid (gb_trans g0.out (gb_below (some G) hb))
    clear hb
    go_wp2_with fail
    refine (text_any h1.out).mono ?_; rintro e w2 ⟨rfl, hb⟩
    rw [hs]
    have h2 := Lib.hid (h1.out.below hb)
    have g2 := Lib.hid (gb_trans g1.out (gb_below (some G) hb))
    clear hb
    go_wp2_with fail
    refine (stop_any h2.out).mono ?_; rintro e w3 ⟨rfl, hb⟩
    have h3 := Lib.hid (h2.out.below hb)
    have g3 := Lib.hid (gb_trans g2.out (gb_below (some G) hb))
    clear hb
    go_wp2_with fail
    refine (HN.out _).mono ?_; rintro e w4 ⟨rfl, rfl⟩
    go_wp2_with fail
    refine (HD.out _).mono ?_; rintro e w4 ⟨rfl, rfl⟩
    go_wp2_with fail
    refine (wrong_any h3.out _ _).mono ?_; rintro e w5 ⟨rfl, ⟨lv5, hp⟩, hg⟩
    have h5 := Lib.hid hp
    have g5 := Lib.hid (gb_trans g3.out hg)
    clear hp hg
    go_wp2_with fail
    go_ret
    exact ⟨_, rfl, ⟨⟨_, h5.out⟩, g5.out⟩, got_nil none HW.out _⟩
  · have hse : txt σ = emp := emp_iff.2 (by omega)
    have HC := Lib.hid hc
    have HN2 := Lib.hid (show ∀ w, Calls Tryz.prog 61 #[.string ⟨#[]⟩] w fun e w' => e = .returned (.bool false) ∧ w = w' from by have := HN.out; rw [hse] at this; exact this)
    have hs : txt σ = ⟨#[]⟩ := hse
    clear hr hn hp _hA hc hs0 hd2 hw hse HN e1
    go_enter Tryz.func53, Tryz.ntmps53
    have h0 := Lib.hid h
    have g0 := Lib.hid (gb_refl W (some G))
    clear h
    go_wp2_with fail
    refine (place_any h0.out).mono ?_; rintro e w1 ⟨rfl, hb⟩
    have h1 := Lib.hid (h0.out.below hb)
    have g1 := Lib.hid (gb_trans g0.out (gb_below (some G) hb))
    clear hb
    go_wp2_with fail
    refine (text_any h1.out).mono ?_; rintro e w2 ⟨rfl, hb⟩
    rw [hs]
    have h2 := Lib.hid (h1.out.below hb)
    have g2 := Lib.hid (gb_trans g1.out (gb_below (some G) hb))
    clear hb
    go_wp2_with fail
    refine (stop_any h2.out).mono ?_; rintro e w3 ⟨rfl, hb⟩
    have h3 := Lib.hid (h2.out.below hb)
    have g3 := Lib.hid (gb_trans g2.out (gb_below (some G) hb))
    clear hb
    go_wp2_with fail
    refine (HN2.out _).mono ?_; rintro e w4 ⟨rfl, rfl⟩
    go_wp2_with fail
    refine (wrong_any h3.out _ _).mono ?_; rintro e w5 ⟨rfl, ⟨lv5, hp⟩, hg⟩
    have h5 := Lib.hid hp
    have g5 := Lib.hid (gb_trans g3.out hg)
    clear hp hg
    go_wp2_with fail
    go_ret
    exact ⟨_, rfl, ⟨⟨_, h5.out⟩, g5.out⟩, got_nil none HW.out _⟩
theorem single_any (IH : ExprC n) (h : PS G E lv σ W) (hA : AllT σ.l) (hE : E ≤ 4000) (hn : σ.c = 0 → deep ≤ 8 ∧ σ.l.length < n + 1) : Calls Tryz.prog 53 #[.pointer (some ⟨G, 0, none⟩), .int .i64 (deep : Nat)] W (ExP G E (singleF E (fun d τ => exprF E n 1 d τ) deep σ) W) := by
  by_cases hc : σ.c = 0
  · obtain ⟨hd8, hl⟩ := hn hc
    by_cases hp : txt σ = ⟨#[40]⟩
    · exact single_open IH h hA hE hc hd8 hl hp
    · cases hN : isN (txt σ)
      · cases hD : isD (txt σ)
        · exact single_bad _ h hA hd8 hc hp hN hD
        · exact single_num _ h hA hd8 hc hp hN hD
      · exact single_name _ h hA hd8 hc hp hN
  · exact single_stop h hc _
end
end Go.Proofs.YtofmheeiplagjaaGreatDoor.Tm
