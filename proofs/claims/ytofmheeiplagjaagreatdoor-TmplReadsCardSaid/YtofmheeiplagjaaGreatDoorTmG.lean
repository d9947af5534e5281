/-
  PROVED HERE: the contract of the document's eyes' expr. Conditions: as each theorem states.
-/
import Derived.Test.YtofmheeiplagjaaGreatDoorTmF
namespace Go.Proofs.YtofmheeiplagjaaGreatDoor.Tm
open Go.RowKit Go.Proofs.YtofmheeiplagjaaGreatDoor.Lex Go.Proofs.YtofmheeiplagjaaGreatDoor.Dig
def lenAt (G : Nat) (w : World) : Nat := match w.cell? ⟨G, 0, none⟩ with | some (.slice _ n _) => n | _ => 0
theorem lenAt_ps {G E : Nat} {lv : Value} {σ : Ey} {w : World} (h : PS G E lv σ w) : lenAt G w = σ.l.length := by
  obtain ⟨a, c, e, _⟩ := h.cap
  unfold lenAt
  rw [h.c0, e]
theorem loopF_stop {E : Nat} {rec : Nat → Ey → Pr} {least : Nat} (m : Nat) (x : Option Ex) {σ : Ey} (h : ¬ (σ.c = 0 ∧ least ≤ hold (txt σ) ∧ 0 < hold (txt σ))) : loopF E rec least m x σ = (x, σ) := by
  cases m with
  | zero => rfl
  | succ m => unfold loopF; rw [if_neg h]
theorem exprF_stop {E : Nat} (n least deep : Nat) {σ : Ey} (h : σ.c ≠ 0) : exprF E n least deep σ = (none, σ) := by
  cases n with
  | zero => rfl
  | succ n =>
    unfold exprF
    have e : singleF E (fun d τ => exprF E n 1 d τ) deep σ = (none, σ) := if_pos h
    simp only [e]
    exact loopF_stop _ _ (fun q => h q.1)
theorem binO_some (k : Nat) (op : ByteArray) (x y : Ex) : binO k op (some x) (some y) = some (.bin k op x y) := rfl
theorem hold_le (s : ByteArray) : hold s ≤ 3 := by unfold hold; (repeat' split) <;> omega
def LpR (G E n deep least : Nat) (R : Pr) (W : World) (v : Value) (wr : World) : Prop := ∃ (m : Nat) (x : Option Ex) (τ : Ey) (lv : Value) (p : Option Addr), v = .pointer p ∧ Hid (loopF E (fun l τ => exprF E n l deep τ) least m x τ = R) ∧ Hid (τ.l.length ≤ m) ∧ Hid (PS G E lv τ wr) ∧ Hid (W.grownBy wr (some G)) ∧ Hid (τ.c = 0 → ∃ y, x = some y ∧ ExF W.heap.size wr y (.pointer p)) ∧ Hid (AllT τ.l) ∧ Hid (τ.c = 0 → deep ≤ 8 ∧ τ.l.length < n + 1)
section
variable {n G E : Nat} {lv : Value} {σ : Ey} {W : World} {deep least : Nat}
set_option maxRecDepth 100000 in
set_option maxHeartbeats 4000000 in
theorem expr_stop (h : PS G E lv σ W) (hc : σ.c ≠ 0) (n : Nat) : Calls Tryz.prog 21 #[.pointer (some ⟨G, 0, none⟩), .int .i64 (least : Nat), .int .i64 (deep : Nat)] W (ExP G E (exprF E n least deep σ) W) := by
  rw [exprF_stop n least deep hc]
  have hr : singleF E (fun _ τ => (none, τ)) deep σ = (none, σ) := if_pos hc
  have C := Lib.hid (single_stop (deep := deep) h hc (fun _ τ => (none, τ)))
  rw [hr] at C
  have HC := Lib.hid hc
  have hbd := bad_yes hc
  clear hr hc h
  go_enter Tryz.func21, Tryz.ntmps21
  go_wp2_with fail
  refine (C.out).mono ?_; rintro e w1 ⟨v, rfl, ⟨⟨lv1, hp⟩, hg⟩, ⟨p, rfl⟩, -⟩
  have h1 := Lib.hid hp
  have g1 := Lib.hid hg
  clear hp hg C
  go_wp2_with fail
  go_loopw [7] (fun v wr => v = .pointer p ∧ Hid (PS G E lv1 σ wr) ∧ Hid (W.grownBy wr (some G))) (fun _ _ => 0)
  case atStart => exact ⟨rfl, h1, g1⟩
  case round =>
    obtain ⟨rfl, h2, g2⟩ := hrel
    clear h1 g1
    go_wp2_with fail
    refine (stop_any h2.out).mono ?_; rintro e w3 ⟨rfl, hb⟩
    have h3 := Lib.hid (h2.out.below hb)
    have g3 := Lib.hid (gb_trans g2.out (gb_below (some G) hb))
    clear hb
    go_wp2_with fail
    go_ret
    exact ⟨_, rfl, ⟨⟨_, h3.out⟩, g3.out⟩, got_nil p HC.out _⟩
set_option maxRecDepth 100000 in
set_option maxHeartbeats 4000000 in
theorem expr_ok : ∀ n, ExprC n := by
  intro n
  induction n with
  | zero =>
    intro G E lv σ W least deep h _ _ _ hn _
    exact expr_stop h (fun hc => absurd (hn hc).2 (Nat.not_lt_zero _)) 0
  | succ n IH =>
    intro G E lv σ W least deep h hA hE hd hn hl4
    by_cases hc : σ.c = 0
    · have C := Lib.hid (single_any (deep := deep) IH h hA hE hn)
      have hf := show exprF E (n + 1) least deep σ = loopF E (fun l τ => exprF E n l deep τ) least (singleF E (fun d τ => exprF E n 1 d τ) deep σ).2.l.length (singleF E (fun d τ => exprF E n 1 d τ) deep σ).1 (singleF E (fun d τ => exprF E n 1 d τ) deep σ).2 from rfl
      have h0 := single_0 (E := E) (rec := fun d τ => exprF E n 1 d τ) (fun d τ => expr_0 E n 1 d τ) deep σ
      obtain ⟨hd8, hln⟩ := hn hc
      obtain ⟨R, hR⟩ : ∃ R, exprF E (n + 1) least deep σ = R := ⟨_, rfl⟩
      rw [hR] at hf ⊢
      have HG := Lib.hid h.lt
      generalize singleF E (fun d τ => exprF E n 1 d τ) deep σ = s at *
      obtain ⟨x0, σ0⟩ := s
      have HF := Lib.hid hf
      have HA0 := Lib.hid (h0.1 hA)
      have HL0 := Lib.hid (show σ0.l.length < n + 1 from Nat.lt_of_le_of_lt h0.2.1 hln)
      have HI := Lib.hid IH
      clear hf h0 hR h hA hc hn hln IH
      go_enter Tryz.func21, Tryz.ntmps21
      go_wp2_with fail
      refine (C.out).mono ?_; rintro e w1 ⟨v, rfl, ⟨⟨lv1, hp⟩, hg⟩, ⟨p, rfl⟩, hx⟩
      have h1 := Lib.hid hp
      have g1 := Lib.hid hg
      have X1 := Lib.hid hx
      clear hp hg C hx
      go_wp2_with fail
      go_loopw [7] (fun v wr => LpR G E n deep least R W v wr) (fun _ wr => lenAt G wr)
      case atStart => exact ⟨σ0.l.length, x0, σ0, lv1, p, rfl, Lib.hid HF.out.symm, Lib.hid (Nat.le_refl _), h1, g1, X1, HA0, Lib.hid fun _ => ⟨hd8, HL0.out⟩⟩
      case round =>
        clear h1 g1 X1 HF HA0 HL0
        obtain ⟨m, x, τ, lv2, q, rfl, hF, hm, h2, g2, X2, hA2, hN2⟩ := hrel
        obtain ⟨s, hs⟩ : ∃ s, txt τ = s := ⟨_, rfl⟩
        obtain ⟨hv, hhv⟩ : ∃ k, hold s = k := ⟨_, rfl⟩
        have HS := Lib.hid hs
        have HV := Lib.hid hhv
        have hv3 : hv ≤ 3 := by rw [← hhv]; exact hold_le s
        by_cases hc : τ.c = 0
        · have hbd := bad_no hc
          by_cases h5 : least ≤ hv
          · by_cases h6 : 0 < hv
            · have d5 : (least : Int) ≤ (hv : Int) := by omega
              have d6 : (0 : Int) < (hv : Int) := by omega
              have hse : txt τ ≠ emp := by intro e; rw [hs] at e; subst e; rw [hold_emp] at hhv; omega
              have hpl := pass_lt (E := E) hse
              obtain ⟨hd8', hl2⟩ := hN2.out hc
              have hm1 := hm.out
              obtain ⟨m', rfl⟩ : ∃ m', m = m' + 1 := ⟨m - 1, by omega⟩
              have hF2 := hF.out
              unfold loopF at hF2
              rw [if_pos ⟨hc, by rw [hs, hhv]; exact h5, by rw [hs, hhv]; exact h6⟩] at hF2
              simp only [hs, hhv] at hF2
              have HF2 := Lib.hid hF2
              have h00 := (pass_0 E τ).trans (expr_0 E n (hv + 1) deep (pass E τ))
              have HA3 := Lib.hid (h00.1 hA2.out)
              clear h00
              have HAp := (pass_0 E τ).1 hA2.out
              have HL3 := Lib.hid (show (exprF E n (hv + 1) deep (pass E τ)).2.l.length ≤ m' from by have := (expr_0 E n (hv + 1) deep (pass E τ)).2.1; omega)
              have HL4 := Lib.hid (show (exprF E n (hv + 1) deep (pass E τ)).2.l.length < lenAt G wr from by rw [lenAt_ps h2.out]; have := (expr_0 E n (hv + 1) deep (pass E τ)).2.1; omega)
              have HL5 := Lib.hid (show (exprF E n (hv + 1) deep (pass E τ)).2.l.length < n + 1 from by have := (expr_0 E n (hv + 1) deep (pass E τ)).2.1; omega)
              have HX := Lib.hid (fun lv' w' (hp : PS G E lv' (pass E τ) w') => HI.out G E lv' _ w' (hv + 1) deep hp HAp hE hd (fun _ => ⟨hd8', by omega⟩) (by omega))
              obtain ⟨y, ey, hy⟩ := X2.out hc
              subst ey
              have HY := Lib.hid hy
              obtain ⟨h1v, hh1⟩ : ∃ k, hv + 1 = k := ⟨_, rfl⟩
              have dp : IntKind.i64.wrap ((hv : Int) + 1) = (h1v : Int) := by rw [IntKind.wrap_i64]; omega
              have dq : (hv : Int) + 1 = (h1v : Int) := by omega
              rw [hh1] at HX HL3 HL4 HL5 HA3 HF2
              clear hh1
              obtain ⟨r, hr⟩ : ∃ r, exprF E n h1v deep (pass E τ) = r := ⟨_, rfl⟩
              rw [hr] at HX HL3 HL4 HL5 HA3 HF2
              clear hr hF hm hN2 X2 hF2 HAp hy hpl hse hl2 hm1 hc hA2 hhv hs
              have g0 := Lib.hid (gb_refl wr (some G))
              go_wp2_with fail
              refine (stop_any h2.out).mono ?_; rintro e w3 ⟨rfl, hb⟩
              have h3 := Lib.hid (h2.out.below hb)
              have g3 := Lib.hid (gb_trans g0.out (gb_below (some G) hb))
              clear hb
              go_wp2_with fail
              refine (text_any h3.out).mono ?_; rintro e w4 ⟨rfl, hb⟩
              rw [HS.out]
              have h4 := Lib.hid (h3.out.below hb)
              have g4 := Lib.hid (gb_trans g3.out (gb_below (some G) hb))
              clear hb
              go_wp2_with fail
              refine (hold_any s _).mono ?_; rintro e wz ⟨rfl, rfl⟩
              rw [HV.out]
              go_wp2_with fail
              refine (text_any h4.out).mono ?_; rintro e w5 ⟨rfl, hb⟩
              rw [HS.out]
              have h5 := Lib.hid (h4.out.below hb)
              have g5 := Lib.hid (gb_trans g4.out (gb_below (some G) hb))
              clear hb
              go_wp2_with fail
              refine (hold_any s _).mono ?_; rintro e wz ⟨rfl, rfl⟩
              rw [HV.out]
              go_wp2_with fail
              refine (place_any h5.out).mono ?_; rintro e w6 ⟨rfl, hb⟩
              have h6 := Lib.hid (h5.out.below hb)
              have g6 := Lib.hid (gb_trans g5.out (gb_below (some G) hb))
              clear hb
              go_wp2_with fail
              refine (text_any h6.out).mono ?_; rintro e w7 ⟨rfl, hb⟩
              rw [HS.out]
              have h7 := Lib.hid (h6.out.below hb)
              have g7 := Lib.hid (gb_trans g6.out (gb_below (some G) hb))
              clear hb
              go_wp2_with fail
              refine (pass_any h7.out).mono ?_; rintro e w8 ⟨rfl, ⟨lv8, hp⟩, hg⟩
              have h8 := Lib.hid hp
              have g8 := Lib.hid (gb_trans g7.out hg)
              clear hp hg
              go_wp2_with fail
              refine (hold_any s _).mono ?_; rintro e wz ⟨rfl, rfl⟩
              rw [HV.out]
              go_wp2_with fail
              refine (HX.out _ _ h8.out).mono ?_; rintro e w9 ⟨v9, rfl, ⟨⟨lv9, hp⟩, hg⟩, ⟨p9, rfl⟩, hx⟩
              have h9 := Lib.hid hp
              have g9 := Lib.hid (gb_trans g8.out hg)
              have s8 := Lib.hid (Nat.le_trans g2.out.size g8.out.size)
              have X9 := Lib.hid hx
              clear hp hg hx
              go_wp2_with fail
              have hbx := (Below.refl w9.heap.size w9).alloc (Nat.le_refl _) (exCells 3 (pos E τ) 0 emp s (.pointer q) (.pointer p9))
              have HP := Lib.hid (h9.out.below hbx)
              have HGB := Lib.hid (gb_trans g2.out (gb_trans g9.out (gb_below (some G) hbx)))
              have HE := Lib.hid (show r.2.c = 0 → ∃ z, binO (pos E τ) s (some y) r.1 = some z ∧ ExF W.heap.size (w9.alloc (exCells 3 (pos E τ) 0 emp s (.pointer q) (.pointer p9))) z (.pointer (some ⟨w9.heap.size, 0, none⟩)) from fun ec => by
                obtain ⟨x9, e9, hx9⟩ := X9.out ec
                exact ⟨_, by rw [e9]; rfl, exF_bin (Nat.le_trans g2.out.size g9.out.size) _ _ (HY.out.grown g9.out HG.out) (ExF.low hx9 s8.out)⟩)
              have HN := Lib.hid (show r.2.c = 0 → deep ≤ 8 ∧ r.2.l.length < n + 1 from fun _ => ⟨hd8', HL5.out⟩)
              have HM := Lib.hid (lenAt_ps HP.out)
              clear hbx
              go_roundw
              case rel => first | exact ⟨m', _, r.2, lv9, _, rfl, HF2, HL3, HP, HGB, HE, HA3, HN⟩ | ((repeat apply Exists.intro); exact ⟨⟨m', _, r.2, lv9, _, rfl, HF2, HL3, HP, HGB, HE, HA3, HN⟩, rfl⟩)
              case measure =>
                have hL := HL4.out
                rw [← HM.out] at hL
                exact hL
            · have d5 : (least : Int) ≤ (hv : Int) := by omega
              have d6 : ¬ (0 : Int) < (hv : Int) := by omega
              have HR := Lib.hid (show (x, τ) = R by rw [← hF.out]; exact (loopF_stop m x (fun e => by rw [hs, hhv] at e; omega)).symm)
              clear hF hm hN2 hc hA2 hhv hs
              have g0 := Lib.hid (gb_refl wr (some G))
              go_wp2_with fail
              refine (stop_any h2.out).mono ?_; rintro e w3 ⟨rfl, hb⟩
              have h3 := Lib.hid (h2.out.below hb)
              have g3 := Lib.hid (gb_trans g0.out (gb_below (some G) hb))
              clear hb
              go_wp2_with fail
              refine (text_any h3.out).mono ?_; rintro e w4 ⟨rfl, hb⟩
              rw [HS.out]
              have h4 := Lib.hid (h3.out.below hb)
              have g4 := Lib.hid (gb_trans g3.out (gb_below (some G) hb))
              clear hb
              go_wp2_with fail
              refine (hold_any s _).mono ?_; rintro e wz ⟨rfl, rfl⟩
              rw [HV.out]
              go_wp2_with fail
              refine (text_any h4.out).mono ?_; rintro e w5 ⟨rfl, hb⟩
              rw [HS.out]
              have h5 := Lib.hid (h4.out.below hb)
              have g5 := Lib.hid (gb_trans g4.out (gb_below (some G) hb))
              clear hb
              go_wp2_with fail
              refine (hold_any s _).mono ?_; rintro e wz ⟨rfl, rfl⟩
              rw [HV.out]
              go_wp2_with fail
              go_ret
              refine ⟨_, rfl, ?_⟩
              rw [← HR.out]
              exact ⟨⟨⟨_, h5.out⟩, gb_trans g2.out g5.out⟩, ⟨_, rfl⟩, fun ec => by
                obtain ⟨y, ey, hy⟩ := X2.out ec
                exact ⟨y, ey, hy.grown g5.out HG.out⟩⟩
          · have d5 : ¬ (least : Int) ≤ (hv : Int) := by omega
            have HR := Lib.hid (show (x, τ) = R by rw [← hF.out]; exact (loopF_stop m x (fun e => by rw [hs, hhv] at e; omega)).symm)
            clear hF hm hN2 hc hA2 hhv hs
            have g0 := Lib.hid (gb_refl wr (some G))
            go_wp2_with fail
            refine (stop_any h2.out).mono ?_; rintro e w3 ⟨rfl, hb⟩
            have h3 := Lib.hid (h2.out.below hb)
            have g3 := Lib.hid (gb_trans g0.out (gb_below (some G) hb))
            clear hb
            go_wp2_with fail
            refine (text_any h3.out).mono ?_; rintro e w4 ⟨rfl, hb⟩
            rw [HS.out]
            have h4 := Lib.hid (h3.out.below hb)
            have g4 := Lib.hid (gb_trans g3.out (gb_below (some G) hb))
            clear hb
            go_wp2_with fail
            refine (hold_any s _).mono ?_; rintro e wz ⟨rfl, rfl⟩
            rw [HV.out]
            go_wp2_with fail
            go_ret
            refine ⟨_, rfl, ?_⟩
            rw [← HR.out]
            exact ⟨⟨⟨_, h4.out⟩, gb_trans g2.out g4.out⟩, ⟨_, rfl⟩, fun ec => by
              obtain ⟨y, ey, hy⟩ := X2.out ec
              exact ⟨y, ey, hy.grown g4.out HG.out⟩⟩
        · have hbd := bad_yes hc
          have HR := Lib.hid (show (x, τ) = R by rw [← hF.out]; exact (loopF_stop m x (fun e => by exact hc e.1)).symm)
          clear hF hm hN2 hc hA2 hhv hs
          have g0 := Lib.hid (gb_refl wr (some G))
          go_wp2_with fail
          refine (stop_any h2.out).mono ?_; rintro e w3 ⟨rfl, hb⟩
          have h3 := Lib.hid (h2.out.below hb)
          have g3 := Lib.hid (gb_trans g0.out (gb_below (some G) hb))
          clear hb
          go_wp2_with fail
          go_ret
          refine ⟨_, rfl, ?_⟩
          rw [← HR.out]
          exact ⟨⟨⟨_, h3.out⟩, gb_trans g2.out g3.out⟩, ⟨_, rfl⟩, fun ec => by
            obtain ⟨y, ey, hy⟩ := X2.out ec
            exact ⟨y, ey, hy.grown g3.out HG.out⟩⟩
    · exact expr_stop h hc (n + 1)
end
end Go.Proofs.YtofmheeiplagjaaGreatDoor.Tm
