/-
  PROVED HERE: the contract of the document's ExprParse. Conditions: as each theorem states.
-/
import Derived.Test.YtofmheeiplagjaaGreatDoorExpF
namespace Go.Proofs.YtofmheeiplagjaaGreatDoor.Tm
open Go.RowKit Go.Proofs.YtofmheeiplagjaaGreatDoor.Lex Go.Proofs.YtofmheeiplagjaaGreatDoor.Dig
theorem dp_results (tmps : Array Value) (w : World) (g : Nat) (v0 v1 : Value) (h3 : tmps.getD 3 undef = .pointer (some ⟨g, 0, none⟩)) (c0 : w.cell? ⟨g, 0, none⟩ = some v0) (c1 : w.cell? ⟨g, 1, none⟩ = some v1) :
    (results Tryz.f6 tmps).run Tryz.prog w = .ok (.tuple #[tmps.getD 2 undef, .agg #[v0, v1]]) w := by
  have h3' : tmps[3]?.getD undef = .pointer (some ⟨g, 0, none⟩) := by simpa using h3
  simp only [results, Tryz.f6]
  simp [go_sem, h3', c0, c1]
theorem below_gb {W w w' : World} {G : Nat} (h : Below W.heap.size W w) (hg : w.grownBy w' (some G)) (hG : W.heap.size ≤ G) : Below W.heap.size W w' :=
  h.trans ⟨hg.os, hg.tape, hg.output, hg.size, fun k hk => hg.block k (Nat.lt_of_lt_of_le hk h.size) (fun e => by injection e; omega)⟩
def DpP (s : ByteArray) (W : World) (e : Ending) (w' : World) : Prop := ∃ v, e = .returned (.tuple #[v, .agg #[.int .i64 (pfS s).1, .int .i64 (pfS s).2]]) ∧ Below W.heap.size W w' ∧ ((pfS s).1 ≠ 0 → v = .pointer none) ∧ ((pfS s).1 = 0 → ∃ x, (prS s).1 = some x ∧ ExAt w' x v)
set_option maxRecDepth 100000 in
set_option maxHeartbeats 4000000 in
theorem docParse_any (s : ByteArray) (hs : s.size ≤ 4000) (hf : s.size ≤ 900 ∨ 3000 < s.size) (W : World) : Calls Tryz.prog 6 #[.string s] W (DpP s W) := by
  have HA := Lib.hid (allT_rl hf)
  go_enter Tryz.func6, Tryz.ntmps6
  go_wp2_with fail
  refine (newEyes_any s hs _).mono ?_; rintro e w1 ⟨G, lv, rfl, hp, hb, hG⟩
  have hG' : W.heap.size + 1 ≤ G := by simpa using hG
  have hP := Lib.hid hp
  have hl1 := hp.lt
  have hr := (hb.block W.heap.size (by simp)).trans (heap_alloc_new W (.cells #[.int .i64 0, .int .i64 0] 27))
  have B1 := Lib.hid (show Below W.heap.size W w1 from ((Below.refl _ _).alloc (Nat.le_refl _) _).trans ⟨hb.os, hb.tape, hb.output, hb.size, fun k hk => hb.block k (by simp; omega)⟩)
  obtain ⟨C, hC⟩ : ∃ c, rc s = c := ⟨_, rfl⟩
  obtain ⟨Pp, hPp⟩ : ∃ c, rp s = c := ⟨_, rfl⟩
  rw [hC, hPp]
  have HCC := Lib.hid hC
  have HPP := Lib.hid hPp
  clear hp hb hG hC hPp
  go_upto_region 2 with fail
  have hF : (w1.alloc (.cells #[.int .i64 C, .int .i64 Pp] 27)).heap[w1.heap.size]? = some (.cells #[.int .i64 C, .int .i64 Pp] 27) := heap_alloc_new _ _
  have b2 : Below w1.heap.size w1 (w1.alloc (.cells #[.int .i64 C, .int .i64 Pp] 27)) := (Below.refl _ _).alloc (Nat.le_refl _) _
  generalize w1.alloc (.cells #[.int .i64 C, .int .i64 Pp] 27) = w2 at *
  have hR : w2.heap[W.heap.size]? = some (.cells #[.int .i64 0, .int .i64 0] 27) := (b2.block _ (by omega)).trans hr
  have B2 := Lib.hid (B1.out.trans (b2.mono B1.out.size))
  have P2 := Lib.hid (hP.out.below b2)
  have HR := Lib.hid hR
  have y0 : w2.cell? ⟨w1.heap.size, 0, none⟩ = some (.int .i64 C) := by unfold World.cell?; rw [hF]; rfl
  have y1 : w2.cell? ⟨w1.heap.size, 1, none⟩ = some (.int .i64 Pp) := by unfold World.cell?; rw [hF]; rfl
  clear hr b2 hP hF hR B1
  go_wp2_with fail
  refine (is_any C Pp w2).mono ?_; rintro e w3 ⟨rfl, hb⟩
  have P3 := Lib.hid (P2.out.below hb)
  have z0 := keepCell hb y0
  have z1 := keepCell hb y1
  have hs2 := P2.out.lt
  have HR3 := Lib.hid ((hb.block W.heap.size (by omega)).trans HR.out)
  have B3 := Lib.hid (B2.out.trans (hb.mono B2.out.size))
  have hwl := (Array.getElem?_eq_some_iff.1 HR3.out).1
  have hGs := P3.out.lt
  clear hb y0 y1 HR B2 P2 hs2
  by_cases hc0 : C = 0
  · subst hc0
    clear z0 z1
    have HE := Lib.hid (expr_ok ((rl s).length + 1) G s.size lv ⟨0, -1, rl s⟩ w3 1 0 P3.out HA.out hs (by omega) (fun _ => ⟨by omega, Nat.lt_succ_self _⟩) (by omega))
    obtain ⟨R, hRe⟩ : ∃ R, prS s = R := ⟨_, rfl⟩
    rw [show exprF s.size ((rl s).length + 1) 1 0 ⟨0, -1, rl s⟩ = R from hRe] at HE
    have HPR := Lib.hid hRe
    clear hRe
    go_wp2_with fail
    refine (HE.out).mono ?_; rintro e w5 ⟨v, rfl, ⟨⟨lv5, hp⟩, hg⟩, ⟨p, rfl⟩, hgot⟩
    have h5 := Lib.hid hp
    have g5 := Lib.hid hg
    have G5 := Lib.hid hgot
    obtain ⟨aa, cc, rfl, _⟩ := hp.cap
    have x0 := h5.out.c0
    clear hp hg hgot HE
    by_cases hl : R.2.l = []
    · rw [hl, List.length_nil] at x0
      by_cases hc : R.2.c = 0
      · have hf : pfS s = (0, -1) := pfS_ok HCC.out (by rw [HPR.out]; exact hc) (by rw [HPR.out]; exact hl)
        obtain ⟨x, hx, hxf⟩ := G5.out hc
        have HX := Lib.hid hx
        have XF := Lib.hid hxf
        have HC := Lib.hid hc
        have HF := Lib.hid hf
        clear hx hxf hf hc hl G5
        go_wp2_with fail
        refine (stop_any h5.out).mono ?_; rintro e w8 ⟨rfl, hb⟩
        rw [bad_no HC.out]
        have g8 := Lib.hid (gb_trans g5.out (gb_below (some G) hb))
        have X8 := Lib.hid (XF.out.later hb.size (fun k _ hk => hb.block k hk))
        clear hb
        go_wp2_with fail
        refine (good_any w8).mono ?_; rintro e w9 ⟨rfl, hb⟩
        have g9 := Lib.hid (gb_trans g8.out (gb_below (some G) hb))
        have X9 := Lib.hid (X8.out.later hb.size (fun k _ hk => hb.block k hk))
        have R9 := Lib.hid ((g9.out.block _ hwl (fun e => by injection e; omega)).trans HR3.out)
        have B9 := Lib.hid (below_gb B3.out g9.out (by omega))
        have r0 : w9.cell? ⟨W.heap.size, 0, none⟩ = some (.int .i64 0) := by unfold World.cell?; rw [R9.out]; rfl
        have r1 : w9.cell? ⟨W.heap.size, 1, none⟩ = some (.int .i64 0) := by unfold World.cell?; rw [R9.out]; rfl
        have p0 : ∀ j, w9.frozen? ⟨W.heap.size, j, none⟩ = false := fun j => by unfold World.frozen?; rw [R9.out]; rfl
        clear hb
        go_wp2_with fail
        refine bodyPost_ret (dp_results _ _ W.heap.size (.int .i64 0) (.int .i64 (-1)) rfl (by go_simp) (by go_simp)) rfl ?_
        refine ⟨_, by rw [HF.out], below_set_at (below_set_at B9.out (Nat.le_refl _)) (Nat.le_refl _), fun h => absurd (by rw [HF.out]) h, fun _ => ⟨x, by rw [HPR.out]; exact HX.out, ?_⟩⟩
        exact ((X9.out.later (by simp [World.setCell]) (fun k hk _ => Below.heap_setCell _ _ _ _ (show k ≠ W.heap.size by omega))).later (by simp [World.setCell]) (fun k hk _ => Below.heap_setCell _ _ _ _ (show k ≠ W.heap.size by omega))).now
      · have hf : pfS s = (R.2.c, R.2.a) := by rw [pfS_bad HCC.out (by rw [HPR.out]; exact hc), HPR.out]
        have C7 := Lib.hid hc
        have h7 := h5
        have g7 := g5
        generalize R.2 = τ at *
        clear hc hl G5
        go_wp2_with fail
        refine (stop_any h7.out).mono ?_; rintro e w8 ⟨rfl, hb⟩
        rw [bad_yes C7.out]
        have h8 := Lib.hid (h7.out.below hb)
        have g8 := Lib.hid (gb_trans g7.out (gb_below (some G) hb))
        have R8 := Lib.hid ((g8.out.block _ hwl (fun e => by injection e; omega)).trans HR3.out)
        have B8 := Lib.hid (below_gb B3.out g8.out (by omega))
        have k0 := h8.out.c2
        have k1 := h8.out.c3
        have r0 : w8.cell? ⟨W.heap.size, 0, none⟩ = some (.int .i64 0) := by unfold World.cell?; rw [R8.out]; rfl
        have r1 : w8.cell? ⟨W.heap.size, 1, none⟩ = some (.int .i64 0) := by unfold World.cell?; rw [R8.out]; rfl
        have p0 : ∀ j, w8.frozen? ⟨W.heap.size, j, none⟩ = false := fun j => by unfold World.frozen?; rw [R8.out]; rfl
        have HF := Lib.hid hf
        clear hb hf
        go_upto_region 8 with fail
        go_region
        go_wp2_with fail
        refine bodyPost_ret (dp_results _ _ W.heap.size (.int .i64 τ.c) (.int .i64 τ.a) rfl (by go_simp) (by go_simp)) rfl ?_
        exact ⟨_, by rw [HF.out]; rfl, (below_set_at (below_set_at B8.out (Nat.le_refl _)) (Nat.le_refl _)).drew, fun _ => rfl, fun h => absurd (by rw [HF.out] at h; exact h) C7.out⟩
    · have n0 : (0 : Int) < (R.2.l.length : Int) := by
        cases h : R.2.l with
        | nil => exact absurd h hl
        | cons t r => simp only [List.length_cons]; omega
      have hf : pfS s = ((wrong R.2 3 (pos s.size R.2 : Nat)).c, (wrong R.2 3 (pos s.size R.2 : Nat)).a) := by
        by_cases hc : R.2.c = 0
        · rw [pfS_rest HCC.out (by rw [HPR.out]; exact hc) (by rw [HPR.out]; exact hl), HPR.out]
          unfold wrong
          rw [if_pos hc]
        · rw [pfS_bad HCC.out (by rw [HPR.out]; exact hc), HPR.out, wrong_stop hc]
      have C7 := Lib.hid (show (wrong R.2 3 (pos s.size R.2 : Nat)).c ≠ 0 by
        by_cases hc : R.2.c = 0
        · rw [wrong_c hc]; decide
        · rw [wrong_stop hc]; exact hc)
      clear G5 hl
      go_wp2_with fail
      refine (place_any h5.out).mono ?_; rintro e w6 ⟨rfl, hb⟩
      have h6 := Lib.hid (h5.out.below hb)
      have g6 := Lib.hid (gb_trans g5.out (gb_below (some G) hb))
      clear hb
      go_wp2_with fail
      refine (wrong_any h6.out _ _).mono ?_; rintro e w7 ⟨rfl, ⟨lv7, hp⟩, hg⟩
      have h7 := Lib.hid hp
      have g7 := Lib.hid (gb_trans g6.out hg)
      clear hp hg
      generalize wrong R.2 3 (pos s.size R.2 : Nat) = τ at *
      go_wp2_with fail
      refine (stop_any h7.out).mono ?_; rintro e w8 ⟨rfl, hb⟩
      rw [bad_yes C7.out]
      have h8 := Lib.hid (h7.out.below hb)
      have g8 := Lib.hid (gb_trans g7.out (gb_below (some G) hb))
      have R8 := Lib.hid ((g8.out.block _ hwl (fun e => by injection e; omega)).trans HR3.out)
      have B8 := Lib.hid (below_gb B3.out g8.out (by omega))
      have k0 := h8.out.c2
      have k1 := h8.out.c3
      have r0 : w8.cell? ⟨W.heap.size, 0, none⟩ = some (.int .i64 0) := by unfold World.cell?; rw [R8.out]; rfl
      have r1 : w8.cell? ⟨W.heap.size, 1, none⟩ = some (.int .i64 0) := by unfold World.cell?; rw [R8.out]; rfl
      have p0 : ∀ j, w8.frozen? ⟨W.heap.size, j, none⟩ = false := fun j => by unfold World.frozen?; rw [R8.out]; rfl
      have HF := Lib.hid hf
      clear hb hf
      go_upto_region 8 with fail
      go_region
      go_wp2_with fail
      refine bodyPost_ret (dp_results _ _ W.heap.size (.int .i64 τ.c) (.int .i64 τ.a) rfl (by go_simp) (by go_simp)) rfl ?_
      exact ⟨_, by rw [HF.out]; rfl, (below_set_at (below_set_at B8.out (Nat.le_refl _)) (Nat.le_refl _)).drew, fun _ => rfl, fun h => absurd (by rw [HF.out] at h; exact h) C7.out⟩
  · have e0 : (C == 0) = false := by rw [beq_eq_false_iff_ne]; exact hc0
    have HF := Lib.hid (show pfS s = (C, Pp) by rw [pfS_lex (by rw [HCC.out]; exact hc0), HCC.out, HPP.out])
    have r0 : w3.cell? ⟨W.heap.size, 0, none⟩ = some (.int .i64 0) := by unfold World.cell?; rw [HR3.out]; rfl
    have r1 : w3.cell? ⟨W.heap.size, 1, none⟩ = some (.int .i64 0) := by unfold World.cell?; rw [HR3.out]; rfl
    have p0 : ∀ j, w3.frozen? ⟨W.heap.size, j, none⟩ = false := fun j => by unfold World.frozen?; rw [HR3.out]; rfl
    rw [e0]
    go_upto_region 3 with fail
    go_region
    go_wp2_with fail
    refine bodyPost_ret (dp_results _ _ W.heap.size (.int .i64 C) (.int .i64 Pp) rfl (by go_simp) (by go_simp)) rfl ?_
    exact ⟨_, by rw [HF.out]; rfl, (below_set_at (below_set_at B3.out (Nat.le_refl _)) (Nat.le_refl _)).drew, fun _ => rfl, fun h => absurd (by rw [HF.out] at h; exact h) hc0⟩
end Go.Proofs.YtofmheeiplagjaaGreatDoor.Tm
