/-
  PROVED HERE: the law LexCuts returns true. Conditions: as each theorem states.
-/
import Derived.Test.YtijcehimdhbceaaDoorLexG
namespace Go.Proofs.YtijcehimdhbceaaDoor.Lex
open Go.RowKit
theorem app_ok {p : List (Nat × Nat)} {r : R} {t : List (Nat × Nat)} (h : R.app p r = .ok t) : ∃ q, r = .ok q ∧ t = p ++ q := by
  cases r with
  | ok q => injection h with h; exact ⟨q, rfl, h.symm⟩
  | bad i => cases h
theorem lx_count : ∀ (n : Nat) (m : M) (i : Nat) (l : List UInt8), 2 * l.length + m.rank ≤ n → ∀ t, lx m i l = .ok t → t.length ≤ l.length + m.rank
  | n, .plain, i, [], _, t, h => by rw [lx] at h; injection h with h; subst h; simp
  | n, .remark, i, [], _, t, h => by rw [lx] at h; injection h with h; subst h; simp
  | n, .word w, i, [], _, t, h => by rw [lx] at h; injection h with h; subst h; simp [M.rank]
  | 0, .plain, i, c :: r, hn, t, h => by simp at hn
  | 0, .remark, i, c :: r, hn, t, h => by simp at hn
  | 0, .word w, i, c :: r, hn, t, h => by simp [M.rank] at hn
  | n + 1, .remark, i, c :: r, hn, t, h => by
    rw [lx] at h
    simp only [List.length_cons, M.rank] at hn ⊢
    split at h
    · have := lx_count n .plain (i + 1) r (by simp [M.rank]; omega) t h
      simp only [M.rank] at this
      omega
    · have := lx_count n .remark (i + 1) r (by simp [M.rank]; omega) t h
      simp only [M.rank] at this
      omega
  | n + 1, .plain, i, c :: r, hn, t, h => by
    rw [lx] at h
    simp only [List.length_cons, M.rank] at hn ⊢
    split at h
    · have := lx_count n (.word i) (i + 1) r (by simp [M.rank]; omega) t h
      simp only [M.rank] at this
      omega
    · split at h
      · have := lx_count n .plain (i + 1) r (by simp [M.rank]; omega) t h
        simp only [M.rank] at this
        omega
      · split at h
        · have := lx_count n .remark (i + 1) r (by simp [M.rank]; omega) t h
          simp only [M.rank] at this
          omega
        · split at h
          · cases h
          · rename_i h0
            obtain ⟨q, hq, rfl⟩ := app_ok h
            have hl : ((c :: r).drop (mk c r)).length ≤ r.length := by rw [List.length_drop, List.length_cons]; omega
            have := lx_count n .plain _ _ (by simp only [M.rank]; omega) q hq
            simp only [M.rank] at this
            rw [List.length_append, List.length_singleton]
            omega
  | n + 1, .word w, i, c :: r, hn, t, h => by
    rw [lx] at h
    simp only [List.length_cons, M.rank] at hn ⊢
    split at h
    · have := lx_count n (.word w) (i + 1) r (by simp [M.rank]; omega) t h
      simp only [M.rank] at this
      omega
    · obtain ⟨q, hq, rfl⟩ := app_ok h
      have := lx_count n .plain i (c :: r) (by simp [M.rank]; omega) q hq
      simp only [List.length_cons, M.rank] at this
      rw [List.length_append, List.length_singleton]
      omega
theorem rl_count (s : ByteArray) : (rl s).length ≤ s.size := by
  unfold rl
  split
  · exact Nat.zero_le _
  · split
    · rename_i l hl
      have := lx_count (2 * s.size) .plain 0 (lst s) (by rw [lst_len]; simp [M.rank]) l hl
      rw [lst_len] at this
      rw [tks_len]
      simpa [M.rank] using this
    · exact Nat.zero_le _
theorem far_yes (s : ByteArray) (h : (900 < s.size ∧ s.size ≤ 3000) ∨ 3009 < s.size) (W : World) : Calls Tryd.prog 5 #[.string s] W fun e w' => e = .returned (.bool true) ∧ W = w' := by
  rcases h with ⟨h1, h2⟩ | h1
  · go_enter Tryd.func5, Tryd.ntmps5
    go_wp2_with fail
    go_ret
    exact ⟨ret_bool (by first | rfl | (simp; omega)), rfl⟩
  · have h3 : 900 < s.size := by omega
    have h4 : 3000 < s.size := by omega
    go_enter Tryd.func5, Tryd.ntmps5
    go_wp2_with fail
    go_ret
    exact ⟨ret_bool (by first | rfl | (simp; omega)), rfl⟩
theorem far_no (s : ByteArray) (h : s.size ≤ 900 ∨ (3000 < s.size ∧ s.size ≤ 3009)) (W : World) : Calls Tryd.prog 5 #[.string s] W fun e w' => e = .returned (.bool false) ∧ W = w' := by
  rcases h with h1 | ⟨h1, h2⟩
  · have h3 : s.size ≤ 3009 := by omega
    go_enter Tryd.func5, Tryd.ntmps5
    go_wp2_with fail
    go_ret
    exact ⟨ret_bool (by first | rfl | (simp; omega)), rfl⟩
  · have h3 : 900 < s.size := by omega
    go_enter Tryd.func5, Tryd.ntmps5
    go_wp2_with fail
    go_ret
    exact ⟨ret_bool (by first | rfl | (simp; omega)), rfl⟩
set_option maxRecDepth 100000 in
set_option maxHeartbeats 4000000 in
theorem cuts_walk (s : ByteArray) (W : World) (hg : Err.Home W) (hm : HomeM W) : Calls Tryd.prog 3 #[.string s] W fun e w' => e = .returned (.bool true) ∧ Below W.heap.size W w' := by
  by_cases hf : (900 < s.size ∧ s.size ≤ 3000) ∨ 3009 < s.size
  · have F := Lib.hid (far_yes s hf)
    clear hf
    go_enter Tryd.func3, Tryd.ntmps3
    go_wp2_with fail
    refine (F.out _).mono ?_; rintro e w' ⟨rfl, rfl⟩
    go_wp2_with fail
    go_ret
    exact ⟨rfl, Below.refl _ _⟩
  have F := Lib.hid (far_no s (by omega))
  have hs : s.size ≤ 4000 := by omega
  have D := Lib.hid (docLex_any s hs W)
  have P0 := fun w hw => lex_any s hs w hw
  unfold PX at P0
  have P := Lib.hid P0
  clear P0
  have N1 := Lib.hid (name_any s)
  have hLc : (rl s).length ≤ 4000 := Nat.le_trans (rl_count s) hs
  have N2 := Lib.hid (docName_any s)
  have PL := Lib.hid (fun v w hw h => Chr.placed_any v (rc s) (rp s) (rc s) (rp s) w hw h)
  have hbn : (isN s != isN s) = false := by simp
  have HG := Lib.hid hg
  have HM := Lib.hid hm
  have hpe : (rc s == rc s && rp s == rp s) = true := by simp
  have hpeH := Lib.hid hpe
  clear hf hg hm hpe
  generalize isN s = bn at *
  go_enter Tryd.func3, Tryd.ntmps3
  go_wp2_with fail
  refine (F.out _).mono ?_; rintro e w' ⟨rfl, rfl⟩
  go_wp2_with fail
  refine (D.out).mono ?_; rintro e w1 ⟨v1, rfl, hT1, hb1⟩
  have B1 := Lib.hid hb1
  have T1 := Lib.hid hT1
  clear hT1 hb1
  generalize rl s = L at *
  generalize rc s = C at *
  generalize rp s = Q at *
  have B2 := Lib.hid (B1.out.alloc B1.out.size (.cells #[.int .i64 C, .int .i64 Q] 26))
  have T2 := Lib.hid (T1.out.below ((Below.refl _ _).alloc (Nat.le_refl _) (.cells #[.int .i64 C, .int .i64 Q] 26)))
  obtain ⟨a1, cap1, rfl, -⟩ := T1.out
  go_wp2_with fail
  refine (P.out _ (HM.out.below B2.out)).mono ?_; rintro e w2 ⟨v2, x, rfl, hT3, hE, hb2⟩
  have B3 := Lib.hid (B2.out.trans (hb2.mono B2.out.size))
  have T3 := Lib.hid (T2.out.below hb2)
  have q0 : w2.cell? ⟨w1.heap.size, 0, none⟩ = some (.int .i64 C) := keepCell hb2 (by rw [World.cell?_alloc_new]; rfl)
  have q1 : w2.cell? ⟨w1.heap.size, 1, none⟩ = some (.int .i64 Q) := keepCell hb2 (by rw [World.cell?_alloc_new]; rfl)
  have T4 := Lib.hid hT3
  have E1 := Lib.hid hE
  obtain ⟨a2, cap2, rfl, -⟩ := hT3
  clear hb2 hE B1 B2 T1 T2 D P
  go_wp2_with fail
  refine (PL.out _ _ (HG.out.below B3.out) E1.out).mono ?_; rintro e w3 ⟨rfl, hb3⟩
  have B4 := Lib.hid (B3.out.trans (hb3.mono B3.out.size))
  have T5 := Lib.hid (T3.out.below hb3)
  have T6 := Lib.hid (T4.out.below hb3)
  clear hb3 q0 q1 B3 T3 T4 E1 PL
  have hpe := hpeH.out
  have hln : ((L.length : Int) != (L.length : Int)) = false := by simp
  rw [hpe]
  clear hpe
  go_wp2_with fail
  refine (N1.out _).mono ?_; rintro e w' ⟨rfl, rfl⟩
  go_wp2_with fail
  refine (N2.out _).mono ?_; rintro e w' ⟨rfl, rfl⟩
  go_wp2_with fail
  go_loopw [7] (fun i wr => ∃ k : Nat, k ≤ L.length ∧ i = .int .i64 k ∧ Hid (Below W.heap.size W wr) ∧ Hid (Tks wr (.slice a1 L.length cap1) L) ∧ Hid (Tks wr (.slice a2 L.length cap2) L)) (fun i _ => L.length - (intOf i).toNat)
  case atStart => exact ⟨0, Nat.zero_le _, rfl, B4, T5, T6⟩
  case round =>
    obtain ⟨k, hk, rfl, hB, hX, hY⟩ := hrel
    by_cases hlt : k < L.length
    · obtain ⟨ad, rfl, d0, d1⟩ := hX.out.at_ k hlt
      obtain ⟨ad', rfl, e0, e1⟩ := hY.out.at_ k hlt
      generalize L[k] = e at *
      obtain ⟨tx, pl⟩ := e
      simp only at d0 d1 e0 e1
      have i1 : (0 : Int) ≤ (k : Int) := by omega
      have i2 : (k : Int) < (L.length : Int) := by omega
      go_wp2_with fail
      go_quiet (fail)
      have hB2 := Lib.hid (below_drewN hB.out nq)
      have hX2 : Hid (Tks (wr.drewN nq) (.slice (some ad) L.length cap1) L) := Lib.hid hX.out
      have hY2 : Hid (Tks (wr.drewN nq) (.slice (some ad') L.length cap2) L) := Lib.hid hY.out
      go_wp2_with fail
      go_roundw
      case rel => first | exact ⟨k + 1, by omega, by go_num, hB2, hX2, hY2⟩ | ((repeat apply Exists.intro); exact ⟨⟨k + 1, by omega, by go_num, hB2, hX2, hY2⟩, rfl⟩)
      case measure => simp [intOf]; omega
    · obtain rfl : k = L.length := by omega
      go_wp2_with fail
      go_ret
      exact ⟨rfl, hB.out⟩
end Go.Proofs.YtijcehimdhbceaaDoor.Lex
