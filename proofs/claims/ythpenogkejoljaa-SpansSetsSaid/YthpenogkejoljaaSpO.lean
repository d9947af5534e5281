/-
  PROVED HERE: Right of the program and of the document. Conditions: as each theorem states.
-/
import Derived.Test.YthpenogkejoljaaSpL
namespace Go.Proofs.Ythpenogkejoljaa.Sp
open Go.RowKit
def rt : Int → List Spn → Bool
  | _, [] => true
  | a, x :: r => !decide (x.1 ≤ a) && !decide (x.2 ≤ x.1) && rt x.2 r
theorem rt_at (a : Int) (l : List Spn) (k : Nat) (hk : k < l.length) : rt a (l.drop k) = (!decide (l[k].1 ≤ a) && !decide (l[k].2 ≤ l[k].1) && rt l[k].2 (l.drop (k + 1))) := by
  rw [List.drop_eq_getElem_cons hk]
  rfl
set_option maxRecDepth 100000 in
set_option maxHeartbeats 2000000 in
theorem right_any (w : World) (v : Value) (l : List Spn) (h : Sps w v l) (hn : l.length ≤ 10000) : Calls Try.prog 16 #[v] w fun e w' => e = .returned (.bool (rt (-1) l)) ∧ Below w.heap.size w w' := by
  have UH := Lib.hid h
  obtain ⟨a, cap, rfl, -⟩ := h
  go_enter Try.func16, Try.ntmps16
  go_wp2_with fail
  go_loopw [3, 8] (fun la i wr => ∃ (k : Nat) (last : Int), k ≤ l.length ∧ i = .int .i64 (k : Int) ∧ la = .int .i64 last ∧ Hid (rt last (l.drop k) = rt (-1) l) ∧ Hid (Below w.heap.size w wr)) (fun _ i _ => l.length - (intOf i).toNat)
  case atStart => exact ⟨0, -1, Nat.zero_le _, rfl, rfl, Lib.hid rfl, Lib.hid (Below.refl _ _)⟩
  case round =>
    obtain ⟨k, last, hk, rfl, rfl, hF, hB⟩ := hrel
    by_cases hlt : k < l.length
    · obtain ⟨ad, rfl, x0, x1⟩ := UH.out.at_ k hlt
      have i1 : (0 : Int) ≤ (k : Int) := by omega
      have i2 : (k : Int) < (l.length : Int) := by omega
      have y0 := keepCell hB.out x0
      have y1 := keepCell hB.out x1
      have hT := rt_at last l k hlt
      rw [hF.out] at hT
      clear x0 x1 hF
      generalize l[k] = x at *
      obtain ⟨xf, xt⟩ := x
      simp only at y0 y1 hT
      have hB2 := Lib.hid (hB.out.alloc hB.out.size (.cells #[.int .i64 xf, .int .i64 xt] 26))
      by_cases h1 : xf ≤ last
      · have d1 : decide (xf ≤ last) = true := decide_eq_true h1
        have hr : Hid (rt (-1) l = false) := Lib.hid (by rw [hT, d1]; rfl)
        clear hT
        go_wp2_with fail
        go_ret
        exact ⟨by rw [hr.out]; rfl, hB2.out⟩
      have d1 : decide (xf ≤ last) = false := decide_eq_false h1
      by_cases h2 : xt ≤ xf
      · have d2 : decide (xt ≤ xf) = true := decide_eq_true h2
        have hr : Hid (rt (-1) l = false) := Lib.hid (by rw [hT, d1, d2]; rfl)
        clear hT
        go_wp2_with fail
        go_ret
        exact ⟨by rw [hr.out]; rfl, hB2.out⟩
      have d2 : decide (xt ≤ xf) = false := decide_eq_false h2
      have hr : Hid (rt xt (l.drop (k + 1)) = rt (-1) l) := Lib.hid (by rw [hT, d1, d2]; rfl)
      clear hT
      go_wp2_with fail
      go_roundw
      case rel => first | exact ⟨k + 1, xt, by omega, by go_num, rfl, hr, hB2⟩ | ((repeat apply Exists.intro); exact ⟨⟨k + 1, xt, by omega, by go_num, rfl, hr, hB2⟩, rfl⟩)
      case measure => simp [intOf]; omega
    · obtain rfl : k = l.length := by omega
      have hr : Hid (rt (-1) l = true) := Lib.hid (by rw [← hF.out, List.drop_length]; rfl)
      clear hF
      go_wp2_with fail
      go_ret
      exact ⟨by rw [hr.out]; rfl, hB.out⟩
set_option maxRecDepth 100000 in
set_option maxHeartbeats 2000000 in
theorem docRight_any (w : World) (v : Value) (l : List Spn) (h : Sps w v l) (hn : l.length ≤ 10000) : Calls Try.prog 17 #[v] w fun e w' => e = .returned (.bool (rt (-1) l)) ∧ Below w.heap.size w w' := by
  have UH := Lib.hid h
  obtain ⟨a, cap, rfl, -⟩ := h
  go_enter Try.func17, Try.ntmps17
  go_wp2_with fail
  go_loopw [7] (fun i wr => ∃ (k : Nat) (last : Int), k ≤ l.length ∧ i = .int .i64 (k : Int) ∧ Hid (-1 ≤ last ∧ (k = 0 → last = -1) ∧ ∀ h : k - 1 < l.length, 0 < k → last = l[k - 1].2) ∧ Hid (rt last (l.drop k) = rt (-1) l) ∧ Hid (Below w.heap.size w wr)) (fun i _ => l.length - (intOf i).toNat)
  case atStart => exact ⟨0, -1, Nat.zero_le _, rfl, Lib.hid ⟨Int.le_refl _, fun _ => rfl, fun _ h => absurd h (Nat.lt_irrefl 0)⟩, Lib.hid rfl, Lib.hid (Below.refl _ _)⟩
  case round =>
    obtain ⟨k, last, hk, rfl, hL, hF, hB⟩ := hrel
    by_cases hlt : k < l.length
    · obtain ⟨ad, rfl, x0, x1⟩ := UH.out.at_ k hlt
      have i1 : (0 : Int) ≤ (k : Int) := by omega
      have i2 : (k : Int) < (l.length : Int) := by omega
      have y0 := keepCell hB.out x0
      have y1 := keepCell hB.out x1
      have hT := rt_at last l k hlt
      rw [hF.out] at hT
      clear x0 x1 hF
      have hnext : ∀ xt', l[k].2 = xt' → ∀ h : k + 1 - 1 < l.length, 0 < k + 1 → xt' = l[k + 1 - 1].2 := fun xt' e h _ => e.symm
      generalize hx : l[k] = x at *
      obtain ⟨xf, xt⟩ := x
      simp only at y0 y1 hT
      have hB1 := Lib.hid (hB.out.alloc hB.out.size (.cells #[.int .i64 xf, .int .i64 xt] 26))
      by_cases h1 : xf < 0
      · have d1 : decide (xf < 0) = true := decide_eq_true h1
        have hr : Hid (rt (-1) l = false) := Lib.hid (by rw [hT, decide_eq_true (show xf ≤ last by have := hL.out.1; omega)]; rfl)
        clear hT hL hx hnext
        go_upto_region 4 with fail
        go_quiet (fail)
        all_goals
          go_wp2_with fail
          have hB2 := Lib.hid (below_drewN hB1.out nq)
          go_ret
          exact ⟨by rw [hr.out]; rfl, hB2.out⟩
      have d1 : decide (xf < 0) = false := decide_eq_false h1
      by_cases h2 : xt ≤ xf
      · have d2 : decide (xt ≤ xf) = true := decide_eq_true h2
        have hr : Hid (rt (-1) l = false) := Lib.hid (by rw [hT, d2]; simp)
        clear hT hL hx hnext
        go_upto_region 4 with fail
        go_quiet (fail)
        all_goals
          go_wp2_with fail
          have hB2 := Lib.hid (below_drewN hB1.out nq)
          go_ret
          exact ⟨by rw [hr.out]; rfl, hB2.out⟩
      have d2 : decide (xt ≤ xf) = false := decide_eq_false h2
      rcases Nat.eq_zero_or_pos k with hk0 | hk0
      · have d4 : decide (xf ≤ last) = false := decide_eq_false (by have := hL.out.2.1 hk0; omega)
        subst hk0
        have e00 : ad.add (0 * 2) = ad := by simp [Addr.add]
        rw [e00] at y0 y1
        have hr : Hid (rt xt (l.drop (0 + 1)) = rt (-1) l) := Lib.hid (by rw [hT, d4, d2]; rfl)
        have hL2 : Hid (-1 ≤ xt ∧ (0 + 1 = 0 → xt = -1) ∧ ∀ h : 0 + 1 - 1 < l.length, 0 < 0 + 1 → xt = l[0 + 1 - 1].2) := Lib.hid ⟨by omega, fun e => absurd e (Nat.succ_ne_zero 0), fun h _ => by have : l[0 + 1 - 1] = (xf, xt) := hx; rw [this]⟩
        clear hT hL hx hnext
        go_upto_region 4 with fail
        go_quiet (fail)
        all_goals
          go_wp2_with fail
          have hB2 := Lib.hid (below_drewN hB1.out nq)
          go_roundw
          case rel => first | exact ⟨0 + 1, xt, by omega, by go_num, hL2, hr, hB2⟩ | ((repeat apply Exists.intro); exact ⟨⟨0 + 1, xt, by omega, by go_num, hL2, hr, hB2⟩, rfl⟩)
          case measure => simp [intOf]; omega
      · have d3 : decide (0 < k) = true := decide_eq_true hk0
        obtain ⟨ad2, e2, _, u1⟩ := UH.out.at_ (k - 1) (by omega)
        obtain rfl : ad = ad2 := by simpa using e2
        rw [← hL.out.2.2 (by omega) hk0] at u1
        have y2 := keepCell hB1.out u1
        have k1 : (0 : Int) ≤ (k : Int) - 1 := by omega
        have k2 : (k : Int) - 1 < (l.length : Int) := by omega
        have k3 : k - 1 < l.length := by omega
        clear u1 e2
        by_cases h4 : xf ≤ last
        · have d4 : decide (xf ≤ last) = true := decide_eq_true h4
          have hr : Hid (rt (-1) l = false) := Lib.hid (by rw [hT, d4]; rfl)
          clear hT hL hx hnext
          go_upto_region 4 with fail
          go_quiet (fail)
          all_goals
            go_wp2_with fail
            have hB2 := Lib.hid (below_drewN hB1.out nq)
            go_ret
            exact ⟨by rw [hr.out]; rfl, hB2.out⟩
        · have d4 : decide (xf ≤ last) = false := decide_eq_false h4
          have hr : Hid (rt xt (l.drop (k + 1)) = rt (-1) l) := Lib.hid (by rw [hT, d4, d2]; rfl)
          have hL2 : Hid (-1 ≤ xt ∧ (k + 1 = 0 → xt = -1) ∧ ∀ h : k + 1 - 1 < l.length, 0 < k + 1 → xt = l[k + 1 - 1].2) := Lib.hid ⟨by omega, fun e => absurd e (Nat.succ_ne_zero k), fun h _ => by have : l[k + 1 - 1] = (xf, xt) := hx; rw [this]⟩
          clear hT hL hx hnext
          go_upto_region 4 with fail
          go_quiet (fail)
          all_goals
            go_wp2_with fail
            have hB2 := Lib.hid (below_drewN hB1.out nq)
            go_roundw
            case rel => first | exact ⟨k + 1, xt, by omega, by go_num, hL2, hr, hB2⟩ | ((repeat apply Exists.intro); exact ⟨⟨k + 1, xt, by omega, by go_num, hL2, hr, hB2⟩, rfl⟩)
            case measure => simp [intOf]; omega
    · obtain rfl : k = l.length := by omega
      have hr : Hid (rt (-1) l = true) := Lib.hid (by rw [← hF.out, List.drop_length]; rfl)
      clear hF
      go_wp2_with fail
      go_ret
      exact ⟨by rw [hr.out]; rfl, hB.out⟩
end Go.Proofs.Ythpenogkejoljaa.Sp
