/-
  PROVED HERE: that the law FindLike returns true. Conditions: as each theorem states.
-/
import Derived.Test.YtifnochpmlllgaaDoorFdC
import Derived.Test.YtifnochpmlllgaaDoorSame
namespace Go.Proofs.YtifnochpmlllgaaDoor.Fd
open Go.RowKit
theorem mr_bd : ∀ (cs : List UInt8) (out l : List Int), mr cs out = some l → (∀ x ∈ out, -2 ≤ x ∧ x ≤ 15) → ∀ x ∈ l, -2 ≤ x ∧ x ≤ 15
  | [], out, l, h, ho => by
    rw [mr] at h
    split at h
    · cases h
    · injection h with h; subst h; exact ho
  | c :: cs, out, l, h, ho => by
    rw [mr] at h
    split at h
    · exact mr_bd cs out l h ho
    · split at h
      · cases h
      · refine mr_bd cs _ l h ?_
        intro x hx
        rcases List.mem_append.1 hx with h1 | h1
        · exact ho x h1
        · obtain rfl := List.mem_singleton.1 h1
          exact md_bounds _
def Lw (B : Nat) (va vm : Value) (la m : List Int) (W : World) (i : Value) (wr : World) : Prop :=
  ∃ q : Nat, q ≤ 2 ∧ i = .int .i64 q ∧ Hid (wr.cell? ⟨B, 0, none⟩ = some va) ∧ Hid (wr.cell? ⟨B, 1, none⟩ = some vm) ∧ Hid (Ints wr va la) ∧ Hid (Ints wr vm m) ∧ Hid (Below W.heap.size W wr)
set_option maxRecDepth 100000 in
set_option maxHeartbeats 1000000 in
theorem findLike_walk (a0 a1 : ByteArray) (v : Value) (m : List Int) (W : World) (hg : Err.Home W) (hi : Ints W v m) (hw : ∀ x ∈ m, -9223372036854775808 ≤ x ∧ x ≤ 9223372036854775807) :
    Calls Tryd.prog 11 #[.string a0, .string a1, v] W fun e w' => e = .returned (.bool true) ∧ Below W.heap.size W w' := by
  by_cases hs : a0.size ≤ 300 ∧ a1.size ≤ 200 ∧ m.length ≤ 140
  · obtain ⟨hs0, hs1, hs2⟩ := hs
    have HG := Lib.hid hg
    have HI := Lib.hid hi
    have C1 : Hid (∀ W, Calls Tryd.prog 50 #[.string a1] W (DQ (zl (mrs a1 0 [])) (zc (mrs a1 0 [])) W)) := Lib.hid (docRead_any a1 (by omega))
    have C2 : Hid (∀ W, Calls Tryd.prog 51 #[.string a1] W (RQ (zl (mrs a1 0 [])) (zc (mrs a1 0 [])) W)) := Lib.hid (read_any a1 (by omega))
    have hzl : (zl (mrs a1 0 [])).length ≤ 1000 := by
      cases h : mrs a1 0 [] with
      | none => simp [zl]
      | some l =>
        have := mr_len _ _ _ h
        have e : a1.data.toList.length = a1.size := rfl
        simp only [List.length_drop, List.length_nil, e] at this
        simp only [zl]; omega
    have hzb : ∀ x ∈ zl (mrs a1 0 []), -9223372036854775808 ≤ x ∧ x ≤ 9223372036854775807 := by
      cases h : mrs a1 0 [] with
      | none => intro x hx; simp [zl] at hx
      | some l =>
        intro x hx
        have := mr_bd _ _ _ h (by simp) x hx
        omega
    generalize mrs a1 0 [] = Z at *
    have D1 := Lib.hid (fun (v : Value) (W : World) (h : Ints W v (zl Z)) => docLike_any a0 v (zl Z) (by omega) (by omega) W h hzb)
    have D2 := Lib.hid (fun (v : Value) (W : World) (h : Ints W v (zl Z)) => like_any a0 v (zl Z) (by omega) (by omega) W h hzb)
    have E1 := Lib.hid (fun (v : Value) (W : World) (h : Ints W v m) => docLike_any a0 v m (by omega) (by omega) W h hw)
    have E2 := Lib.hid (fun (v : Value) (W : World) (h : Ints W v m) => like_any a0 v m (by omega) (by omega) W h hw)
    have L1 := Lib.hid (Nat.le_trans (ll_len a0 (zl Z)) (show a0.size + 1 ≤ 1000000 by omega))
    have L2 := Lib.hid (Nat.le_trans (ll_len a0 m) (show a0.size + 1 ≤ 1000000 by omega))
    have LZ := Lib.hid (Nat.le_trans hzl (show 1000 ≤ 1000000 by omega))
    have BZ := Lib.hid hzl
    clear hzl hzb hw hg
    generalize zl Z = la at *
    generalize zc Z = ca at *
    obtain ⟨p, q, rfl, hc⟩ := hi
    clear hc
    go_enter Tryd.func11, Tryd.ntmps11
    go_wp2_with fail
    refine (C1.out _).mono ?_; rintro e w1 ⟨v1, rfl, hI1, h1⟩
    obtain ⟨p1, q1, rfl, hc1⟩ := hI1
    have I1 := Lib.hid (show Ints w1 (.slice p1 la.length q1) la from ⟨p1, q1, rfl, hc1⟩)
    have M1 := Lib.hid (HI.out.below h1)
    have H1 := Lib.hid h1
    clear h1 hc1
    go_wp2_with fail
    refine (C2.out _).mono ?_; rintro e w2 ⟨v2, x, rfl, hI2, hE, h2⟩
    obtain ⟨p2, q2, rfl, hc2⟩ := hI2
    have I2 := Lib.hid (show Ints w2 (.slice p2 la.length q2) la from ⟨p2, q2, rfl, hc2⟩)
    have I12 := Lib.hid (I1.out.below h2)
    have M2 := Lib.hid (M1.out.below h2)
    have H2 := Lib.hid (H1.out.trans (h2.mono H1.out.size))
    have HE := Lib.hid hE
    clear h2 hE hc2
    go_wp2_with fail
    refine (Err.bare_any x ca (-1) ca _ (HG.out.below H2.out) HE.out).mono ?_; rintro e w3 ⟨rfl, h3⟩
    have I13 := Lib.hid (I12.out.below h3)
    have I23 := Lib.hid (I2.out.below h3)
    have M3 := Lib.hid (M2.out.below h3)
    have H3 := Lib.hid (H2.out.trans (h3.mono H2.out.size))
    clear h3
    go_wp2_with fail
    refine (sameInts_any _ _ la _ I23.out I13.out LZ.out).mono ?_; rintro e w4 ⟨rfl, h4⟩
    have I14 := Lib.hid (I13.out.below h4)
    have M4 := Lib.hid (M3.out.below h4)
    have H4 := Lib.hid (H3.out.trans (h4.mono H3.out.size))
    clear h4
    go_wp2_with fail
    have hb0 : Below w4.heap.size w4 (w4.alloc (.cells #[.slice p1 la.length q1, .slice p m.length q] 50)) := (Below.refl _ _).alloc (Nat.le_refl _) _
    have H5 := Lib.hid (H4.out.trans (hb0.mono H4.out.size))
    have I15 := Lib.hid (I14.out.below hb0)
    have M5 := Lib.hid (M4.out.below hb0)
    clear hb0
    go_loopw [54] (fun i wr => Lw w4.heap.size (.slice p1 la.length q1) (.slice p m.length q) la m W i wr) (fun i _ => 2 - (intOf i).toNat)
    case atStart => exact ⟨0, by omega, rfl, Lib.hid (by simp), Lib.hid (by simp), I15, M5, H5⟩
    case round =>
      obtain ⟨r, hr, rfl, hA, hB, IA, IM, HB⟩ := hrel
      have hcA := hA.out
      have hcB := hB.out
      have hbl := World.block_lt_of_cell? _ _ hcA
      rcases (show r = 0 ∨ r = 1 ∨ r = 2 by omega) with rfl | rfl | rfl
      · go_wp2_with fail
        refine (D1.out _ _ IA.out).mono ?_; rintro e u1 ⟨x1, rfl, hJ1, k1⟩
        obtain ⟨s1, t1, rfl, hd1⟩ := hJ1
        have J1 := Lib.hid (show Ints u1 (.slice s1 (ll a0 la).length t1) (ll a0 la) from ⟨s1, t1, rfl, hd1⟩)
        have Src1 := Lib.hid (IA.out.below k1)
        have cA1 := Lib.hid (keepCell k1 hA.out)
        have cB1 := Lib.hid (keepCell k1 hB.out)
        have IA1 := Lib.hid (IA.out.below k1)
        have IM1 := Lib.hid (IM.out.below k1)
        have G1 := Lib.hid (HB.out.trans (k1.mono HB.out.size))
        clear k1 hd1
        go_wp2_with fail
        refine (D2.out _ _ Src1.out).mono ?_; rintro e u2 ⟨x2, y, rfl, hJ2, hE2, k2⟩
        obtain ⟨s2, t2, rfl, hd2⟩ := hJ2
        have J2 := Lib.hid (show Ints u2 (.slice s2 (ll a0 la).length t2) (ll a0 la) from ⟨s2, t2, rfl, hd2⟩)
        have J12 := Lib.hid (J1.out.below k2)
        have cA2 := Lib.hid (keepCell k2 cA1.out)
        have cB2 := Lib.hid (keepCell k2 cB1.out)
        have IA2 := Lib.hid (IA1.out.below k2)
        have IM2 := Lib.hid (IM1.out.below k2)
        have G2 := Lib.hid (G1.out.trans (k2.mono G1.out.size))
        have HE2 := Lib.hid hE2
        clear k2 hE2 hd2
        go_wp2_with fail
        refine (Err.bare_any y (lc la) (-1) (lc la) _ (HG.out.below G2.out) HE2.out).mono ?_; rintro e u3 ⟨rfl, k3⟩
        have J13 := Lib.hid (J12.out.below k3)
        have J23 := Lib.hid (J2.out.below k3)
        have cA3 := Lib.hid (keepCell k3 cA2.out)
        have cB3 := Lib.hid (keepCell k3 cB2.out)
        have IA3 := Lib.hid (IA2.out.below k3)
        have IM3 := Lib.hid (IM2.out.below k3)
        have G3 := Lib.hid (G2.out.trans (k3.mono G2.out.size))
        clear k3
        go_wp2_with fail
        refine (sameInts_any _ _ (ll a0 la) _ J23.out J13.out L1.out).mono ?_; rintro e u4 ⟨rfl, k4⟩
        have cA4 := Lib.hid (keepCell k4 cA3.out)
        have cB4 := Lib.hid (keepCell k4 cB3.out)
        have IA4 := Lib.hid (IA3.out.below k4)
        have IM4 := Lib.hid (IM3.out.below k4)
        have G4 := Lib.hid (G3.out.trans (k4.mono G3.out.size))
        clear k4
        go_wp2_with fail
        go_roundw
        case rel => exact ⟨1, by omega, by go_num, cA4, cB4, IA4, IM4, G4⟩
        case measure => simp [intOf]
      · go_wp2_with fail
        refine (E1.out _ _ IM.out).mono ?_; rintro e u1 ⟨x1, rfl, hJ1, k1⟩
        obtain ⟨s1, t1, rfl, hd1⟩ := hJ1
        have J1 := Lib.hid (show Ints u1 (.slice s1 (ll a0 m).length t1) (ll a0 m) from ⟨s1, t1, rfl, hd1⟩)
        have Src1 := Lib.hid (IM.out.below k1)
        have cA1 := Lib.hid (keepCell k1 hA.out)
        have cB1 := Lib.hid (keepCell k1 hB.out)
        have IA1 := Lib.hid (IA.out.below k1)
        have IM1 := Lib.hid (IM.out.below k1)
        have G1 := Lib.hid (HB.out.trans (k1.mono HB.out.size))
        clear k1 hd1
        go_wp2_with fail
        refine (E2.out _ _ Src1.out).mono ?_; rintro e u2 ⟨x2, y, rfl, hJ2, hE2, k2⟩
        obtain ⟨s2, t2, rfl, hd2⟩ := hJ2
        have J2 := Lib.hid (show Ints u2 (.slice s2 (ll a0 m).length t2) (ll a0 m) from ⟨s2, t2, rfl, hd2⟩)
        have J12 := Lib.hid (J1.out.below k2)
        have cA2 := Lib.hid (keepCell k2 cA1.out)
        have cB2 := Lib.hid (keepCell k2 cB1.out)
        have IA2 := Lib.hid (IA1.out.below k2)
        have IM2 := Lib.hid (IM1.out.below k2)
        have G2 := Lib.hid (G1.out.trans (k2.mono G1.out.size))
        have HE2 := Lib.hid hE2
        clear k2 hE2 hd2
        go_wp2_with fail
        refine (Err.bare_any y (lc m) (-1) (lc m) _ (HG.out.below G2.out) HE2.out).mono ?_; rintro e u3 ⟨rfl, k3⟩
        have J13 := Lib.hid (J12.out.below k3)
        have J23 := Lib.hid (J2.out.below k3)
        have cA3 := Lib.hid (keepCell k3 cA2.out)
        have cB3 := Lib.hid (keepCell k3 cB2.out)
        have IA3 := Lib.hid (IA2.out.below k3)
        have IM3 := Lib.hid (IM2.out.below k3)
        have G3 := Lib.hid (G2.out.trans (k3.mono G2.out.size))
        clear k3
        go_wp2_with fail
        refine (sameInts_any _ _ (ll a0 m) _ J23.out J13.out L2.out).mono ?_; rintro e u4 ⟨rfl, k4⟩
        have cA4 := Lib.hid (keepCell k4 cA3.out)
        have cB4 := Lib.hid (keepCell k4 cB3.out)
        have IA4 := Lib.hid (IA3.out.below k4)
        have IM4 := Lib.hid (IM3.out.below k4)
        have G4 := Lib.hid (G3.out.trans (k4.mono G3.out.size))
        clear k4
        go_wp2_with fail
        go_roundw
        case rel => exact ⟨2, by omega, by go_num, cA4, cB4, IA4, IM4, G4⟩
        case measure => simp [intOf]
      · go_wp2_with fail
        go_ret
        exact ⟨rfl, HB.out⟩
  · rcases (show 300 < a0.size ∨ (¬ 300 < a0.size ∧ 200 < a1.size) ∨ (¬ 300 < a0.size ∧ ¬ 200 < a1.size ∧ 140 < m.length) by omega) with h1 | ⟨h1, h2⟩ | ⟨h1, h2, h3⟩
    all_goals
      obtain ⟨p, q, rfl, hc⟩ := hi
      clear hc
      go_enter Tryd.func11, Tryd.ntmps11
      go_wp2_with fail
      go_ret
      exact ⟨rfl, Below.refl _ _⟩
end Go.Proofs.YtifnochpmlllgaaDoor.Fd
