/-
  PROVED HERE: the contract of the document's pow2; the contract of the document's Number. Conditions: as each theorem states.
-/
import Derived.Test.YtkopjmofdnlplaaGreatDoorRows
import Derived.Test.YtkopjmofdnlplaaGreatDoorOwn
import Derived.Test.YtkopjmofdnlplaaGreatDoorParC
namespace Go.Proofs.YtkopjmofdnlplaaGreatDoor.Pow
open Go.RowKit

def p2 (j : Nat) : Nat := 2 ^ j
theorem p2_succ (j : Nat) : ((p2 (j + 1) : Nat) : Int) = (p2 j : Nat) * 2 := by rw [p2, Nat.pow_succ]; rfl
theorem p2_le (j : Nat) (h : j ≤ 62) : p2 j ≤ 4611686018427387904 := Nat.pow_le_pow_right (n := 2) (by omega) h
set_option maxHeartbeats 400000 in
theorem pow2_any (n : Nat) (h : n ≤ 63) (W : World) : Calls Tryz.prog 153 #[.int .i64 n] W fun e w' => e = .returned (.int .u64 (p2 n : Nat)) ∧ W = w' := by
  go_enter Tryz.func153, Tryz.ntmps153
  go_wp2
  go_loop [0, 3] (fun k n' => ∃ j : Nat, j ≤ n ∧ k = .int .i64 (n - j : Nat) ∧ n' = .int .u64 (p2 j : Nat)) (fun k _ => (intOf k).toNat)
  case atStart => exact ⟨0, Nat.zero_le _, rfl, rfl⟩
  case round =>
    obtain ⟨j, hj, rfl, rfl⟩ := hrel
    by_cases hlt : j < n
    · have hb := p2_le j (by omega)
      have HP := Lib.hid (p2_succ j)
      go_wp2
      go_round
      case rel => exact ⟨j + 1, by omega, by go_num, by rw [HP.out]⟩
      case measure => simp [intOf]; omega
    · obtain rfl : j = n := by omega
      go_wp2
      go_ret
      exact ⟨rfl, rfl⟩
theorem pow2_is (n : Int) (h0 : 0 ≤ n) (h : n ≤ 63) (v : Int) (hv : ((2 ^ n.toNat : Nat) : Int) = v) (W : World) : Calls Tryz.prog 153 #[.int .i64 n] W fun e w' => e = .returned (.int .u64 v) ∧ w' = W := by
  obtain ⟨n, rfl⟩ := Int.eq_ofNat_of_zero_le h0
  exact (pow2_any n (by omega) W).mono fun e w' ⟨he, hw⟩ => ⟨by rw [he]; rw [Int.toNat_natCast] at hv; rw [← hv]; rfl, hw.symm⟩
end Go.Proofs.YtkopjmofdnlplaaGreatDoor.Pow
namespace Go.Proofs.YtkopjmofdnlplaaGreatDoor.Dig
open Go.RowKit

theorem two_list (t : ByteArray) (h : 2 ≤ t.size) : (t.extract 0 2).toList = [UInt8.ofNat (byteAt t 0), UInt8.ofNat (byteAt t 1)] := by
  have e : t.data.toList.length = t.size := rfl
  have e2 : t.data.size = t.size := rfl
  rw [ByteArray.toList_eq, ByteArray.data_extract]
  apply List.ext_getElem
  · simp; omega
  · intro i h1 h2
    simp only [List.length_cons, List.length_nil] at h2
    rcases (show i = 0 ∨ i = 1 by omega) with rfl | rfl
    · simp [byteAt, Array.getElem?_eq_getElem (show 0 < t.data.size by omega)]
    · simp [byteAt, Array.getElem?_eq_getElem (show 1 < t.data.size by omega)]
theorem two_yes (t : ByteArray) (h : 2 ≤ t.size) (a b : UInt8) (ha : byteAt t 0 = a.toNat) (hb : byteAt t 1 = b.toNat) : ((t.extract 0 2).toList == [a, b]) = true := by
  rw [two_list t h, ha, hb]; simp
theorem two_no (t : ByteArray) (h : 2 ≤ t.size) (a b : UInt8) (hn : byteAt t 0 ≠ a.toNat ∨ byteAt t 1 ≠ b.toNat) : ((t.extract 0 2).toList == [a, b]) = false := by
  rw [two_list t h, beq_eq_false_iff_ne]
  intro e
  simp only [List.cons.injEq, and_true] at e
  obtain ⟨e1, e2⟩ := e
  have f : ∀ k, (UInt8.ofNat (byteAt t k)).toNat = byteAt t k := fun k => by rw [UInt8.toNat_ofNat']; exact Nat.mod_eq_of_lt (byteAt_lt t k)
  have g1 := f 0
  have g2 := f 1
  rw [e1] at g1
  rw [e2] at g2
  rcases hn with h | h
  · exact h g1.symm
  · exact h g2.symm
theorem dv_low (v : Nat) (h : v < 9223372036854775808) : Ending.returned (.tuple #[.int .i64 (wrap64 (v : Int)), .int .i64 0]) = Ending.returned (.tuple #[.int .i64 (nv false v 0), .int .i64 (ne false v 0)]) := by
  have h1 : ¬ 9223372036854775808 ≤ v := by omega
  rw [IntWalk.wrap64_in _ (by omega)]
  simp [nv, ne, h1]
theorem dv_high (v : Nat) (h1 : 9223372036854775808 ≤ v) : Ending.returned (.tuple #[.int .i64 0, .int .i64 2]) = Ending.returned (.tuple #[.int .i64 (nv false v 0), .int .i64 (ne false v 0)]) := by
  simp [nv, ne, h1]
theorem dv_neg (v : Nat) (h : v ≤ 9223372036854775808) : Ending.returned (.tuple #[.int .i64 (wrap64 (IntKind.u64.wrap (-(v : Int)))), .int .i64 0]) = Ending.returned (.tuple #[.int .i64 (nv true v 0), .int .i64 (ne true v 0)]) := by
  rw [neg_back v h]
  simp [nv, ne, h]
theorem dv_high_neg (v : Nat) (h1 : 9223372036854775808 < v) : Ending.returned (.tuple #[.int .i64 0, .int .i64 2]) = Ending.returned (.tuple #[.int .i64 (nv true v 0), .int .i64 (ne true v 0)]) := by
  have h2 : ¬ v ≤ 9223372036854775808 := by omega
  simp [nv, ne, h2]

set_option maxRecDepth 100000 in
set_option maxHeartbeats 2000000 in
theorem docNumber_any (s : ByteArray) (hs : s.size ≤ 1000) (W : World) :
    Calls Tryz.prog 176 #[.string s] W fun e w' => e = .returned (.tuple #[.int .i64 (nv (nneg s) (pv (nu (nt s)) (nb (nt s))) (pe (nu (nt s)) (nb (nt s)))), .int .i64 (ne (nneg s) (pv (nu (nt s)) (nb (nt s))) (pe (nu (nt s)) (nb (nt s))))]) ∧ Below W.heap.size W w' := by
  have hcase : (s.size = 0 ∧ nneg s = false ∧ nt s = s) ∨ (∃ h : 0 < s.size, ((s[0].toNat : Int) == 45) = true ∧ nneg s = true ∧ nt s = s.extract 1 s.size) ∨ (∃ h : 0 < s.size, ((s[0].toNat : Int) == 45) = false ∧ nneg s = false ∧ nt s = s) := by
    by_cases h : 0 < s.size
    · by_cases h2 : byteAt s 0 = 45
      · exact .inr (.inl ⟨h, byte_is s 0 h 45 h2, by simp [nneg, h, h2], by simp [nt, nneg, h, h2]⟩)
      · exact .inr (.inr ⟨h, byte_isnt s 0 h 45 h2, by simp [nneg, h2], by simp [nt, nneg, h2]⟩)
    · exact .inl ⟨by omega, by simp [nneg, h], by simp [nt, nneg, h]⟩
  have hts : (nt s).size ≤ 1000 := by
    rcases hcase with ⟨_, _, h⟩ | ⟨_, _, _, h⟩ | ⟨_, _, _, h⟩ <;> rw [h]
    · exact hs
    · rw [ByteArray.size_extract]; omega
    · exact hs
  have hsu : (nu (nt s)).size ≤ 1000 := by
    rcases kinds (nt s) with ⟨_, _, h⟩ | ⟨_, _, _, h⟩ | ⟨_, _, _, _, h⟩ | ⟨_, _, _, _, h⟩ | ⟨_, _, _, _, _, h⟩ <;> rw [h] <;> first | exact hts | (rw [ByteArray.size_extract]; omega)
  have hb10 : 2 ≤ nb (nt s) ∧ nb (nt s) ≤ 16 := by
    rcases kinds (nt s) with ⟨_, h, _⟩ | ⟨_, _, h, _⟩ | ⟨_, _, _, h, _⟩ | ⟨_, _, _, h, _⟩ | ⟨_, _, _, _, h, _⟩ <;> rw [h] <;> omega
  have K := Lib.hid (kinds (nt s))
  have PE := Lib.hid (pe_cases (nu (nt s)) (nb (nt s)))
  have PV := pv_lt (nu (nt s)) (nb (nt s))
  have CP := Lib.hid (fun W => docParse_yes (nu (nt s)) (nb (nt s)) hb10 hsu W)
  rcases hcase with ⟨hz0, hneg, hT⟩ | ⟨hz1, e0, hneg, hT⟩ | ⟨hz1, e0, hneg, hT⟩
  all_goals
    first
      | have hz : ¬ (0 : Int) < (s.size : Int) := by omega
      | have hz : (0 : Int) < (s.size : Int) := by omega
    rw [hneg]
    have hTH := Lib.hid hT
    clear hneg hT
    generalize hR : Ending.returned (.tuple #[.int .i64 (nv _ (pv (nu (nt s)) (nb (nt s))) (pe (nu (nt s)) (nb (nt s)))), .int .i64 (ne _ (pv (nu (nt s)) (nb (nt s))) (pe (nu (nt s)) (nb (nt s))))]) = R
    have HR := Lib.hid hR
    clear hR
    go_enter Tryz.func176, Tryz.ntmps176
    go_upto_if 16 with (fail)
    go_cut [0] (fun s0 wx => s0 = .string (nt s) ∧ W = wx)
    case first =>
      go_wp2_with fail
      go_meet
      exact ⟨by rw [hTH.out], rfl⟩
    case rest =>
      obtain ⟨rfl, rfl⟩ := hcut
      clear hz
      have K' := K.out
      clear K hTH
      generalize nt s = t at *
      rcases K' with ⟨k1, kb, ku⟩ | ⟨k1, k2, kb, ku⟩ | ⟨k1, k2, k3, kb, ku⟩ | ⟨k1, k2, k3, kb, ku⟩ | ⟨k1, k2, k3, k4, kb, ku⟩
      · have t1 : ¬ (2 : Int) ≤ (t.size : Int) := by omega
        go_upto_if 26 with (fail)
        go_cut [0, 5] (fun s0 s5 wx => s0 = .string (nu t) ∧ s5 = .int .i64 (nb t) ∧ Below W.heap.size W wx)
        case first =>
          go_wp2_with fail
          go_meet
          exact ⟨by rw [ku], by rw [kb]; rfl, Below.refl _ _⟩
        case rest =>
          obtain ⟨rfl, rfl, hB⟩ := hcut
          clear kb ku
          have HB := Lib.hid hB
          clear hB
          generalize nu t = u at *
          generalize nb t = b at *
          go_wp2_with fail
          refine (CP.out _).mono ?_; rintro e w1 ⟨rfl, h1⟩
          have H1 := Lib.hid (HB.out.trans (h1.mono HB.out.size))
          clear h1
          generalize pv u b = v at *
          rcases PE.out with he | he | he
          · rw [he] at HR ⊢
            clear he
            have PVH := Lib.hid PV
            clear PV
            rcases Nat.lt_trichotomy v 9223372036854775808 with hv | hv | hv
            · have b1 : decide ((v : Int) ≤ 9223372036854775808) = true := decide_eq_true (by omega)
              have b2 : decide ((9223372036854775808 : Int) ≤ (v : Int)) = false := decide_eq_false (by omega)
              have b3 : decide ((9223372036854775808 : Int) < (v : Int)) = false := decide_eq_false (by omega)
              have hvH := Lib.hid hv
              clear hv
              go_wp2_with (go_at_call 153; refine (Pow.pow2_is 63 (by decide) (by decide) 9223372036854775808 (by decide) _).mono ?_; rintro e w' ⟨rfl, rfl⟩)
              go_ret2
              exact ⟨by rw [← HR.out]; first | exact dv_neg v (Nat.le_of_lt hvH.out) | exact dv_low v hvH.out, H1.out⟩
            · have b1 : decide ((v : Int) ≤ 9223372036854775808) = true := decide_eq_true (by omega)
              have b2 : decide ((9223372036854775808 : Int) ≤ (v : Int)) = true := decide_eq_true (by omega)
              have b3 : decide ((9223372036854775808 : Int) < (v : Int)) = false := decide_eq_false (by omega)
              have hvH := Lib.hid hv
              clear hv
              go_wp2_with (go_at_call 153; refine (Pow.pow2_is 63 (by decide) (by decide) 9223372036854775808 (by decide) _).mono ?_; rintro e w' ⟨rfl, rfl⟩)
              go_ret2
              exact ⟨by rw [← HR.out]; first | exact dv_neg v (Nat.le_of_eq hvH.out) | exact dv_high v (Nat.le_of_eq hvH.out.symm), H1.out⟩
            · have b1 : decide ((v : Int) ≤ 9223372036854775808) = false := decide_eq_false (by omega)
              have b2 : decide ((9223372036854775808 : Int) ≤ (v : Int)) = true := decide_eq_true (by omega)
              have b3 : decide ((9223372036854775808 : Int) < (v : Int)) = true := decide_eq_true (by omega)
              have hvH := Lib.hid hv
              clear hv
              go_wp2_with (go_at_call 153; refine (Pow.pow2_is 63 (by decide) (by decide) 9223372036854775808 (by decide) _).mono ?_; rintro e w' ⟨rfl, rfl⟩)
              go_ret2
              exact ⟨by rw [← HR.out]; first | exact dv_high_neg v hvH.out | exact dv_high v (Nat.le_of_lt hvH.out), H1.out⟩
          · rw [he] at HR ⊢
            clear he
            go_wp2_with fail
            go_ret2
            exact ⟨by rw [← HR.out]; rfl, H1.out⟩
          · rw [he] at HR ⊢
            clear he
            go_wp2_with fail
            go_ret2
            exact ⟨by rw [← HR.out]; rfl, H1.out⟩

      · have t1 : (2 : Int) ≤ (t.size : Int) := by omega
        have t0 : 0 < t.size := by omega
        have t2 : 1 < t.size := by omega
        have y1 := two_no t k1 48 120 (.inl k2)
        have y2 := two_no t k1 48 98 (.inl k2)
        go_upto_if 26 with (fail)
        go_cut [0, 5] (fun s0 s5 wx => s0 = .string (nu t) ∧ s5 = .int .i64 (nb t) ∧ Below W.heap.size W wx)
        case first =>
          go_wp2_with fail
          go_meet
          exact ⟨by rw [ku], by rw [kb]; rfl, Below.refl _ _⟩
        case rest =>
          obtain ⟨rfl, rfl, hB⟩ := hcut
          clear kb ku
          have HB := Lib.hid hB
          clear hB
          generalize nu t = u at *
          generalize nb t = b at *
          go_wp2_with fail
          refine (CP.out _).mono ?_; rintro e w1 ⟨rfl, h1⟩
          have H1 := Lib.hid (HB.out.trans (h1.mono HB.out.size))
          clear h1
          generalize pv u b = v at *
          rcases PE.out with he | he | he
          · rw [he] at HR ⊢
            clear he
            have PVH := Lib.hid PV
            clear PV
            rcases Nat.lt_trichotomy v 9223372036854775808 with hv | hv | hv
            · have b1 : decide ((v : Int) ≤ 9223372036854775808) = true := decide_eq_true (by omega)
              have b2 : decide ((9223372036854775808 : Int) ≤ (v : Int)) = false := decide_eq_false (by omega)
              have b3 : decide ((9223372036854775808 : Int) < (v : Int)) = false := decide_eq_false (by omega)
              have hvH := Lib.hid hv
              clear hv
              go_wp2_with (go_at_call 153; refine (Pow.pow2_is 63 (by decide) (by decide) 9223372036854775808 (by decide) _).mono ?_; rintro e w' ⟨rfl, rfl⟩)
              go_ret2
              exact ⟨by rw [← HR.out]; first | exact dv_neg v (Nat.le_of_lt hvH.out) | exact dv_low v hvH.out, H1.out⟩
            · have b1 : decide ((v : Int) ≤ 9223372036854775808) = true := decide_eq_true (by omega)
              have b2 : decide ((9223372036854775808 : Int) ≤ (v : Int)) = true := decide_eq_true (by omega)
              have b3 : decide ((9223372036854775808 : Int) < (v : Int)) = false := decide_eq_false (by omega)
              have hvH := Lib.hid hv
              clear hv
              go_wp2_with (go_at_call 153; refine (Pow.pow2_is 63 (by decide) (by decide) 9223372036854775808 (by decide) _).mono ?_; rintro e w' ⟨rfl, rfl⟩)
              go_ret2
              exact ⟨by rw [← HR.out]; first | exact dv_neg v (Nat.le_of_eq hvH.out) | exact dv_high v (Nat.le_of_eq hvH.out.symm), H1.out⟩
            · have b1 : decide ((v : Int) ≤ 9223372036854775808) = false := decide_eq_false (by omega)
              have b2 : decide ((9223372036854775808 : Int) ≤ (v : Int)) = true := decide_eq_true (by omega)
              have b3 : decide ((9223372036854775808 : Int) < (v : Int)) = true := decide_eq_true (by omega)
              have hvH := Lib.hid hv
              clear hv
              go_wp2_with (go_at_call 153; refine (Pow.pow2_is 63 (by decide) (by decide) 9223372036854775808 (by decide) _).mono ?_; rintro e w' ⟨rfl, rfl⟩)
              go_ret2
              exact ⟨by rw [← HR.out]; first | exact dv_high_neg v hvH.out | exact dv_high v (Nat.le_of_lt hvH.out), H1.out⟩
          · rw [he] at HR ⊢
            clear he
            go_wp2_with fail
            go_ret2
            exact ⟨by rw [← HR.out]; rfl, H1.out⟩
          · rw [he] at HR ⊢
            clear he
            go_wp2_with fail
            go_ret2
            exact ⟨by rw [← HR.out]; rfl, H1.out⟩

      · have t1 : (2 : Int) ≤ (t.size : Int) := by omega
        have t0 : 0 < t.size := by omega
        have t2 : 1 < t.size := by omega
        have y1 := two_yes t k1 48 120 k2 k3
        go_upto_if 26 with (fail)
        go_cut [0, 5] (fun s0 s5 wx => s0 = .string (nu t) ∧ s5 = .int .i64 (nb t) ∧ Below W.heap.size W wx)
        case first =>
          go_wp2_with fail
          go_quiet (fail)
          go_wp2_with fail
          go_meet
          exact ⟨by rw [ku], by rw [kb]; rfl, below_drewN (Below.refl _ _) _⟩
        case rest =>
          obtain ⟨rfl, rfl, hB⟩ := hcut
          clear kb ku
          have HB := Lib.hid hB
          clear hB
          generalize nu t = u at *
          generalize nb t = b at *
          go_wp2_with fail
          refine (CP.out _).mono ?_; rintro e w1 ⟨rfl, h1⟩
          have H1 := Lib.hid (HB.out.trans (h1.mono HB.out.size))
          clear h1
          generalize pv u b = v at *
          rcases PE.out with he | he | he
          · rw [he] at HR ⊢
            clear he
            have PVH := Lib.hid PV
            clear PV
            rcases Nat.lt_trichotomy v 9223372036854775808 with hv | hv | hv
            · have b1 : decide ((v : Int) ≤ 9223372036854775808) = true := decide_eq_true (by omega)
              have b2 : decide ((9223372036854775808 : Int) ≤ (v : Int)) = false := decide_eq_false (by omega)
              have b3 : decide ((9223372036854775808 : Int) < (v : Int)) = false := decide_eq_false (by omega)
              have hvH := Lib.hid hv
              clear hv
              go_wp2_with (go_at_call 153; refine (Pow.pow2_is 63 (by decide) (by decide) 9223372036854775808 (by decide) _).mono ?_; rintro e w' ⟨rfl, rfl⟩)
              go_ret2
              exact ⟨by rw [← HR.out]; first | exact dv_neg v (Nat.le_of_lt hvH.out) | exact dv_low v hvH.out, H1.out⟩
            · have b1 : decide ((v : Int) ≤ 9223372036854775808) = true := decide_eq_true (by omega)
              have b2 : decide ((9223372036854775808 : Int) ≤ (v : Int)) = true := decide_eq_true (by omega)
              have b3 : decide ((9223372036854775808 : Int) < (v : Int)) = false := decide_eq_false (by omega)
              have hvH := Lib.hid hv
              clear hv
              go_wp2_with (go_at_call 153; refine (Pow.pow2_is 63 (by decide) (by decide) 9223372036854775808 (by decide) _).mono ?_; rintro e w' ⟨rfl, rfl⟩)
              go_ret2
              exact ⟨by rw [← HR.out]; first | exact dv_neg v (Nat.le_of_eq hvH.out) | exact dv_high v (Nat.le_of_eq hvH.out.symm), H1.out⟩
            · have b1 : decide ((v : Int) ≤ 9223372036854775808) = false := decide_eq_false (by omega)
              have b2 : decide ((9223372036854775808 : Int) ≤ (v : Int)) = true := decide_eq_true (by omega)
              have b3 : decide ((9223372036854775808 : Int) < (v : Int)) = true := decide_eq_true (by omega)
              have hvH := Lib.hid hv
              clear hv
              go_wp2_with (go_at_call 153; refine (Pow.pow2_is 63 (by decide) (by decide) 9223372036854775808 (by decide) _).mono ?_; rintro e w' ⟨rfl, rfl⟩)
              go_ret2
              exact ⟨by rw [← HR.out]; first | exact dv_high_neg v hvH.out | exact dv_high v (Nat.le_of_lt hvH.out), H1.out⟩
          · rw [he] at HR ⊢
            clear he
            go_wp2_with fail
            go_ret2
            exact ⟨by rw [← HR.out]; rfl, H1.out⟩
          · rw [he] at HR ⊢
            clear he
            go_wp2_with fail
            go_ret2
            exact ⟨by rw [← HR.out]; rfl, H1.out⟩

      · have t1 : (2 : Int) ≤ (t.size : Int) := by omega
        have t0 : 0 < t.size := by omega
        have t2 : 1 < t.size := by omega
        have y1 := two_no t k1 48 120 (.inr (by rw [k3]; decide))
        have y2 := two_yes t k1 48 98 k2 k3
        go_upto_if 26 with (fail)
        go_cut [0, 5] (fun s0 s5 wx => s0 = .string (nu t) ∧ s5 = .int .i64 (nb t) ∧ Below W.heap.size W wx)
        case first =>
          go_wp2_with fail
          go_quiet (fail)
          go_wp2_with fail
          go_meet
          exact ⟨by rw [ku], by rw [kb]; rfl, below_drewN (Below.refl _ _) _⟩
        case rest =>
          obtain ⟨rfl, rfl, hB⟩ := hcut
          clear kb ku
          have HB := Lib.hid hB
          clear hB
          generalize nu t = u at *
          generalize nb t = b at *
          go_wp2_with fail
          refine (CP.out _).mono ?_; rintro e w1 ⟨rfl, h1⟩
          have H1 := Lib.hid (HB.out.trans (h1.mono HB.out.size))
          clear h1
          generalize pv u b = v at *
          rcases PE.out with he | he | he
          · rw [he] at HR ⊢
            clear he
            have PVH := Lib.hid PV
            clear PV
            rcases Nat.lt_trichotomy v 9223372036854775808 with hv | hv | hv
            · have b1 : decide ((v : Int) ≤ 9223372036854775808) = true := decide_eq_true (by omega)
              have b2 : decide ((9223372036854775808 : Int) ≤ (v : Int)) = false := decide_eq_false (by omega)
              have b3 : decide ((9223372036854775808 : Int) < (v : Int)) = false := decide_eq_false (by omega)
              have hvH := Lib.hid hv
              clear hv
              go_wp2_with (go_at_call 153; refine (Pow.pow2_is 63 (by decide) (by decide) 9223372036854775808 (by decide) _).mono ?_; rintro e w' ⟨rfl, rfl⟩)
              go_ret2
              exact ⟨by rw [← HR.out]; first | exact dv_neg v (Nat.le_of_lt hvH.out) | exact dv_low v hvH.out, H1.out⟩
            · have b1 : decide ((v : Int) ≤ 9223372036854775808) = true := decide_eq_true (by omega)
              have b2 : decide ((9223372036854775808 : Int) ≤ (v : Int)) = true := decide_eq_true (by omega)
              have b3 : decide ((9223372036854775808 : Int) < (v : Int)) = false := decide_eq_false (by omega)
              have hvH := Lib.hid hv
              clear hv
              go_wp2_with (go_at_call 153; refine (Pow.pow2_is 63 (by decide) (by decide) 9223372036854775808 (by decide) _).mono ?_; rintro e w' ⟨rfl, rfl⟩)
              go_ret2
              exact ⟨by rw [← HR.out]; first | exact dv_neg v (Nat.le_of_eq hvH.out) | exact dv_high v (Nat.le_of_eq hvH.out.symm), H1.out⟩
            · have b1 : decide ((v : Int) ≤ 9223372036854775808) = false := decide_eq_false (by omega)
              have b2 : decide ((9223372036854775808 : Int) ≤ (v : Int)) = true := decide_eq_true (by omega)
              have b3 : decide ((9223372036854775808 : Int) < (v : Int)) = true := decide_eq_true (by omega)
              have hvH := Lib.hid hv
              clear hv
              go_wp2_with (go_at_call 153; refine (Pow.pow2_is 63 (by decide) (by decide) 9223372036854775808 (by decide) _).mono ?_; rintro e w' ⟨rfl, rfl⟩)
              go_ret2
              exact ⟨by rw [← HR.out]; first | exact dv_high_neg v hvH.out | exact dv_high v (Nat.le_of_lt hvH.out), H1.out⟩
          · rw [he] at HR ⊢
            clear he
            go_wp2_with fail
            go_ret2
            exact ⟨by rw [← HR.out]; rfl, H1.out⟩
          · rw [he] at HR ⊢
            clear he
            go_wp2_with fail
            go_ret2
            exact ⟨by rw [← HR.out]; rfl, H1.out⟩

      · have t1 : (2 : Int) ≤ (t.size : Int) := by omega
        have t0 : 0 < t.size := by omega
        have t2 : 1 < t.size := by omega
        have y1 := two_no t k1 48 120 (.inr k3)
        have y2 := two_no t k1 48 98 (.inr k4)
        go_upto_if 26 with (fail)
        go_cut [0, 5] (fun s0 s5 wx => s0 = .string (nu t) ∧ s5 = .int .i64 (nb t) ∧ Below W.heap.size W wx)
        case first =>
          go_wp2_with fail
          go_meet
          exact ⟨by rw [ku], by rw [kb]; rfl, Below.refl _ _⟩
        case rest =>
          obtain ⟨rfl, rfl, hB⟩ := hcut
          clear kb ku
          have HB := Lib.hid hB
          clear hB
          generalize nu t = u at *
          generalize nb t = b at *
          go_wp2_with fail
          refine (CP.out _).mono ?_; rintro e w1 ⟨rfl, h1⟩
          have H1 := Lib.hid (HB.out.trans (h1.mono HB.out.size))
          clear h1
          generalize pv u b = v at *
          rcases PE.out with he | he | he
          · rw [he] at HR ⊢
            clear he
            have PVH := Lib.hid PV
            clear PV
            rcases Nat.lt_trichotomy v 9223372036854775808 with hv | hv | hv
            · have b1 : decide ((v : Int) ≤ 9223372036854775808) = true := decide_eq_true (by omega)
              have b2 : decide ((9223372036854775808 : Int) ≤ (v : Int)) = false := decide_eq_false (by omega)
              have b3 : decide ((9223372036854775808 : Int) < (v : Int)) = false := decide_eq_false (by omega)
              have hvH := Lib.hid hv
              clear hv
              go_wp2_with (go_at_call 153; refine (Pow.pow2_is 63 (by decide) (by decide) 9223372036854775808 (by decide) _).mono ?_; rintro e w' ⟨rfl, rfl⟩)
              go_ret2
              exact ⟨by rw [← HR.out]; first | exact dv_neg v (Nat.le_of_lt hvH.out) | exact dv_low v hvH.out, H1.out⟩
            · have b1 : decide ((v : Int) ≤ 9223372036854775808) = true := decide_eq_true (by omega)
              have b2 : decide ((9223372036854775808 : Int) ≤ (v : Int)) = true := decide_eq_true (by omega)
              have b3 : decide ((9223372036854775808 : Int) < (v : Int)) = false := decide_eq_false (by omega)
              have hvH := Lib.hid hv
              clear hv
              go_wp2_with (go_at_call 153; refine (Pow.pow2_is 63 (by decide) (by decide) 9223372036854775808 (by decide) _).mono ?_; rintro e w' ⟨rfl, rfl⟩)
              go_ret2
              exact ⟨by rw [← HR.out]; first | exact dv_neg v (Nat.le_of_eq hvH.out) | exact dv_high v (Nat.le_of_eq hvH.out.symm), H1.out⟩
            · have b1 : decide ((v : Int) ≤ 9223372036854775808) = false := decide_eq_false (by omega)
              have b2 : decide ((9223372036854775808 : Int) ≤ (v : Int)) = true := decide_eq_true (by omega)
              have b3 : decide ((9223372036854775808 : Int) < (v : Int)) = true := decide_eq_true (by omega)
              have hvH := Lib.hid hv
              clear hv
              go_wp2_with (go_at_call 153; refine (Pow.pow2_is 63 (by decide) (by decide) 9223372036854775808 (by decide) _).mono ?_; rintro e w' ⟨rfl, rfl⟩)
              go_ret2
              exact ⟨by rw [← HR.out]; first | exact dv_high_neg v hvH.out | exact dv_high v (Nat.le_of_lt hvH.out), H1.out⟩
          · rw [he] at HR ⊢
            clear he
            go_wp2_with fail
            go_ret2
            exact ⟨by rw [← HR.out]; rfl, H1.out⟩
          · rw [he] at HR ⊢
            clear he
            go_wp2_with fail
            go_ret2
            exact ⟨by rw [← HR.out]; rfl, H1.out⟩
end Go.Proofs.YtkopjmofdnlplaaGreatDoor.Dig
