/-
  PROVED HERE: what a written number is, as one function, and the contract of digits.Number. Conditions: as each theorem states.
-/
import Derived.Test.YtofmheeiplagjaaGreatDoorParB
import Derived.Deep.DeepCutAuto
namespace Go.Proofs.YtofmheeiplagjaaGreatDoor.Dig
open Go.RowKit

def nneg (s : ByteArray) : Bool := decide (0 < s.size ∧ byteAt s 0 = 45)
def nt (s : ByteArray) : ByteArray := if nneg s then s.extract 1 s.size else s
def nb (t : ByteArray) : Nat := if 2 ≤ t.size ∧ byteAt t 0 = 48 then (if byteAt t 1 = 120 then 16 else if byteAt t 1 = 98 then 2 else 10) else 10
def nu (t : ByteArray) : ByteArray := if 2 ≤ t.size ∧ byteAt t 0 = 48 ∧ (byteAt t 1 = 120 ∨ byteAt t 1 = 98) then t.extract 2 t.size else t
def nv (neg : Bool) (v : Nat) (e : Int) : Int := if e ≠ 0 then 0 else if neg then (if v ≤ 9223372036854775808 then -(v : Int) else 0) else if 9223372036854775808 ≤ v then 0 else v
def ne (neg : Bool) (v : Nat) (e : Int) : Int := if e ≠ 0 then e else if neg then (if v ≤ 9223372036854775808 then 0 else 2) else if 9223372036854775808 ≤ v then 2 else 0
theorem pe_cases (s : ByteArray) (b : Nat) : pe s b = 0 ∨ pe s b = 2 ∨ pe s b = 3 := by
  unfold pe
  split
  · exact .inr (.inr rfl)
  · split
    · exact .inr (.inl rfl)
    · exact .inl rfl
theorem pv_lt (s : ByteArray) (b : Nat) : pv s b < 18446744073709551616 := by
  unfold pv
  split
  · decide
  · exact pn_lt _ _ _
theorem nv_low (v : Nat) (h : v < 9223372036854775808) : Ending.returned (.tuple #[.int .i64 (wrap64 (v : Int)), .nilIface]) = Ending.returned (.tuple #[.int .i64 (nv false v 0), ev (ne false v 0)]) := by
  have h1 : ¬ 9223372036854775808 ≤ v := by omega
  rw [IntWalk.wrap64_in _ (by omega)]
  simp [nv, ne, ev, h1]
theorem nv_high (v : Nat) (h1 : 9223372036854775808 ≤ v) : Ending.returned (.tuple #[.int .i64 0, .iface 25 (.int .i64 2)]) = Ending.returned (.tuple #[.int .i64 (nv false v 0), ev (ne false v 0)]) := by
  simp [nv, ne, ev, h1]
theorem neg_back (v : Nat) (h : v ≤ 9223372036854775808) : wrap64 (IntKind.u64.wrap (-(v : Int))) = -(v : Int) := by
  have e : IntKind.u64.wrap (-(v : Int)) = (-(v : Int)) % 18446744073709551616 := by simp [IntKind.wrap, IntKind.bits, IntKind.signed]
  rw [e]
  unfold wrap64
  omega
theorem nv_neg (v : Nat) (h : v ≤ 9223372036854775808) : Ending.returned (.tuple #[.int .i64 (wrap64 (IntKind.u64.wrap (-(v : Int)))), .nilIface]) = Ending.returned (.tuple #[.int .i64 (nv true v 0), ev (ne true v 0)]) := by
  rw [neg_back v h]
  simp [nv, ne, ev, h]
theorem nv_high_neg (v : Nat) (h1 : 9223372036854775808 < v) : Ending.returned (.tuple #[.int .i64 0, .iface 25 (.int .i64 2)]) = Ending.returned (.tuple #[.int .i64 (nv true v 0), ev (ne true v 0)]) := by
  have h2 : ¬ v ≤ 9223372036854775808 := by omega
  simp [nv, ne, ev, h2]
/-- The five forms of what stands behind the sign. -/
theorem kinds (t : ByteArray) :
    (t.size ≤ 1 ∧ nb t = 10 ∧ nu t = t) ∨ (2 ≤ t.size ∧ byteAt t 0 ≠ 48 ∧ nb t = 10 ∧ nu t = t) ∨ (2 ≤ t.size ∧ byteAt t 0 = 48 ∧ byteAt t 1 = 120 ∧ nb t = 16 ∧ nu t = t.extract 2 t.size) ∨
    (2 ≤ t.size ∧ byteAt t 0 = 48 ∧ byteAt t 1 = 98 ∧ nb t = 2 ∧ nu t = t.extract 2 t.size) ∨ (2 ≤ t.size ∧ byteAt t 0 = 48 ∧ byteAt t 1 ≠ 120 ∧ byteAt t 1 ≠ 98 ∧ nb t = 10 ∧ nu t = t) := by
  by_cases h1 : 2 ≤ t.size
  · by_cases h2 : byteAt t 0 = 48
    · by_cases h3 : byteAt t 1 = 120
      · exact .inr (.inr (.inl ⟨h1, h2, h3, by simp [nb, h1, h2, h3], by simp [nu, h1, h2, h3]⟩))
      · by_cases h4 : byteAt t 1 = 98
        · exact .inr (.inr (.inr (.inl ⟨h1, h2, h4, by simp [nb, h1, h2, h4], by simp [nu, h1, h2, h4]⟩)))
        · exact .inr (.inr (.inr (.inr ⟨h1, h2, h3, h4, by simp [nb, h1, h2, h3, h4], by simp [nu, h3, h4]⟩)))
    · exact .inr (.inl ⟨h1, h2, by simp [nb, h2], by simp [nu, h2]⟩)
  · exact .inl ⟨by omega, by simp [nb, h1], by simp [nu, h1]⟩
theorem str_none (s : ByteArray) (h : s.size = 0) : s.toList.isEmpty = true := by
  rw [ByteArray.toList_eq]
  have e : s.data.toList.length = s.size := rfl
  rw [List.isEmpty_iff]
  exact List.eq_nil_of_length_eq_zero (by omega)
theorem byte_is (s : ByteArray) (k : Nat) (h : k < s.size) (c : Nat) (hc : byteAt s k = c) : ((s[k].toNat : Int) == (c : Int)) = true := by rw [byteAt_eq s k h, hc]; exact beq_self_eq_true _
theorem byte_isnt (s : ByteArray) (k : Nat) (h : k < s.size) (c : Nat) (hc : byteAt s k ≠ c) : ((s[k].toNat : Int) == (c : Int)) = false := by rw [byteAt_eq s k h, beq_eq_false_iff_ne]; omega

set_option maxRecDepth 100000 in
set_option maxHeartbeats 2000000 in
theorem number_any (s : ByteArray) (hs : s.size ≤ 1000) (W : World) :
    Calls Tryz.prog 95 #[.string s] W fun e w' => e = .returned (.tuple #[.int .i64 (nv (nneg s) (pv (nu (nt s)) (nb (nt s))) (pe (nu (nt s)) (nb (nt s)))), ev (ne (nneg s) (pv (nu (nt s)) (nb (nt s))) (pe (nu (nt s)) (nb (nt s))))]) ∧ Below W.heap.size W w' := by
  have hcase : (s.size = 0 ∧ nneg s = false ∧ nt s = s) ∨ (∃ h : 0 < s.size, ((s[0].toNat : Int) == 45) = true ∧ nneg s = true ∧ nt s = s.extract 1 s.size) ∨ (∃ h : 0 < s.size, ((s[0].toNat : Int) == 45) = false ∧ nneg s = false ∧ nt s = s) := by
    by_cases h : 0 < s.size
    · by_cases h2 : byteAt s 0 = 45
      · exact .inr (.inl ⟨h, byte_is s 0 h 45 h2, by simp [nneg, h, h2], by simp [nt, nneg, h, h2]⟩)
      · exact .inr (.inr ⟨h, byte_isnt s 0 h 45 h2, by simp [nneg, h2], by simp [nt, nneg, h2]⟩)
    · exact .inl ⟨by omega, by simp [nneg, h], by simp [nt, nneg, h]⟩
  have hts : (nt s).size ≤ 1000 := by
    rcases hcase with ⟨_, _, h⟩ | ⟨_, _, _, h⟩ | ⟨_, _, _, h⟩ <;> rw [h]
    · exact hs
    · rw [ByteArray.size_extract]; omega
    · exact hs
  have hsu : (nu (nt s)).size ≤ 1000 := by
    rcases kinds (nt s) with ⟨_, _, h⟩ | ⟨_, _, _, h⟩ | ⟨_, _, _, _, h⟩ | ⟨_, _, _, _, h⟩ | ⟨_, _, _, _, _, h⟩ <;> rw [h] <;> first | exact hts | (rw [ByteArray.size_extract]; omega)
  have hb10 : 2 ≤ nb (nt s) ∧ nb (nt s) ≤ 16 := by
    rcases kinds (nt s) with ⟨_, h, _⟩ | ⟨_, _, h, _⟩ | ⟨_, _, _, h, _⟩ | ⟨_, _, _, h, _⟩ | ⟨_, _, _, _, h, _⟩ <;> rw [h] <;> omega
  have K := Lib.hid (kinds (nt s))
  have PE := Lib.hid (pe_cases (nu (nt s)) (nb (nt s)))
  have PV := pv_lt (nu (nt s)) (nb (nt s))
  have CP := Lib.hid (fun W => parse_yes (nu (nt s)) (nb (nt s)) hb10 hsu W)
  rcases hcase with ⟨hz0, hneg, hT⟩ | ⟨hz1, e0, hneg, hT⟩ | ⟨hz1, e0, hneg, hT⟩
  all_goals
    first
      | have hz := str_none s hz0
      | have hz := str_full s hz1
    rw [hneg]
    have hTH := Lib.hid hT
    clear hneg hT
    generalize hR : Ending.returned (.tuple #[.int .i64 (nv _ (pv (nu (nt s)) (nb (nt s))) (pe (nu (nt s)) (nb (nt s)))), ev (ne _ (pv (nu (nt s)) (nb (nt s))) (pe (nu (nt s)) (nb (nt s))))]) = R
    have HR := Lib.hid hR
    clear hR
    go_enter Tryz.func95, Tryz.ntmps95
    go_upto_if 15 with (fail)
    go_cut [0] (fun s0 wx => s0 = .string (nt s) ∧ W = wx)
    case first =>
      go_wp2_with fail
      go_meet
      exact ⟨by rw [hTH.out], rfl⟩
    case rest =>
      obtain ⟨rfl, rfl⟩ := hcut
      clear hz
      have K' := K.out
      clear K hTH
      generalize nt s = t at *
      rcases K' with ⟨k1, kb, ku⟩ | ⟨k1, k2, kb, ku⟩ | ⟨k1, k2, k3, kb, ku⟩ | ⟨k1, k2, k3, kb, ku⟩ | ⟨k1, k2, k3, k4, kb, ku⟩
      · have t1 : ¬ (1 : Int) < (t.size : Int) := by omega
        go_upto_if 25 with (fail)
        go_cut [0, 5] (fun s0 s5 wx => s0 = .string (nu t) ∧ s5 = .int .i64 (nb t) ∧ Below W.heap.size W wx)
        case first =>
          go_wp2_with fail
          go_meet
          exact ⟨by rw [ku], by rw [kb]; rfl, Below.refl _ _⟩
        case rest =>
          obtain ⟨rfl, rfl, hB⟩ := hcut
          clear kb ku
          have HB := Lib.hid hB
          clear hB
          generalize nu t = u at *
          generalize nb t = b at *
          go_wp2_with fail
          refine (CP.out _).mono ?_; rintro e w1 ⟨rfl, h1⟩
          have H1 := Lib.hid (HB.out.trans (h1.mono HB.out.size))
          clear h1
          generalize pv u b = v at *
          rcases PE.out with he | he | he
          · rw [he] at HR ⊢
            rw [show ev 0 = .nilIface from rfl]
            clear he
            have PVH := Lib.hid PV
            clear PV
            rcases Nat.lt_trichotomy v 9223372036854775808 with hv | hv | hv
            · have b1 : decide ((v : Int) ≤ 9223372036854775808) = true := decide_eq_true (by omega)
              have b2 : decide ((9223372036854775808 : Int) ≤ (v : Int)) = false := decide_eq_false (by omega)
              have hvH := Lib.hid hv
              clear hv
              go_wp2_with fail
              go_ret2
              exact ⟨by rw [← HR.out]; first | exact nv_neg v (Nat.le_of_lt hvH.out) | exact nv_low v hvH.out, H1.out⟩
            · have b1 : decide ((v : Int) ≤ 9223372036854775808) = true := decide_eq_true (by omega)
              have b2 : decide ((9223372036854775808 : Int) ≤ (v : Int)) = true := decide_eq_true (by omega)
              have hvH := Lib.hid hv
              clear hv
              go_wp2_with fail
              go_ret2
              exact ⟨by rw [← HR.out]; first | exact nv_neg v (Nat.le_of_eq hvH.out) | exact nv_high v (Nat.le_of_eq hvH.out.symm), H1.out⟩
            · have b1 : decide ((v : Int) ≤ 9223372036854775808) = false := decide_eq_false (by omega)
              have b2 : decide ((9223372036854775808 : Int) ≤ (v : Int)) = true := decide_eq_true (by omega)
              have hvH := Lib.hid hv
              clear hv
              go_wp2_with fail
              go_ret2
              exact ⟨by rw [← HR.out]; first | exact nv_high_neg v hvH.out | exact nv_high v (Nat.le_of_lt hvH.out), H1.out⟩
          · rw [he] at HR ⊢
            rw [show ev 2 = .iface 25 (.int .i64 2) from rfl]
            clear he
            go_wp2_with fail
            go_ret2
            exact ⟨by rw [← HR.out]; rfl, H1.out⟩
          · rw [he] at HR ⊢
            rw [show ev 3 = .iface 25 (.int .i64 3) from rfl]
            clear he
            go_wp2_with fail
            go_ret2
            exact ⟨by rw [← HR.out]; rfl, H1.out⟩

      · have t1 : (1 : Int) < (t.size : Int) := by omega
        have t0 : 0 < t.size := by omega
        have t2 : 1 < t.size := by omega
        have x0 : ((t[0].toNat : Int) == 48) = false := byte_isnt t 0 t0 48 k2
        go_upto_if 25 with (fail)
        go_cut [0, 5] (fun s0 s5 wx => s0 = .string (nu t) ∧ s5 = .int .i64 (nb t) ∧ Below W.heap.size W wx)
        case first =>
          go_wp2_with fail
          go_meet
          exact ⟨by rw [ku], by rw [kb]; rfl, Below.refl _ _⟩
        case rest =>
          obtain ⟨rfl, rfl, hB⟩ := hcut
          clear kb ku
          have HB := Lib.hid hB
          clear hB
          generalize nu t = u at *
          generalize nb t = b at *
          go_wp2_with fail
          refine (CP.out _).mono ?_; rintro e w1 ⟨rfl, h1⟩
          have H1 := Lib.hid (HB.out.trans (h1.mono HB.out.size))
          clear h1
          generalize pv u b = v at *
          rcases PE.out with he | he | he
          · rw [he] at HR ⊢
            rw [show ev 0 = .nilIface from rfl]
            clear he
            have PVH := Lib.hid PV
            clear PV
            rcases Nat.lt_trichotomy v 9223372036854775808 with hv | hv | hv
            · have b1 : decide ((v : Int) ≤ 9223372036854775808) = true := decide_eq_true (by omega)
              have b2 : decide ((9223372036854775808 : Int) ≤ (v : Int)) = false := decide_eq_false (by omega)
              have hvH := Lib.hid hv
              clear hv
              go_wp2_with fail
              go_ret2
              exact ⟨by rw [← HR.out]; first | exact nv_neg v (Nat.le_of_lt hvH.out) | exact nv_low v hvH.out, H1.out⟩
            · have b1 : decide ((v : Int) ≤ 9223372036854775808) = true := decide_eq_true (by omega)
              have b2 : decide ((9223372036854775808 : Int) ≤ (v : Int)) = true := decide_eq_true (by omega)
              have hvH := Lib.hid hv
              clear hv
              go_wp2_with fail
              go_ret2
              exact ⟨by rw [← HR.out]; first | exact nv_neg v (Nat.le_of_eq hvH.out) | exact nv_high v (Nat.le_of_eq hvH.out.symm), H1.out⟩
            · have b1 : decide ((v : Int) ≤ 9223372036854775808) = false := decide_eq_false (by omega)
              have b2 : decide ((9223372036854775808 : Int) ≤ (v : Int)) = true := decide_eq_true (by omega)
              have hvH := Lib.hid hv
              clear hv
              go_wp2_with fail
              go_ret2
              exact ⟨by rw [← HR.out]; first | exact nv_high_neg v hvH.out | exact nv_high v (Nat.le_of_lt hvH.out), H1.out⟩
          · rw [he] at HR ⊢
            rw [show ev 2 = .iface 25 (.int .i64 2) from rfl]
            clear he
            go_wp2_with fail
            go_ret2
            exact ⟨by rw [← HR.out]; rfl, H1.out⟩
          · rw [he] at HR ⊢
            rw [show ev 3 = .iface 25 (.int .i64 3) from rfl]
            clear he
            go_wp2_with fail
            go_ret2
            exact ⟨by rw [← HR.out]; rfl, H1.out⟩

      · have t1 : (1 : Int) < (t.size : Int) := by omega
        have t0 : 0 < t.size := by omega
        have t2 : 1 < t.size := by omega
        have x0 : ((t[0].toNat : Int) == 48) = true := byte_is t 0 t0 48 k2
        have x1 : ((t[1].toNat : Int) == 120) = true := byte_is t 1 t2 120 k3
        go_upto_if 25 with (fail)
        go_cut [0, 5] (fun s0 s5 wx => s0 = .string (nu t) ∧ s5 = .int .i64 (nb t) ∧ Below W.heap.size W wx)
        case first =>
          go_wp2_with fail
          go_quiet (fail)
          go_wp2_with fail
          go_meet
          exact ⟨by rw [ku], by rw [kb]; rfl, below_drewN (Below.refl _ _) _⟩
        case rest =>
          obtain ⟨rfl, rfl, hB⟩ := hcut
          clear kb ku
          have HB := Lib.hid hB
          clear hB
          generalize nu t = u at *
          generalize nb t = b at *
          go_wp2_with fail
          refine (CP.out _).mono ?_; rintro e w1 ⟨rfl, h1⟩
          have H1 := Lib.hid (HB.out.trans (h1.mono HB.out.size))
          clear h1
          generalize pv u b = v at *
          rcases PE.out with he | he | he
          · rw [he] at HR ⊢
            rw [show ev 0 = .nilIface from rfl]
            clear he
            have PVH := Lib.hid PV
            clear PV
            rcases Nat.lt_trichotomy v 9223372036854775808 with hv | hv | hv
            · have b1 : decide ((v : Int) ≤ 9223372036854775808) = true := decide_eq_true (by omega)
              have b2 : decide ((9223372036854775808 : Int) ≤ (v : Int)) = false := decide_eq_false (by omega)
              have hvH := Lib.hid hv
              clear hv
              go_wp2_with fail
              go_ret2
              exact ⟨by rw [← HR.out]; first | exact nv_neg v (Nat.le_of_lt hvH.out) | exact nv_low v hvH.out, H1.out⟩
            · have b1 : decide ((v : Int) ≤ 9223372036854775808) = true := decide_eq_true (by omega)
              have b2 : decide ((9223372036854775808 : Int) ≤ (v : Int)) = true := decide_eq_true (by omega)
              have hvH := Lib.hid hv
              clear hv
              go_wp2_with fail
              go_ret2
              exact ⟨by rw [← HR.out]; first | exact nv_neg v (Nat.le_of_eq hvH.out) | exact nv_high v (Nat.le_of_eq hvH.out.symm), H1.out⟩
            · have b1 : decide ((v : Int) ≤ 9223372036854775808) = false := decide_eq_false (by omega)
              have b2 : decide ((9223372036854775808 : Int) ≤ (v : Int)) = true := decide_eq_true (by omega)
              have hvH := Lib.hid hv
              clear hv
              go_wp2_with fail
              go_ret2
              exact ⟨by rw [← HR.out]; first | exact nv_high_neg v hvH.out | exact nv_high v (Nat.le_of_lt hvH.out), H1.out⟩
          · rw [he] at HR ⊢
            rw [show ev 2 = .iface 25 (.int .i64 2) from rfl]
            clear he
            go_wp2_with fail
            go_ret2
            exact ⟨by rw [← HR.out]; rfl, H1.out⟩
          · rw [he] at HR ⊢
            rw [show ev 3 = .iface 25 (.int .i64 3) from rfl]
            clear he
            go_wp2_with fail
            go_ret2
            exact ⟨by rw [← HR.out]; rfl, H1.out⟩

      · have t1 : (1 : Int) < (t.size : Int) := by omega
        have t0 : 0 < t.size := by omega
        have t2 : 1 < t.size := by omega
        have x0 : ((t[0].toNat : Int) == 48) = true := byte_is t 0 t0 48 k2
        have x1 : ((t[1].toNat : Int) == 120) = false := byte_isnt t 1 t2 120 (by omega)
        have x2 : ((t[1].toNat : Int) == 98) = true := byte_is t 1 t2 98 k3
        go_upto_if 25 with (fail)
        go_cut [0, 5] (fun s0 s5 wx => s0 = .string (nu t) ∧ s5 = .int .i64 (nb t) ∧ Below W.heap.size W wx)
        case first =>
          go_wp2_with fail
          go_quiet (fail)
          go_wp2_with fail
          go_meet
          exact ⟨by rw [ku], by rw [kb]; rfl, below_drewN (Below.refl _ _) _⟩
        case rest =>
          obtain ⟨rfl, rfl, hB⟩ := hcut
          clear kb ku
          have HB := Lib.hid hB
          clear hB
          generalize nu t = u at *
          generalize nb t = b at *
          go_wp2_with fail
          refine (CP.out _).mono ?_; rintro e w1 ⟨rfl, h1⟩
          have H1 := Lib.hid (HB.out.trans (h1.mono HB.out.size))
          clear h1
          generalize pv u b = v at *
          rcases PE.out with he | he | he
          · rw [he] at HR ⊢
            rw [show ev 0 = .nilIface from rfl]
            clear he
            have PVH := Lib.hid PV
            clear PV
            rcases Nat.lt_trichotomy v 9223372036854775808 with hv | hv | hv
            · have b1 : decide ((v : Int) ≤ 9223372036854775808) = true := decide_eq_true (by omega)
              have b2 : decide ((9223372036854775808 : Int) ≤ (v : Int)) = false := decide_eq_false (by omega)
              have hvH := Lib.hid hv
              clear hv
              go_wp2_with fail
              go_ret2
              exact ⟨by rw [← HR.out]; first | exact nv_neg v (Nat.le_of_lt hvH.out) | exact nv_low v hvH.out, H1.out⟩
            · have b1 : decide ((v : Int) ≤ 9223372036854775808) = true := decide_eq_true (by omega)
              have b2 : decide ((9223372036854775808 : Int) ≤ (v : Int)) = true := decide_eq_true (by omega)
              have hvH := Lib.hid hv
              clear hv
              go_wp2_with fail
              go_ret2
              exact ⟨by rw [← HR.out]; first | exact nv_neg v (Nat.le_of_eq hvH.out) | exact nv_high v (Nat.le_of_eq hvH.out.symm), H1.out⟩
            · have b1 : decide ((v : Int) ≤ 9223372036854775808) = false := decide_eq_false (by omega)
              have b2 : decide ((9223372036854775808 : Int) ≤ (v : Int)) = true := decide_eq_true (by omega)
              have hvH := Lib.hid hv
              clear hv
              go_wp2_with fail
              go_ret2
              exact ⟨by rw [← HR.out]; first | exact nv_high_neg v hvH.out | exact nv_high v (Nat.le_of_lt hvH.out), H1.out⟩
          · rw [he] at HR ⊢
            rw [show ev 2 = .iface 25 (.int .i64 2) from rfl]
            clear he
            go_wp2_with fail
            go_ret2
            exact ⟨by rw [← HR.out]; rfl, H1.out⟩
          · rw [he] at HR ⊢
            rw [show ev 3 = .iface 25 (.int .i64 3) from rfl]
            clear he
            go_wp2_with fail
            go_ret2
            exact ⟨by rw [← HR.out]; rfl, H1.out⟩

      · have t1 : (1 : Int) < (t.size : Int) := by omega
        have t0 : 0 < t.size := by omega
        have t2 : 1 < t.size := by omega
        have x0 : ((t[0].toNat : Int) == 48) = true := byte_is t 0 t0 48 k2
        have x1 : ((t[1].toNat : Int) == 120) = false := byte_isnt t 1 t2 120 k3
        have x2 : ((t[1].toNat : Int) == 98) = false := byte_isnt t 1 t2 98 k4
        go_upto_if 25 with (fail)
        go_cut [0, 5] (fun s0 s5 wx => s0 = .string (nu t) ∧ s5 = .int .i64 (nb t) ∧ Below W.heap.size W wx)
        case first =>
          go_wp2_with fail
          go_meet
          exact ⟨by rw [ku], by rw [kb]; rfl, Below.refl _ _⟩
        case rest =>
          obtain ⟨rfl, rfl, hB⟩ := hcut
          clear kb ku
          have HB := Lib.hid hB
          clear hB
          generalize nu t = u at *
          generalize nb t = b at *
          go_wp2_with fail
          refine (CP.out _).mono ?_; rintro e w1 ⟨rfl, h1⟩
          have H1 := Lib.hid (HB.out.trans (h1.mono HB.out.size))
          clear h1
          generalize pv u b = v at *
          rcases PE.out with he | he | he
          · rw [he] at HR ⊢
            rw [show ev 0 = .nilIface from rfl]
            clear he
            have PVH := Lib.hid PV
            clear PV
            rcases Nat.lt_trichotomy v 9223372036854775808 with hv | hv | hv
            · have b1 : decide ((v : Int) ≤ 9223372036854775808) = true := decide_eq_true (by omega)
              have b2 : decide ((9223372036854775808 : Int) ≤ (v : Int)) = false := decide_eq_false (by omega)
              have hvH := Lib.hid hv
              clear hv
              go_wp2_with fail
              go_ret2
              exact ⟨by rw [← HR.out]; first | exact nv_neg v (Nat.le_of_lt hvH.out) | exact nv_low v hvH.out, H1.out⟩
            · have b1 : decide ((v : Int) ≤ 9223372036854775808) = true := decide_eq_true (by omega)
              have b2 : decide ((9223372036854775808 : Int) ≤ (v : Int)) = true := decide_eq_true (by omega)
              have hvH := Lib.hid hv
              clear hv
              go_wp2_with fail
              go_ret2
              exact ⟨by rw [← HR.out]; first | exact nv_neg v (Nat.le_of_eq hvH.out) | exact nv_high v (Nat.le_of_eq hvH.out.symm), H1.out⟩
            · have b1 : decide ((v : Int) ≤ 9223372036854775808) = false := decide_eq_false (by omega)
              have b2 : decide ((9223372036854775808 : Int) ≤ (v : Int)) = true := decide_eq_true (by omega)
              have hvH := Lib.hid hv
              clear hv
              go_wp2_with fail
              go_ret2
              exact ⟨by rw [← HR.out]; first | exact nv_high_neg v hvH.out | exact nv_high v (Nat.le_of_lt hvH.out), H1.out⟩
          · rw [he] at HR ⊢
            rw [show ev 2 = .iface 25 (.int .i64 2) from rfl]
            clear he
            go_wp2_with fail
            go_ret2
            exact ⟨by rw [← HR.out]; rfl, H1.out⟩
          · rw [he] at HR ⊢
            rw [show ev 3 = .iface 25 (.int .i64 3) from rfl]
            clear he
            go_wp2_with fail
            go_ret2
            exact ⟨by rw [← HR.out]; rfl, H1.out⟩

end Go.Proofs.YtofmheeiplagjaaGreatDoor.Dig
