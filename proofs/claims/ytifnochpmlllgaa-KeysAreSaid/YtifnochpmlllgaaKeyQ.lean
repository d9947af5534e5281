/-
  PROVED HERE: the contract of keys' arg. Conditions: as each theorem states.
-/
import Derived.Test.YtifnochpmlllgaaKeyP
import Derived.Test.YtifnochpmlllgaaKeyF
import Derived.BigRegion
import Derived.Deep.CutBlock
import Derived.Deep.DeepCutAuto
namespace Go.Proofs.Ytifnochpmlllgaa.Key
open Go.RowKit
def bdk (n : Nat) (s : ByteArray) (k : Nat) : Bool := ((lst s).take k).any (fun x => !okA n x)
theorem bdk_zero (n : Nat) (s : ByteArray) : bdk n s 0 = false := rfl
theorem bdk_succ (n : Nat) (s : ByteArray) (k : Nat) (h : k < s.size) : bdk n s (k + 1) = (bdk n s k || !okA n s[k]) := by
  unfold bdk
  have : (lst s).take (k + 1) = (lst s).take k ++ [s[k]] := by
    have h1 : k < (lst s).length := h
    rw [← List.take_append_getElem h1]
    rfl
  rw [this, List.any_append]
  simp
theorem bdk_all (n : Nat) (s : ByteArray) : bdk n s s.size = (lst s).any (fun x => !okA n x) := by
  unfold bdk
  rw [List.take_of_length_le (by rw [lst_len]; exact Nat.le_refl _)]
def AgP (n : Nat) (g : Nat) (u : ByteArray) (w : World) (e : Ending) (w' : World) : Prop :=
  e = .returned (.tuple #[.string (u.extract 0 (min n u.size)), .bool (decide (min n u.size = n))]) ∧ w' = (w.drew.setCell ⟨g, 1, none⟩ (.bool ((lst (u.extract 0 (min n u.size))).any (fun x => !okA n x)))).setCell ⟨g, 0, none⟩ (.string (u.extract (min n u.size) u.size))
def AR (n : Nat) (s : ByteArray) (g : Nat) (w : World) (i : Value) (wr : World) : Prop :=
  ∃ k : Nat, k ≤ s.size ∧ i = .int .i64 k ∧ wr = w.drew.setCell ⟨g, 1, none⟩ (.bool (bdk n s k))
set_option maxRecDepth 100000 in
set_option maxHeartbeats 2000000 in
theorem arg_core (key : UInt8) (n : Nat) (hcl : (n = 1 ∧ key.toNat = 39) ∨ (n = 1 ∧ key.toNat ≠ 39 ∧ letter key = true) ∨ (n = 2 ∧ key.toNat = 102 ∧ letter key = false) ∨ (n = 2 ∧ key.toNat = 114 ∧ letter key = false) ∨ (n = 0 ∧ key.toNat ≠ 39 ∧ letter key = false ∧ key.toNat ≠ 102 ∧ key.toNat ≠ 114))
    (g : Nat) (u : ByteArray) (hu : u.size ≤ 1000) (w : World) (c0 : w.cell? ⟨g, 0, none⟩ = some (.string u)) (c1 : w.cell? ⟨g, 1, none⟩ = some (.bool false)) (f0 : w.frozen? ⟨g, 0, none⟩ = false) (f1 : w.frozen? ⟨g, 1, none⟩ = false) :
    Calls Try.prog 15 #[.pointer (some ⟨g, 0, none⟩), .int .u8 key.toNat] w (AgP n g u w) := by
  have HL := has_any ⟨#[109, 113, 64]⟩ key
  have hlx : decide (0 ≤ Lib.indexByte (⟨#[109, 113, 64]⟩ : ByteArray).data.toList key) = letter key := ix_letter key
  rw [hlx] at HL
  clear hlx
  generalize letter key = L at *
  have HLH := Lib.hid HL
  clear HL
  have hmin : min (n : Int) (u.size : Int) = ((min n u.size : Nat) : Int) := by omega
  have hle : min n u.size ≤ u.size := Nat.min_le_right _ _
  have hsz : (u.extract 0 (min n u.size)).size = min n u.size := by rw [ByteArray.size_extract]; omega
  have hqn : min n u.size ≤ n := Nat.min_le_left _ _
  unfold AgP
  generalize hq : min n u.size = q at *
  have i0 : (0 : Int) ≤ (q : Int) := by omega
  have i1 : (q : Int) ≤ (u.size : Int) := by omega
  have hminH := Lib.hid hmin
  have hszH := Lib.hid hsz
  clear hmin hq hsz
  have hd : ((q : Int) == (n : Int)) = decide (q = n) := by
    by_cases h : q = n
    · rw [decide_eq_true h, beq_iff_eq]; omega
    · rw [decide_eq_false h, beq_eq_false_iff_ne]; omega
  generalize hqd : decide (q = n) = qn at *
  have hdH := Lib.hid hd
  clear hd hqd
  go_enter Try.func15, Try.ntmps15
  go_upto_block 0 with (fail)
  go_cut [6] (fun s6 wx => s6 = .int .i64 n ∧ wx = w)
  case first =>
    rcases hcl with ⟨rfl, k1⟩ | ⟨rfl, k1, rfl⟩ | ⟨rfl, k1, rfl⟩ | ⟨rfl, k1, rfl⟩ | ⟨rfl, k1, rfl, k3, k4⟩
    · have b39 := byte_eq key.toNat 39 (by omega)
      clear k1
      go_wp2_with fail
      go_meet
      exact ⟨rfl, rfl⟩
    · have b39 := byte_ne key.toNat 39 (by omega)
      clear k1
      go_wp2_with fail
      refine (HLH.out _).mono ?_; rintro e w' ⟨rfl, rfl⟩
      go_wp2_with fail
      go_meet
      exact ⟨rfl, rfl⟩
    · have b39 := byte_ne key.toNat 39 (by omega)
      have b102 := byte_eq key.toNat 102 (by omega)
      clear k1
      go_wp2_with fail
      refine (HLH.out _).mono ?_; rintro e w' ⟨rfl, rfl⟩
      go_wp2_with fail
      go_meet
      exact ⟨rfl, rfl⟩
    · have b39 := byte_ne key.toNat 39 (by omega)
      have b102 := byte_ne key.toNat 102 (by omega)
      have b114 := byte_eq key.toNat 114 (by omega)
      clear k1
      go_wp2_with fail
      refine (HLH.out _).mono ?_; rintro e w' ⟨rfl, rfl⟩
      go_wp2_with fail
      go_meet
      exact ⟨rfl, rfl⟩
    · have b39 := byte_ne key.toNat 39 (by omega)
      have b102 := byte_ne key.toNat 102 (by omega)
      have b114 := byte_ne key.toNat 114 (by omega)
      clear k1 k3 k4
      go_wp2_with fail
      refine (HLH.out _).mono ?_; rintro e w' ⟨rfl, rfl⟩
      go_wp2_with fail
      go_meet
      exact ⟨rfl, rfl⟩
  case rest =>
    obtain ⟨rfl, rfl⟩ := hcut
    have hn2 : n ≤ 2 := by omega
    clear hcl HLH
    have hmin := hminH.out
    have hS : Hid (∀ b, (wc.drew.setCell ⟨g, 1, none⟩ (.bool b)).cell? ⟨g, 0, none⟩ = some (.string u)) := Lib.hid (fun b => by rw [World.cell?_setCell_other _ _ _ _ (by simp)]; exact c0)
    have hS1 : Hid (∀ b, (wc.drew.setCell ⟨g, 1, none⟩ (.bool b)).cell? ⟨g, 1, none⟩ = some (.bool b)) := Lib.hid (fun b => World.cell?_setCell_same _ _ _ c1)
    have hF : Hid (∀ b j, (wc.drew.setCell ⟨g, 1, none⟩ (.bool b)).frozen? ⟨g, j, none⟩ = wc.frozen? ⟨g, j, none⟩) := Lib.hid (fun b j => frozen?_setCell _ _ _ _)
    have hs1 : Hid (∀ b b', (wc.drew.setCell ⟨g, 1, none⟩ (.bool b)).setCell ⟨g, 1, none⟩ (.bool b') = wc.drew.setCell ⟨g, 1, none⟩ (.bool b')) := Lib.hid (fun b b' => set_set _ g 1 _ _)
    have hself := Lib.hid (set_same wc.drew g 1 (.bool false) c1)
    clear hmin
    go_wp2_with fail
    go_region
    go_wp2_with fail
    rw [hminH.out, Int.toNat_natCast, Nat.min_eq_left hle]
    have hse := hszH.out
    generalize hs : u.extract 0 q = s at *
    have hse2 := hse
    have hsH := Lib.hid hs
    clear hs hse hszH hminH
    subst hse2
    have hall := Lib.hid (bdk_all n s)
    go_loopw [37] (fun i wr => AR n s g wc i wr) (fun i _ => s.size - (intOf i).toNat)
    case atStart => exact ⟨0, Nat.zero_le _, rfl, hself.out.symm⟩
    case round =>
      obtain ⟨k, hk, rfl, rfl⟩ := hrel
      have d0 := hS.out (bdk n s k)
      have d1 := hS1.out (bdk n s k)
      have g0 := (hF.out (bdk n s k) 0).trans f0
      have g1 := (hF.out (bdk n s k) 1).trans f1
      have hss := Lib.hid (hs1.out (bdk n s k))
      have hnx := bdk_succ n s k
      generalize hwx : wc.drew.setCell ⟨g, 1, none⟩ (.bool (bdk n s k)) = wx at *
      have hwH := Lib.hid hwx
      clear hwx
      by_cases hlt : k < s.size
      · have hN := hnx hlt
        clear hnx
        have j0 : (0 : Int) ≤ (k : Int) := by omega
        have j1 : (k : Int) < (s.size : Int) := by omega
        have bad_ : okA n s[k] = false → bdk n s (k + 1) = true := fun h => by rw [hN, h]; simp
        have good_ : okA n s[k] = true → wx = wc.drew.setCell ⟨g, 1, none⟩ (.bool (bdk n s (k + 1))) := fun h => by rw [hN, h, ← hwH.out]; simp
        have badH := Lib.hid bad_
        have goodH := Lib.hid good_
        clear bad_ good_ hN
        rcases (show n = 1 ∨ n = 2 by omega) with rfl | rfl
        · have hok : okA 1 s[k] = decide (97 ≤ s[k].toNat ∧ s[k].toNat ≤ 122) := small_of
          rcases (show (97 ≤ s[k].toNat ∧ s[k].toNat ≤ 122) ∨ s[k].toNat < 97 ∨ 122 < s[k].toNat by omega) with ⟨h1, h2⟩ | h1 | h1
          · have G := Lib.hid (goodH.out (by rw [hok]; exact decide_eq_true ⟨h1, h2⟩))
            clear hok badH goodH
            go_wp2_with fail
            go_roundw
            case rel => first | exact ⟨k + 1, by omega, by go_num, G.out⟩ | ((repeat apply Exists.intro); exact ⟨⟨k + 1, by omega, by go_num, G.out⟩, rfl⟩)
            case measure => simp [intOf]; omega
          · have G := Lib.hid (badH.out (by rw [hok]; exact decide_eq_false (by omega)))
            clear hok badH goodH
            go_wp2_with fail
            rw [hss.out]
            go_roundw
            case rel => first | exact ⟨k + 1, by omega, by go_num, by rw [G.out]⟩ | ((repeat apply Exists.intro); exact ⟨⟨k + 1, by omega, by go_num, by rw [G.out]⟩, rfl⟩)
            case measure => simp [intOf]; omega
          · have h0 : 97 ≤ s[k].toNat := by omega
            have G := Lib.hid (badH.out (by rw [hok]; exact decide_eq_false (by omega)))
            clear hok badH goodH
            go_wp2_with fail
            rw [hss.out]
            go_roundw
            case rel => first | exact ⟨k + 1, by omega, by go_num, by rw [G.out]⟩ | ((repeat apply Exists.intro); exact ⟨⟨k + 1, by omega, by go_num, by rw [G.out]⟩, rfl⟩)
            case measure => simp [intOf]; omega
        · have hok : okA 2 s[k] = decide ((0 : Int) ≤ Dig.dig s[k].toNat) := hexd_of s[k]
          have D := Lib.hid (Dig.digit_any (s[k].toNat : Int) (by omega) (by have := u8_lt s[k]; omega))
          generalize Dig.dig (s[k].toNat : Int) = d at *
          by_cases h1 : 0 ≤ d
          · have G := Lib.hid (goodH.out (by rw [hok]; exact decide_eq_true h1))
            clear hok badH goodH
            go_wp2_with fail
            refine (D.out _).mono ?_; rintro e w' ⟨rfl, rfl⟩
            go_wp2_with fail
            go_roundw
            case rel => first | exact ⟨k + 1, by omega, by go_num, G.out⟩ | ((repeat apply Exists.intro); exact ⟨⟨k + 1, by omega, by go_num, G.out⟩, rfl⟩)
            case measure => simp [intOf]; omega
          · have h1 : d < 0 := by omega
            have G := Lib.hid (badH.out (by rw [hok]; exact decide_eq_false (by omega)))
            clear hok badH goodH
            go_wp2_with fail
            refine (D.out _).mono ?_; rintro e w' ⟨rfl, rfl⟩
            go_wp2_with fail
            rw [hss.out]
            go_roundw
            case rel => first | exact ⟨k + 1, by omega, by go_num, by rw [G.out]⟩ | ((repeat apply Exists.intro); exact ⟨⟨k + 1, by omega, by go_num, by rw [G.out]⟩, rfl⟩)
            case measure => simp [intOf]; omega
      · obtain rfl : k = s.size := by omega
        clear hnx
        go_wp2_with fail
        go_ret2
        refine ⟨?_, ?_⟩
        · have := hdH.out
          rw [hsH.out, this]
          rfl
        · rw [hsH.out, ← hall.out, hwH.out]
theorem argn_cl (key : UInt8) : (argn key = 1 ∧ key.toNat = 39) ∨ (argn key = 1 ∧ key.toNat ≠ 39 ∧ letter key = true) ∨ (argn key = 2 ∧ key.toNat = 102 ∧ letter key = false) ∨ (argn key = 2 ∧ key.toNat = 114 ∧ letter key = false) ∨ (argn key = 0 ∧ key.toNat ≠ 39 ∧ letter key = false ∧ key.toNat ≠ 102 ∧ key.toNat ≠ 114) := by
  have : ∀ n : Fin 256, (argn n.val.toUInt8 = 1 ∧ n.val = 39) ∨ (argn n.val.toUInt8 = 1 ∧ n.val ≠ 39 ∧ letter n.val.toUInt8 = true) ∨ (argn n.val.toUInt8 = 2 ∧ n.val = 102 ∧ letter n.val.toUInt8 = false) ∨ (argn n.val.toUInt8 = 2 ∧ n.val = 114 ∧ letter n.val.toUInt8 = false) ∨ (argn n.val.toUInt8 = 0 ∧ n.val ≠ 39 ∧ letter n.val.toUInt8 = false ∧ n.val ≠ 102 ∧ n.val ≠ 114) := by decide +kernel
  have h := this ⟨key.toNat, u8_lt key⟩
  simp only at h
  rw [show key.toNat.toUInt8 = key from UInt8.ofNat_toNat] at h
  exact h
theorem arg_any (key : UInt8) (g : Nat) (u : ByteArray) (hu : u.size ≤ 1000) (w : World) (c0 : w.cell? ⟨g, 0, none⟩ = some (.string u)) (c1 : w.cell? ⟨g, 1, none⟩ = some (.bool false)) (f0 : w.frozen? ⟨g, 0, none⟩ = false) (f1 : w.frozen? ⟨g, 1, none⟩ = false) :
    Calls Try.prog 15 #[.pointer (some ⟨g, 0, none⟩), .int .u8 key.toNat] w (AgP (argn key) g u w) := arg_core key _ (argn_cl key) g u hu w c0 c1 f0 f1
end Go.Proofs.Ytifnochpmlllgaa.Key
