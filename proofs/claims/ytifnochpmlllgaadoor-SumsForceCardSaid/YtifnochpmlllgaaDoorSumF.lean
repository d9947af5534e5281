/-
  PROVED HERE: the contract of sums.Of. Conditions: as each theorem states.
-/
import Derived.Test.YtifnochpmlllgaaDoorSumE
import Derived.Test.YtifnochpmlllgaaDoorErrB
import Derived.Deep.RegionLaw
import Derived.Deep.RegionHeld3
namespace Go.Proofs.YtifnochpmlllgaaDoor.Sum
open Go.RowKit
/-- The register behind k bytes. -/
def cr (w P : Nat) (t : Bool) (I : Nat) (s : ByteArray) : Nat → Nat
  | 0 => I
  | k + 1 => stp w P t (cr w P t I s k) (byteAt s k)
theorem stp_lt (w P : Nat) (t : Bool) (r c : Nat) (hw : w = 8 ∨ w = 16 ∨ w = 32) (hP : P < 2 ^ w) (hr : r < 2 ^ w) (hc : c < 256) : stp w P t r c < 2 ^ w := by
  have := tc_lt t c hc
  unfold stp
  refine shs_lt w P _ hP (Nat.xor_lt_two_pow hr ?_) 8
  rcases hw with rfl | rfl | rfl <;> omega
theorem cr_lt (w P : Nat) (t : Bool) (I : Nat) (s : ByteArray) (hw : w = 8 ∨ w = 16 ∨ w = 32) (hP : P < 2 ^ w) (hI : I < 2 ^ w) : ∀ k, cr w P t I s k < 2 ^ w
  | 0 => hI
  | k + 1 => stp_lt w P t _ _ hw hP (cr_lt w P t I s hw hP hI k) (byteAt_lt s k)
/-- What both leave. -/
def SPo (v : Nat) (c : Int) (W : World) (e : Ending) (w' : World) : Prop := ∃ x, e = .returned (.tuple #[.int .u32 v, x]) ∧ Err.ErrIs w' x c (-1) ∧ Below W.heap.size W w'
set_option maxRecDepth 100000 in
set_option maxHeartbeats 2000000 in
theorem of_no (w : Int) (P : Nat) (t : Bool) (I O : Nat) (s : ByteArray) (hg : ¬ good w P I O) (hw : -9223372036854775808 ≤ w ∧ w ≤ 9223372036854775807) (hP : P < 4294967296) (hI : I < 4294967296) (hO : O < 4294967296) (W : World) :
    Calls Tryd.prog 43 #[Sm w P t I O, .string s] W (SPo 0 1 W) := by
  have R := Lib.hid (right_any w P t I O hw hP hI hO)
  rw [decide_eq_false hg] at R
  unfold Sm at R ⊢
  clear hg
  go_enter Tryd.func43, Tryd.ntmps43
  go_wp2_with fail
  refine (R.out _).mono ?_; rintro e w1 ⟨rfl, h1⟩
  have H1 := Lib.hid (((Below.refl W.heap.size W).alloc (Nat.le_refl _) _).trans (h1.mono (by simp)))
  clear h1
  go_wp2_with fail
  go_ret2
  exact ⟨_, rfl, .inr (.inl ⟨rfl, rfl⟩), H1.out⟩
def Cs (wr : World) (g : Nat) (w P : Nat) (t : Bool) (I O : Nat) : Prop := wr.cell? ⟨g, 0, none⟩ = some (.int .i64 w) ∧ wr.cell? ⟨g, 1, none⟩ = some (.int .u32 P) ∧ wr.cell? ⟨g, 2, none⟩ = some (.bool t) ∧ wr.cell? ⟨g, 3, none⟩ = some (.int .u32 I) ∧ wr.cell? ⟨g, 4, none⟩ = some (.int .u32 O)
theorem Cs.below {wr w' : World} {g w P : Nat} {t : Bool} {I O : Nat} (h : Cs wr g w P t I O) (hb : Below wr.heap.size wr w') : Cs w' g w P t I O := ⟨keepCell hb h.1, keepCell hb h.2.1, keepCell hb h.2.2.1, keepCell hb h.2.2.2.1, keepCell hb h.2.2.2.2⟩
set_option maxRecDepth 100000 in
set_option maxHeartbeats 2000000 in
theorem of_yes (w : Nat) (P : Nat) (t : Bool) (I O : Nat) (s : ByteArray) (hw : w = 8 ∨ w = 16 ∨ w = 32) (hs : s.size ≤ 1000) (hodd : P % 2 = 1) (hP : P < 2 ^ w) (hI : I < 2 ^ w) (hO : O < 2 ^ w) (W : World) :
    Calls Tryd.prog 43 #[Sm w P t I O, .string s] W (SPo (ou w t (cr w P t I s s.size) O) 0 W) := by
  have h32 : (2 : Nat) ^ w ≤ 4294967296 := by rcases hw with rfl | rfl | rfl <;> decide
  have R := Lib.hid (right_any w P t I O (by omega) (by omega) (by omega) (by omega))
  rw [decide_eq_true (show good w P I O from ⟨by omega, hodd, by simpa using hP, by simpa using hI, by simpa using hO⟩)] at R
  have ST := Lib.hid (fun r c h1 h2 W => step_any w hw P t I O r c hP h1 h2 W)
  have OU := Lib.hid (fun r h W => out_any w (by omega) P t I O r (by omega) h W)
  have LT := Lib.hid (fun k => cr_lt w P t I s hw hP hI k)
  unfold Sm at R ST OU ⊢
  have h32H := Lib.hid h32
  clear hw h32
  go_enter Tryd.func43, Tryd.ntmps43
  go_wp2_with fail
  refine (R.out _).mono ?_; rintro e w1 ⟨rfl, h1⟩
  have H1 := Lib.hid (((Below.refl W.heap.size W).alloc (Nat.le_refl _) _).trans (h1.mono (by simp)))
  have C1 : Hid (Cs w1 W.heap.size w P t I O) := Lib.hid (Cs.below ⟨by simp, by simp, by simp, by simp, by simp⟩ h1)
  have hc3 := C1.out.2.2.2.1
  clear h1
  go_wp2_with fail
  clear hc3
  go_loopw [6, 16] (fun a i wr => ∃ k r : Nat, k ≤ s.size ∧ i = .int .i64 k ∧ a = .int .u32 r ∧ Hid (r = cr w P t I s k) ∧ Hid (Cs wr W.heap.size w P t I O) ∧ Hid (Below W.heap.size W wr)) (fun _ i _ => s.size - (intOf i).toNat)
  case atStart => exact ⟨0, I, Nat.zero_le _, rfl, rfl, Lib.hid rfl, C1, H1⟩
  case round =>
    obtain ⟨k, r, hk, rfl, rfl, hr, hC, hBH⟩ := hrel
    obtain ⟨d0, d1, d2, d3, d4⟩ := hC.out
    have hrl : Hid (r < 2 ^ w) := Lib.hid (by rw [hr.out]; exact LT.out k)
    by_cases hlt : k < s.size
    · have hb := Lib.hid (byteAt_eq s k hlt)
      have hb3 : s[k].toNat < 256 := UInt8.toNat_lt _
      have i1 : (0 : Int) ≤ (k : Int) := by omega
      have i2 : (k : Int) < (s.size : Int) := by omega
      go_wp2_with fail
      go_region_with ((go_at_call 91; refine (ST.out _ _ hrl.out hb3 _).mono ?_; rintro e w2 ⟨rfl, h2⟩))
      all_goals
        have hC2 := Lib.hid (Cs.below (wr := wr.drew) hC.out h2)
        have hB2 := Lib.hid (hBH.out.drew.trans (h2.mono hBH.out.size))
        clear h2
        go_wp2_with fail
        go_roundw
        case rel => exact ⟨k + 1, _, by omega, by go_num, rfl, Lib.hid (by rw [cr, ← hr.out, ← hb.out]), hC2, hB2⟩
        case measure => simp [intOf]; omega
    · obtain rfl : k = s.size := by omega
      go_wp2_with fail
      refine (OU.out _ (Nat.lt_of_lt_of_le hrl.out h32H.out) _).mono ?_; rintro e w2 ⟨rfl, h2⟩
      have hB2 := Lib.hid (hBH.out.trans (h2.mono hBH.out.size))
      clear h2
      go_wp2_with fail
      go_ret2
      rw [← hr.out]
      exact ⟨_, rfl, .inl ⟨rfl, rfl, rfl⟩, hB2.out⟩
def crcOf (s : ByteArray) : Nat := ou 32 true (cr 32 79764919 true 4294967295 s s.size) 4294967295
set_option maxRecDepth 100000 in
set_option maxHeartbeats 1000000 in
theorem crc_any (s : ByteArray) (hs : s.size ≤ 1000) (W : World) :
    Calls Tryd.prog 46 #[.string s] W fun e w' => e = .returned (.int .u32 (crcOf s : Nat)) ∧ Below W.heap.size W w' := by
  have C := Lib.hid (of_yes 32 79764919 true 4294967295 4294967295 s (by decide) hs (by decide) (by decide) (by decide) (by decide))
  unfold Sm at C
  have E : Hid (ou 32 true (cr 32 79764919 true 4294967295 s s.size) 4294967295 = crcOf s) := Lib.hid rfl
  rw [E.out] at C
  generalize crcOf s = R at *
  go_enter Tryd.func46, Tryd.ntmps46
  go_wp2_with fail
  refine (C.out _).mono ?_; rintro e w1 ⟨x, rfl, _, h1⟩
  have H1 := Lib.hid h1
  clear h1
  go_wp2_with fail
  go_ret
  exact ⟨rfl, H1.out⟩
end Go.Proofs.YtifnochpmlllgaaDoor.Sum
