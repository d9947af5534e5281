/-
  PROVED HERE: the contract of the document's Hex. Conditions: as each theorem states.
-/
import Derived.Test.YthkigjhbcempbaaDoorHexA
import Derived.Test.YthkigjhbcempbaaDoorDigP
namespace Go.Proofs.YthkigjhbcempbaaDoor.Dig
open Go.RowKit

theorem two_all : ∀ c : Fin 256, sle c.val 16 (cnt c.val 16 2) = ⟨#[fig (c.val / 16), fig (c.val % 16)]⟩ := by decide +kernel
theorem two_figs (c : Nat) (h : c < 256) : sle c 16 (cnt c 16 2) = ⟨#[fig (c / 16), fig (c % 16)]⟩ := two_all ⟨c, h⟩
def hexT (s : ByteArray) (k : Nat) : ByteArray := ⟨(hexs s k).toArray⟩
theorem hexT_size (s : ByteArray) (k : Nat) : (hexT s k).size = 2 * k := by
  show (hexs s k).toArray.size = 2 * k
  simp [hexs_len]
theorem hexT_succ (s : ByteArray) (k : Nat) : hexT s (k + 1) = hexT s k ++ sle (byteAt s k) 16 (cnt (byteAt s k) 16 2) := by
  rw [two_figs _ (byteAt_lt s k)]
  apply ByteArray.ext
  simp [hexT, hexs_succ, ByteArray.data_append]

set_option maxHeartbeats 400000 in
theorem docHex_any (s : ByteArray) (hs : s.size ≤ 1000) (W : World) :
    Calls Tryd.prog 29 #[.string s] W fun e w' => e = .returned (.string (hexT s s.size)) ∧ Below W.heap.size W w' := by
  go_enter Tryd.func29, Tryd.ntmps29
  go_wp2_with fail
  go_loopw [3, 4] (fun v i wr => ∃ k : Nat, k ≤ s.size ∧ i = .int .i64 k ∧ v = .string (hexT s k) ∧ Below W.heap.size W wr) (fun _ i _ => s.size - (intOf i).toNat)
  case atStart => exact ⟨0, Nat.zero_le _, rfl, rfl, Below.refl _ _⟩
  case round =>
    obtain ⟨k, hk, rfl, rfl, hB⟩ := hrel
    have hBH := Lib.hid hB
    clear hB
    have hz := hexT_size s k
    have hz2 : (hexT s k).size ≤ 2000 := by omega
    clear hz
    by_cases hlt : k < s.size
    · have hb := Lib.hid (byteAt_eq s k hlt)
      have hb3 : s[k].toNat < 256 := UInt8.toNat_lt _
      have HS := Lib.hid (hexT_succ s k)
      have hy : ∀ x b w : Nat, (sle x b w).size = w := sle_size
      have hyH := Lib.hid hy
      clear hy
      go_wp2_with fail
      refine (docPrint_yes s[k].toNat 16 2 (by omega) (by omega) (by omega) _).mono ?_; rintro e w1 ⟨rfl, hb1⟩
      have hW1 := Lib.hid (hBH.out.trans (hb1.mono hBH.out.size))
      clear hb1
      have hz3 : (sle s[k].toNat 16 (cnt s[k].toNat 16 2)).size ≤ 2 := by
        rw [two_figs _ hb3]
        exact Nat.le_refl _
      go_wp2_with fail
      go_roundw
      case rel => exact ⟨k + 1, by omega, by go_num, by rw [HS.out, hb.out], hW1.out⟩
      case measure => simp [intOf]; omega
    · obtain rfl : k = s.size := by omega
      go_wp2_with fail
      go_ret
      exact ⟨rfl, hBH.out⟩
end Go.Proofs.YthkigjhbcempbaaDoor.Dig
