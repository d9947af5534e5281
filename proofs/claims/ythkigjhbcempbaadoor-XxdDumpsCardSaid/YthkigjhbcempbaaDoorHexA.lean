/-
  PROVED HERE: contracts of digits.Hex and of the document's Hex. Conditions: as each theorem states.
-/
import Derived.Test.YthkigjhbcempbaaDoorDigC
import Derived.Deep.RegionLaw
import Derived.Deep.RegionHeld3
namespace Go.Proofs.YthkigjhbcempbaaDoor.Dig
open Go.RowKit

/-- The figures of the first k bytes. -/
def hexs (s : ByteArray) (k : Nat) : List UInt8 := (List.range k).flatMap fun i => [fig (byteAt s i / 16), fig (byteAt s i % 16)]
theorem hexs_len (s : ByteArray) (k : Nat) : (hexs s k).length = 2 * k := by
  induction k with
  | zero => rfl
  | succ k ih => rw [hexs, List.range_succ, List.flatMap_append, List.length_append]; rw [hexs] at ih; rw [ih]; simp; omega
theorem hexs_succ (s : ByteArray) (k : Nat) : hexs s (k + 1) = hexs s k ++ [fig (byteAt s k / 16), fig (byteAt s k % 16)] := by
  simp [hexs, List.range_succ, List.flatMap_append]
theorem and15_all : ∀ c : Fin 256, bits .and .u8 ((c.val : Nat) : Int) 15 = ((c.val % 16 : Nat) : Int) := by decide +kernel
theorem and15 (c : UInt8) : bits .and .u8 (c.toNat : Int) 15 = ((c.toNat % 16 : Nat) : Int) := and15_all ⟨c.toNat, UInt8.toNat_lt c⟩
theorem fig_at (i : Int) (h : i.toNat < 16) : (⟨#[48, 49, 50, 51, 52, 53, 54, 55, 56, 57, 97, 98, 99, 100, 101, 102]⟩ : ByteArray)[i.toNat]'h = fig i.toNat := fig_index _ h
theorem hex_step (s : ByteArray) (k B E : Nat) (v : Value) (w : World) (c : UInt8) (h1 : ((c.toNat : Int) / 16).toNat < 16) (h2 : ((c.toNat : Int) % 16).toNat < 16) (hc : c.toNat = byteAt s k)
    (h : Own w B E v (u8s (hexs s k) ++ [.int .u8 (((⟨#[48, 49, 50, 51, 52, 53, 54, 55, 56, 57, 97, 98, 99, 100, 101, 102]⟩ : ByteArray)[((c.toNat : Int) / 16).toNat]'h1).toNat : Int), .int .u8 (((⟨#[48, 49, 50, 51, 52, 53, 54, 55, 56, 57, 97, 98, 99, 100, 101, 102]⟩ : ByteArray)[((c.toNat : Int) % 16).toNat]'h2).toNat : Int)])) :
    Own w B E v (u8s (hexs s (k + 1))) := by
  rw [fig_at, fig_at, show ((c.toNat : Int) / 16).toNat = c.toNat / 16 by omega, show ((c.toNat : Int) % 16).toNat = c.toNat % 16 by omega, hc] at h
  rw [hexs_succ]
  simpa [u8s] using h
attribute [local go_sem ↓] Go.wp_at_zero Go.wp_at_succ

set_option maxRecDepth 100000 in
set_option maxHeartbeats 800000 in
theorem hex_any (s : ByteArray) (hs : s.size ≤ 1000) (W : World) :
    Calls Tryd.prog 34 #[.string s] W fun e w' => e = .returned (.string ⟨(hexs s s.size).toArray⟩) ∧ Below W.heap.size W w' := by
  have hmk := fun W => run_make0 (P := Tryd.prog) 67 5 (.int .u8 0) 1 Tryd.underlying67 (by kernel_rfl) rfl .i64 .i64 (2 * (s.size : Int)) (by omega) (by omega) (by omega) W
  go_enter Tryd.func34, Tryd.ntmps34
  go_wp2_with fail
  go_loopw [3, 11] (fun v i wr => ∃ k : Nat, k ≤ s.size ∧ i = .int .i64 k ∧ (∃ a cap, v = .slice a (2 * k) cap) ∧ Hid (Own wr W.heap.size 5 v (u8s (hexs s k))) ∧ Below W.heap.size W wr) (fun _ i _ => s.size - (intOf i).toNat)
  case atStart => exact ⟨0, Nat.zero_le _, rfl, ⟨_, _, rfl⟩, Lib.hid (own_made W _ _ _ _ (Nat.le_refl _) (by omega) (size_madeCells _ _)), (Below.refl _ _).alloc (Nat.le_refl _) _⟩
  case round =>
    obtain ⟨k, hk, rfl, ⟨a, cap, rfl⟩, ho, hB⟩ := hrel
    have hBH := Lib.hid hB
    clear hB
    by_cases hlt : k < s.size
    · have hb := Lib.hid (byteAt_eq s k hlt)
      have hb2 := byteAt_lt s k
      have hb3 : s[k].toNat < 256 := UInt8.toNat_lt _
      have i1 : (0 : Int) ≤ (k : Int) := by omega
      have i2 : (k : Int) < (s.size : Int) := by omega
      have i3 : (0 : Int) ≤ (s[k].toNat : Int) / 16 := by omega
      have i4 : (s[k].toNat : Int) / 16 < 16 := by omega
      have e9 := and15 s[k]
      have i5 : (0 : Int) ≤ (s[k].toNat : Int) % 16 := by omega
      have i6 : (s[k].toNat : Int) % 16 < 16 := by omega
      go_wp2_with fail
      go_region_law ((refine own_append_step (by rfl) _ _ 67 (by rfl) W.heap.size 5 (.int .u8 0) 1 Tryd.underlying67 (by kernel_rfl) rfl _ _ (by rfl) ((ho.out.drew).alloc _) _ 2 _ _ (by rfl) rfl (World.news_of_block (heap_alloc_new _ _)) (by simp [Value.oneCell']) (by rw [u8s_len, hexs_len]; omega) (by rw [u8s_len, hexs_len]; omega) (le_alloc (w := wr.drew) hBH.out.size _) ?_; intro v1 w1 ho1 hg1 hb1 hat1))
      all_goals
        have ho2 := Lib.hid (hex_step s k _ _ _ _ (s[k]) _ _ hb.out ho1)
        clear ho1
        go_wp2_with fail
        go_roundw
        case rel =>
          refine ⟨k + 1, by omega, by go_num, ?_, ho2, below_append hBH.out.drew _ hBH.out.size hb1⟩
          obtain ⟨a', c', e'⟩ := ho2.out.len
          rw [u8s_len, hexs_len] at e'
          exact ⟨a', c', e'⟩
        case measure => simp [intOf]; omega
    · obtain rfl : k = s.size := by omega
      have hstr := own_string (P := Tryd.prog) (T := 67) (S := 9) ho.out Tryd.underlying67 Tryd.underlying5 Tryd.underlying9
      go_wp2_with fail
      go_ret
      exact ⟨ret_string rfl, hBH.out⟩
end Go.Proofs.YthkigjhbcempbaaDoor.Dig
