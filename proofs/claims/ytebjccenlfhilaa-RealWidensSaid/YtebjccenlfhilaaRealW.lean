/-
  PROVED HERE: contracts of real.Widen and of the document's RealWiden, and that the law RealWidens returns true. Conditions: as each theorem states.
-/
import Derived.Test.YtebjccenlfhilaaRows
import Derived.Test.YtebjccenlfhilaaRealD
import Derived.Test.YtebjccenlfhilaaRealJ
import Derived.Test.YtebjccenlfhilaaShelf
import Derived.Deep.LoopGhost
namespace Go.Proofs.Ytebjccenlfhilaa.Real
open Go.RowKit

theorem fz_new2 (w : World) (o : Obj) (C : Array Value) (t : TypeId) (i : Nat) : ((w.alloc o).alloc (.cells C t)).frozen? ⟨w.heap.size + 1, i, none⟩ = false := by
  have h := World.frozen?_alloc_mark (w.alloc o) C t 0 0 i
  have e : (w.alloc o).heap.size = w.heap.size + 1 := by simp
  rw [e] at h
  rw [h]; simp
theorem bl_spec : ∀ x : Nat, 0 < x → x < 2 ^ 64 → 1 ≤ Lib.bitLen x ∧ 2 ^ (Lib.bitLen x - 1) ≤ x ∧ x < 2 ^ Lib.bitLen x := by
  intro x
  induction x using Nat.strongRecOn with
  | ind x ih =>
    intro h0 h
    by_cases h1 : x = 1
    · subst h1; decide
    · have hh := Lib.bitLen_half x (by omega) h
      obtain ⟨a, b, c⟩ := ih (x / 2) (by omega) (by omega) (by omega)
      generalize Lib.bitLen (x / 2) = m at *
      obtain ⟨m, rfl⟩ : ∃ k, m = k + 1 := ⟨m - 1, by omega⟩
      rw [hh]
      have e1 : 1 + (m + 1) - 1 = m + 1 := by omega
      have e2 : 1 + (m + 1) = m + 1 + 1 := by omega
      rw [e1, e2, Nat.pow_succ, Nat.pow_succ]
      simp only [Nat.add_sub_cancel] at b
      rw [Nat.pow_succ] at c
      omega
/-- A fraction, j places to the left. -/
def sh (F j : Nat) : Nat := F * 2 ^ j
theorem sh_succ (F j : Nat) : ((sh F (j + 1) : Nat) : Int) = (sh F j : Nat) * 2 := by unfold sh; rw [Nat.pow_succ, ← Nat.mul_assoc]; rfl
/-- How far a Tiny one's fraction is shifted. -/
def far (F : Nat) : Nat := 24 - Lib.bitLen F
theorem far_spec (F : Nat) (h0 : 0 < F) (h : F < 8388608) : far F ≤ 23 ∧ 1 ≤ far F ∧ Lib.bitLen F + far F = 24 ∧ (∀ j, j < far F → sh F j < 8388608) ∧ 8388608 ≤ sh F (far F) ∧ sh F (far F) < 16777216 := by
  obtain ⟨a, b, c⟩ := bl_spec F h0 (by omega)
  have hn : Lib.bitLen F ≤ 23 := by
    rcases Nat.lt_or_ge (Lib.bitLen F) 24 with hh | hh
    · omega
    · have := Nat.pow_le_pow_right (n := 2) (by omega) (show 23 ≤ Lib.bitLen F - 1 by omega)
      have e : (2 : Nat) ^ 23 = 8388608 := by decide
      omega
  unfold far
  refine ⟨by omega, by omega, by omega, fun j hj => ?_, ?_, ?_⟩
  · have h1 : sh F j < 2 ^ Lib.bitLen F * 2 ^ j := Nat.mul_lt_mul_of_pos_right c (Nat.pow_pos (by omega))
    rw [← Nat.pow_add] at h1
    have h2 := Nat.pow_le_pow_right (n := 2) (by omega) (show Lib.bitLen F + j ≤ 23 by omega)
    have e : (2 : Nat) ^ 23 = 8388608 := by decide
    omega
  · have h1 : 2 ^ (Lib.bitLen F - 1) * 2 ^ (24 - Lib.bitLen F) ≤ sh F (24 - Lib.bitLen F) := Nat.mul_le_mul_right _ b
    rw [← Nat.pow_add, show Lib.bitLen F - 1 + (24 - Lib.bitLen F) = 23 by omega] at h1
    have e : (2 : Nat) ^ 23 = 8388608 := by decide
    omega
  · have h1 : sh F (24 - Lib.bitLen F) < 2 ^ Lib.bitLen F * 2 ^ (24 - Lib.bitLen F) := Nat.mul_lt_mul_of_pos_right c (Nat.pow_pos (by omega))
    rw [← Nat.pow_add, show Lib.bitLen F + (24 - Lib.bitLen F) = 24 by omega] at h1
    have e : (2 : Nat) ^ 24 = 16777216 := by decide
    omega
/-- The 64 bits of the parts of a real of 32. -/
def wid (N : Bool) (E F : Int) : Int :=
  if E = 255 then jn 11 52 N 2047 (F * 536870912)
  else if E = 0 then (if F = 0 then jn 11 52 N 0 0 else jn 11 52 N (897 - (far F.toNat : Nat)) ((sh F.toNat (far F.toNat) : Nat) % 8388608 * 536870912))
  else jn 11 52 N (E + 896) (F * 536870912)

set_option maxRecDepth 100000 in
set_option maxHeartbeats 1000000 in
theorem widen_plain (b : Int) (h0 : 0 ≤ b) (h1 : b ≤ 4294967295) (W : World) (hE0 : ¬ (exp32 b = 0 ∧ 0 < frac32 b)) :
    Calls Try.prog 23 #[.int .u32 b] W fun e w' => e = .returned (.int .u64 (wid (neg32 b) (exp32 b) (frac32 b))) ∧ Below W.heap.size W w' := by
  have C := Lib.hid (apart_32 b h0 (by omega) W)
  obtain ⟨he0, he1⟩ := exp32_bd b
  obtain ⟨hf0, hf1⟩ := frac32_bd b
  have kb : IntKind.u64.wrap b = b := by rw [IntKind.wrap_u64]; omega
  generalize exp32 b = E at *
  generalize frac32 b = F at *
  generalize neg32 b = N at *
  have J := Lib.hid (fun (E' F' : Int) (a1 : 0 ≤ E') (a2 : E' < 2048) (a3 : 0 ≤ F') (a4 : F' < 4503599627370496) (W : World) => join_64 N E' F' a1 a2 a3 a4 W)
  by_cases hE : E = 255
  · subst hE
    have hw : wid N 255 F = jn 11 52 N 2047 (F * 536870912) := by unfold wid; rw [if_pos rfl]
    rw [hw]
    clear hw hE0
    go_enter Try.func23, Try.ntmps23
    go_wp2_with fail
    refine C.out.mono ?_; rintro e w1 ⟨rfl, hb⟩
    have hbH := Lib.hid hb
    clear hb
    go_wp2_with fail
    refine (J.out _ _ (by omega) (by omega) (by omega) (by omega) _).mono ?_; rintro e w2 ⟨rfl, hb⟩
    have hbH2 := Lib.hid hb
    clear hb
    go_wp2_with fail
    go_ret
    have hs := hbH.out.size
    exact ⟨rfl, ((hbH.out.alloc hs _).alloc (by simp; omega) _).trans (hbH2.out.mono (by simp; omega))⟩
  by_cases hE1 : E = 0
  · subst hE1
    obtain rfl : F = 0 := by omega
    have hw : wid N 0 0 = jn 11 52 N 0 0 := by unfold wid; rw [if_neg (by omega), if_pos rfl, if_pos rfl]
    rw [hw]
    clear hw hE0 hE
    go_enter Try.func23, Try.ntmps23
    go_wp2_with fail
    refine C.out.mono ?_; rintro e w1 ⟨rfl, hb⟩
    have hbH := Lib.hid hb
    clear hb
    go_wp2_with fail
    refine (J.out _ _ (by omega) (by omega) (by omega) (by omega) _).mono ?_; rintro e w2 ⟨rfl, hb⟩
    have hbH2 := Lib.hid hb
    clear hb
    go_wp2_with fail
    go_ret
    have hs := hbH.out.size
    exact ⟨rfl, ((hbH.out.alloc hs _).alloc (by simp; omega) _).trans (hbH2.out.mono (by simp; omega))⟩
  · have hw : wid N E F = jn 11 52 N (E + 896) (F * 536870912) := by unfold wid; rw [if_neg hE, if_neg hE1]
    rw [hw]
    have d1 : (E == 255) = false := by rw [beq_eq_false_iff_ne]; exact hE
    have d2 : (E == 0) = false := by rw [beq_eq_false_iff_ne]; exact hE1
    clear hw hE0 hE hE1
    go_enter Try.func23, Try.ntmps23
    go_wp2_with fail
    refine C.out.mono ?_; rintro e w1 ⟨rfl, hb⟩
    have hbH := Lib.hid hb
    clear hb
    go_wp2_with fail
    refine (J.out _ _ (by omega) (by omega) (by omega) (by omega) _).mono ?_; rintro e w2 ⟨rfl, hb⟩
    have hbH2 := Lib.hid hb
    clear hb
    go_wp2_with fail
    go_ret
    have hs := hbH.out.size
    exact ⟨ret_int (by congr 1; omega), ((hbH.out.alloc hs _).alloc (by simp; omega) _).trans (hbH2.out.mono (by simp; omega))⟩

set_option maxRecDepth 100000 in
set_option maxHeartbeats 1000000 in
theorem widen_tiny (b : Int) (h0 : 0 ≤ b) (h1 : b ≤ 4294967295) (W : World) (hE : exp32 b = 0) (hF : 0 < frac32 b) :
    Calls Try.prog 23 #[.int .u32 b] W fun e w' => e = .returned (.int .u64 (wid (neg32 b) (exp32 b) (frac32 b))) ∧ Below W.heap.size W w' := by
  have C := Lib.hid (apart_32 b h0 (by omega) W)
  obtain ⟨hf0, hf1⟩ := frac32_bd b
  have kb : IntKind.u64.wrap b = b := by rw [IntKind.wrap_u64]; omega
  rw [hE] at C ⊢
  generalize frac32 b = F at *
  generalize neg32 b = N at *
  obtain ⟨F, rfl⟩ := Int.eq_ofNat_of_zero_le hf0
  have hF1 : 0 < F := by omega
  have J := Lib.hid (fun (E' F' : Int) (a1 : 0 ≤ E') (a2 : E' < 2048) (a3 : 0 ≤ F') (a4 : F' < 4503599627370496) (W : World) => join_64 N E' F' a1 a2 a3 a4 W)
  have hw : wid N 0 F = jn 11 52 N (897 - (far F : Nat)) ((sh F (far F) : Nat) % 8388608 * 536870912) := by unfold wid; rw [if_neg (by omega), if_pos rfl, if_neg (by omega)]; simp
  rw [hw]
  obtain ⟨s1, s2, s3, s4, s5, s6⟩ := far_spec F hF1 (by omega)
  have S4 := Lib.hid s4
  have d0 : ((F : Int) == 0) = false := by rw [beq_eq_false_iff_ne]; omega
  have K := Lib.hid (sh_succ F)
  have hsh0 : sh F 0 = F := by simp [sh]
  clear hw hE s3 s4
  generalize far F = s at *
  go_enter Try.func23, Try.ntmps23
  go_wp2_with fail
  refine C.out.mono ?_; rintro e w1 ⟨rfl, hb⟩
  have hbH := Lib.hid hb
  clear hb
  go_wp2_with fail
  go_loopg [] s (fun k wr => ∃ j, j + k = s ∧ Below W.heap.size W wr ∧ w1.heap.size + 1 < wr.heap.size ∧ wr.cell? ⟨w1.heap.size, 2, none⟩ = some (.int .u64 (sh F j : Nat)) ∧ wr.frozen? ⟨w1.heap.size, 2, none⟩ = false ∧ wr.cell? ⟨w1.heap.size + 1, 0, none⟩ = some (.bool N) ∧ wr.cell? ⟨w1.heap.size + 1, 1, none⟩ = some (.int .i64 (897 - (j : Int))) ∧ wr.frozen? ⟨w1.heap.size + 1, 1, none⟩ = false ∧ (∃ v, wr.cell? ⟨w1.heap.size + 1, 2, none⟩ = some v) ∧ wr.frozen? ⟨w1.heap.size + 1, 2, none⟩ = false)
  case atStart =>
    have hs := hbH.out.size
    refine ⟨0, by omega, ?_, ?_, ?_, ?_, ?_, ?_, ?_, ?_, ?_⟩
    · exact (hbH.out.alloc hs _).alloc (by simp; omega) _
    · simp
    · rw [World.cell?_alloc_lt _ _ _ (by simp), hsh0]; simp
    · rw [World.frozen?_alloc_old _ _ _ (by simp)]; simp
    · rw [World.cell?_alloc_at _ _ _ _ (by simp)]; rfl
    · rw [World.cell?_alloc_at _ _ _ _ (by simp)]; rfl
    · exact fz_new2 _ _ _ _ _
    · exact ⟨_, by rw [World.cell?_alloc_at _ _ _ _ (by simp)]; rfl⟩
    · exact fz_new2 _ _ _ _ _
  case round =>
    obtain ⟨j, hj, hB, hsz, c2, f2, c0, c1, f1, ⟨v, c3⟩, f3⟩ := hrel
    have hB := Lib.hid hB
    have hw1 := hbH.out.size
    by_cases hlt : j < s
    · have hv := S4.out j hlt
      have hK := Lib.hid (K.out j)
      have hv0 : ((sh F j : Nat) : Int) / 8388608 = 0 := by omega
      go_wp2_with fail
      go_roundg (gk - 1)
      case measure => omega
      case rel =>
        refine ⟨j + 1, by omega, (hB.out.setCell (p := ⟨w1.heap.size, 2, none⟩) hw1 _).setCell (p := ⟨w1.heap.size + 1, 1, none⟩) (by simp; omega) _, by simp; omega, ?_, ?_, ?_, ?_, ?_, ?_, ?_⟩
        · rw [World.cell?_setCell_other _ _ _ _ (by simp), World.cell?_setCell_same _ _ _ c2, hK.out]
        · rw [frozen?_setCell, frozen?_setCell]; exact f2
        · rw [World.cell?_setCell_other _ _ _ _ (by simp), World.cell?_setCell_other _ _ _ _ (by simp)]; exact c0
        · rw [World.cell?_setCell_same _ _ _ (u := .int .i64 (897 - (j : Int))) (by rw [World.cell?_setCell_other _ _ _ _ (by simp)]; exact c1)]
          congr 2; omega
        · rw [frozen?_setCell, frozen?_setCell]; exact f1
        · exact ⟨v, by rw [World.cell?_setCell_other _ _ _ _ (by simp), World.cell?_setCell_other _ _ _ _ (by simp)]; exact c3⟩
        · rw [frozen?_setCell, frozen?_setCell]; exact f3
    · obtain rfl : j = s := by omega
      have kA : bits .and .u64 ((sh F j : Nat) : Int) 8388607 = ((sh F j : Nat) : Int) % 8388608 := and_mask _ 23 (by omega) (by omega) (by omega)
      have hv0 : ¬ ((sh F j : Nat) : Int) / 8388608 = 0 := by omega
      have hv1 : (((sh F j : Nat) : Int) / 8388608 == 0) = false := by rw [beq_eq_false_iff_ne]; exact hv0
      go_wp2_with fail
      refine (J.out _ _ (by omega) (by omega) (by omega) (by omega) _).mono ?_; rintro e w2 ⟨rfl, hb⟩
      have hbH2 := Lib.hid hb
      clear hb
      go_wp2_with fail
      go_ret
      exact ⟨rfl, (hB.out.setCell (p := ⟨w1.heap.size + 1, 2, none⟩) (by simp; omega) _).trans (hbH2.out.mono (by have := hB.out.size; simp; omega))⟩
end Go.Proofs.Ytebjccenlfhilaa.Real
