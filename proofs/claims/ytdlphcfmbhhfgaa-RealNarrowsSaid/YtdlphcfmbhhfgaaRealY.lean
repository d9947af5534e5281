/-
  PROVED HERE: the contract of the document's RealWiden. Conditions: as each theorem states.
-/
import Derived.Test.YtdlphcfmbhhfgaaRows
import Derived.Test.YtdlphcfmbhhfgaaRealD
import Derived.Test.YtdlphcfmbhhfgaaRealI
import Derived.Deep.LoopGhost
import Derived.Deep.RegionWith
import Derived.Deep.RegionHeld3
import Derived.Deep.DeepCutAuto
import Derived.Deep.DrawnRows
import Derived.Test.YtdlphcfmbhhfgaaShelf
namespace Go.Proofs.Ytdlphcfmbhhfgaa.Real
open Go.RowKit

theorem fz_new2 (w : World) (o : Obj) (C : Array Value) (t : TypeId) (i : Nat) : ((w.alloc o).alloc (.cells C t)).frozen? ⟨w.heap.size + 1, i, none⟩ = false := by
  have h := World.frozen?_alloc_mark (w.alloc o) C t 0 0 i
  have e : (w.alloc o).heap.size = w.heap.size + 1 := by simp
  rw [e] at h
  rw [h]; simp
theorem bl_spec : ∀ x : Nat, 0 < x → x < 2 ^ 64 → 1 ≤ Lib.bitLen x ∧ 2 ^ (Lib.bitLen x - 1) ≤ x ∧ x < 2 ^ Lib.bitLen x := by
  intro x
  induction x using Nat.strongRecOn with
  | ind x ih =>
    intro h0 h
    by_cases h1 : x = 1
    · subst h1; decide
    · have hh := Lib.bitLen_half x (by omega) h
      obtain ⟨a, b, c⟩ := ih (x / 2) (by omega) (by omega) (by omega)
      generalize Lib.bitLen (x / 2) = m at *
      obtain ⟨m, rfl⟩ : ∃ k, m = k + 1 := ⟨m - 1, by omega⟩
      rw [hh]
      have e1 : 1 + (m + 1) - 1 = m + 1 := by omega
      have e2 : 1 + (m + 1) = m + 1 + 1 := by omega
      rw [e1, e2, Nat.pow_succ, Nat.pow_succ]
      simp only [Nat.add_sub_cancel] at b
      rw [Nat.pow_succ] at c
      omega
/-- A fraction, j places to the left. -/
def sh (F j : Nat) : Nat := F * 2 ^ j
theorem sh_succ (F j : Nat) : ((sh F (j + 1) : Nat) : Int) = (sh F j : Nat) * 2 := by unfold sh; rw [Nat.pow_succ, ← Nat.mul_assoc]; rfl
/-- How far a Tiny one's fraction is shifted. -/
def far (F : Nat) : Nat := 24 - Lib.bitLen F
theorem far_spec (F : Nat) (h0 : 0 < F) (h : F < 8388608) : far F ≤ 23 ∧ 1 ≤ far F ∧ Lib.bitLen F + far F = 24 ∧ (∀ j, j < far F → sh F j < 8388608) ∧ 8388608 ≤ sh F (far F) ∧ sh F (far F) < 16777216 := by
  obtain ⟨a, b, c⟩ := bl_spec F h0 (by omega)
  have hn : Lib.bitLen F ≤ 23 := by
    rcases Nat.lt_or_ge (Lib.bitLen F) 24 with hh | hh
    · omega
    · have := Nat.pow_le_pow_right (n := 2) (by omega) (show 23 ≤ Lib.bitLen F - 1 by omega)
      have e : (2 : Nat) ^ 23 = 8388608 := by decide
      omega
  unfold far
  refine ⟨by omega, by omega, by omega, fun j hj => ?_, ?_, ?_⟩
  · have h1 : sh F j < 2 ^ Lib.bitLen F * 2 ^ j := Nat.mul_lt_mul_of_pos_right c (Nat.pow_pos (by omega))
    rw [← Nat.pow_add] at h1
    have h2 := Nat.pow_le_pow_right (n := 2) (by omega) (show Lib.bitLen F + j ≤ 23 by omega)
    have e : (2 : Nat) ^ 23 = 8388608 := by decide
    omega
  · have h1 : 2 ^ (Lib.bitLen F - 1) * 2 ^ (24 - Lib.bitLen F) ≤ sh F (24 - Lib.bitLen F) := Nat.mul_le_mul_right _ b
    rw [← Nat.pow_add, show Lib.bitLen F - 1 + (24 - Lib.bitLen F) = 23 by omega] at h1
    have e : (2 : Nat) ^ 23 = 8388608 := by decide
    omega
  · have h1 : sh F (24 - Lib.bitLen F) < 2 ^ Lib.bitLen F * 2 ^ (24 - Lib.bitLen F) := Nat.mul_lt_mul_of_pos_right c (Nat.pow_pos (by omega))
    rw [← Nat.pow_add, show Lib.bitLen F + (24 - Lib.bitLen F) = 24 by omega] at h1
    have e : (2 : Nat) ^ 24 = 16777216 := by decide
    omega
/-- The 64 bits of the parts of a real of 32. -/
def wid (N : Bool) (E F : Int) : Int :=
  if E = 255 then jn 11 52 N 2047 (F * 536870912)
  else if E = 0 then (if F = 0 then jn 11 52 N 0 0 else jn 11 52 N (897 - (far F.toNat : Nat)) ((sh F.toNat (far F.toNat) : Nat) % 8388608 * 536870912))
  else jn 11 52 N (E + 896) (F * 536870912)
attribute [local go_sem ↓] Go.wp_at_zero Go.wp_at_succ

set_option maxRecDepth 100000 in
set_option maxHeartbeats 4000000 in
theorem docWiden_top (b : Int) (h0 : 0 ≤ b) (h1 : b ≤ 4294967295) (W : World) (hE0 : exp32 b = 255) :
    Calls Try.prog 11 #[.int .u32 b] W fun e w' => e = .returned (.int .u64 (wid (neg32 b) (exp32 b) (frac32 b))) ∧ Below W.heap.size W w' := by
  have C := Lib.hid (fun W => docApart_32 b h0 (by omega) W)
  have D := Lib.hid (fun W => docClass_32 b h0 (by omega) W)
  obtain ⟨hf0, hf1⟩ := frac32_bd b
  obtain ⟨he0, he1⟩ := exp32_bd b
  have kb : IntKind.u64.wrap b = b := by rw [IntKind.wrap_u64]; omega
  rw [hE0] at C D ⊢
  clear he0 he1
  generalize frac32 b = F at *
  generalize neg32 b = N at *
  have J := Lib.hid (fun (E' F' : Int) (a1 : 0 ≤ E') (a2 : E' < 2048) (a3 : 0 ≤ F') (a4 : F' < 4503599627370496) (W : World) => docJoin_64 N E' F' a1 a2 a3 a4 W)
  have hw : wid N 255 F = jn 11 52 N 2047 (F * 536870912) := by unfold wid; rw [if_pos rfl]
  rw [hw]
  clear hw hE0
  have hc : cls 255 255 F = 4 ∨ cls 255 255 F = 3 := by unfold cls; rw [if_pos rfl]; split <;> simp
  have km : IntKind.u64.wrap (F * 536870912) = F * 536870912 := by rw [IntKind.wrap_u64]; omega
  rcases hc with hc | hc
  all_goals
    rw [hc] at D
    clear hc
    go_enter Try.func11, Try.ntmps11
    go_wp2_with fail
    refine (C.out _).mono ?_; rintro e w1 ⟨rfl, hb⟩
    have hbH := Lib.hid hb
    clear hb
    go_wp2_with fail
    refine (D.out _).mono ?_; rintro e w2 ⟨rfl, hb⟩
    have r0 : w2.cell? ⟨w1.heap.size, 0, none⟩ = some (.bool N) := (hb.cell (p := ⟨w1.heap.size, 0, none⟩) (by simp)).trans (by simp)
    have r1 : w2.cell? ⟨w1.heap.size, 1, none⟩ = some (.int .i64 255) := (hb.cell (p := ⟨w1.heap.size, 1, none⟩) (by simp)).trans (by simp)
    have r2 : w2.cell? ⟨w1.heap.size, 2, none⟩ = some (.int .u64 F) := (hb.cell (p := ⟨w1.heap.size, 2, none⟩) (by simp)).trans (by simp)
    have hlt : w1.heap.size < w2.heap.size := by have := hb.size; simp at this; omega
    have hbH2 := Lib.hid (hbH.out.trans (((Below.refl _ _).alloc (Nat.le_refl _) _).trans (hb.mono (by simp)) |>.mono hbH.out.size))
    clear hb
    go_wp2_with fail
    obtain ⟨w3, hw3⟩ : ∃ w3, w3 = w2.alloc (.cells #[.bool N, .int .i64 0, .int .u64 0] 27) := ⟨_, rfl⟩
    rw [← hw3]
    have q1 : w3.cell? ⟨w1.heap.size, 1, none⟩ = some (.int .i64 255) := by rw [hw3, World.cell?_alloc_lt _ _ _ hlt]; exact r1
    have q2 : w3.cell? ⟨w1.heap.size, 2, none⟩ = some (.int .u64 F) := by rw [hw3, World.cell?_alloc_lt _ _ _ hlt]; exact r2
    have o0 : w3.cell? ⟨w2.heap.size, 0, none⟩ = some (.bool N) := by rw [hw3]; simp
    have o1 : w3.cell? ⟨w2.heap.size, 1, none⟩ = some (.int .i64 0) := by rw [hw3]; simp
    have o2 : w3.cell? ⟨w2.heap.size, 2, none⟩ = some (.int .u64 0) := by rw [hw3]; simp
    have f1 : w3.frozen? ⟨w2.heap.size, 1, none⟩ = false := by rw [hw3]; simp
    have f2 : w3.frozen? ⟨w2.heap.size, 2, none⟩ = false := by rw [hw3]; simp
    have hbH3 := Lib.hid (show Below W.heap.size W w3 by rw [hw3]; exact hbH2.out.alloc hbH2.out.size _)
    have hsz := Lib.hid (show W.heap.size ≤ w2.heap.size by exact hbH2.out.size)
    clear hw3 r2 r0 r1
    go_region_with (go_at_call 10; refine (pow2_is 29 (by omega) (by omega) 536870912 (by decide) _).mono ?_; rintro e w' ⟨rfl, rfl⟩)
    all_goals go_wp2_with fail
    all_goals (refine (J.out _ _ (by omega) (by omega) (by omega) (by omega) _).mono ?_; rintro e w4 ⟨rfl, hb⟩; have hbH4 := Lib.hid hb; clear hb)
    all_goals go_wp2_with fail
    all_goals go_ret
    all_goals exact ⟨rfl, (Below.drew ((hbH3.out.setCell (p := ⟨w2.heap.size, 1, none⟩) hsz.out _).setCell (p := ⟨w2.heap.size, 2, none⟩) hsz.out _)).trans (hbH4.out.mono (by have := hbH3.out.size; simpa using this))⟩
set_option maxRecDepth 100000 in
set_option maxHeartbeats 4000000 in
theorem docWiden_normal (b : Int) (h0 : 0 ≤ b) (h1 : b ≤ 4294967295) (W : World) (hE1 : 0 < exp32 b) (hE2 : exp32 b ≠ 255) :
    Calls Try.prog 11 #[.int .u32 b] W fun e w' => e = .returned (.int .u64 (wid (neg32 b) (exp32 b) (frac32 b))) ∧ Below W.heap.size W w' := by
  have C := Lib.hid (fun W => docApart_32 b h0 (by omega) W)
  have D := Lib.hid (fun W => docClass_32 b h0 (by omega) W)
  obtain ⟨hf0, hf1⟩ := frac32_bd b
  obtain ⟨he0, he1⟩ := exp32_bd b
  have kb : IntKind.u64.wrap b = b := by rw [IntKind.wrap_u64]; omega
  generalize exp32 b = E at *
  generalize frac32 b = F at *
  generalize neg32 b = N at *
  have J := Lib.hid (fun (E' F' : Int) (a1 : 0 ≤ E') (a2 : E' < 2048) (a3 : 0 ≤ F') (a4 : F' < 4503599627370496) (W : World) => docJoin_64 N E' F' a1 a2 a3 a4 W)
  have hw : wid N E F = jn 11 52 N (E + 896) (F * 536870912) := by unfold wid; rw [if_neg hE2, if_neg (by omega)]
  rw [hw]
  clear hw
  have hc : cls 255 E F = 2 := by unfold cls; rw [if_neg hE2, if_pos hE1]
  have km : IntKind.u64.wrap (F * 536870912) = F * 536870912 := by rw [IntKind.wrap_u64]; omega
  have kn : IntKind.i64.wrap (E + 896) = E + 896 := IntWalk.i64_in _ (by omega)
  rw [hc] at D
  clear hc hE2
  · skip
    go_enter Try.func11, Try.ntmps11
    go_wp2_with fail
    refine (C.out _).mono ?_; rintro e w1 ⟨rfl, hb⟩
    have hbH := Lib.hid hb
    clear hb
    go_wp2_with fail
    refine (D.out _).mono ?_; rintro e w2 ⟨rfl, hb⟩
    have r0 : w2.cell? ⟨w1.heap.size, 0, none⟩ = some (.bool N) := (hb.cell (p := ⟨w1.heap.size, 0, none⟩) (by simp)).trans (by simp)
    have r1 : w2.cell? ⟨w1.heap.size, 1, none⟩ = some (.int .i64 E) := (hb.cell (p := ⟨w1.heap.size, 1, none⟩) (by simp)).trans (by simp)
    have r2 : w2.cell? ⟨w1.heap.size, 2, none⟩ = some (.int .u64 F) := (hb.cell (p := ⟨w1.heap.size, 2, none⟩) (by simp)).trans (by simp)
    have hlt : w1.heap.size < w2.heap.size := by have := hb.size; simp at this; omega
    have hbH2 := Lib.hid (hbH.out.trans (((Below.refl _ _).alloc (Nat.le_refl _) _).trans (hb.mono (by simp)) |>.mono hbH.out.size))
    clear hb
    go_wp2_with fail
    obtain ⟨w3, hw3⟩ : ∃ w3, w3 = w2.alloc (.cells #[.bool N, .int .i64 0, .int .u64 0] 27) := ⟨_, rfl⟩
    rw [← hw3]
    have q1 : w3.cell? ⟨w1.heap.size, 1, none⟩ = some (.int .i64 E) := by rw [hw3, World.cell?_alloc_lt _ _ _ hlt]; exact r1
    have q2 : w3.cell? ⟨w1.heap.size, 2, none⟩ = some (.int .u64 F) := by rw [hw3, World.cell?_alloc_lt _ _ _ hlt]; exact r2
    have o0 : w3.cell? ⟨w2.heap.size, 0, none⟩ = some (.bool N) := by rw [hw3]; simp
    have o1 : w3.cell? ⟨w2.heap.size, 1, none⟩ = some (.int .i64 0) := by rw [hw3]; simp
    have o2 : w3.cell? ⟨w2.heap.size, 2, none⟩ = some (.int .u64 0) := by rw [hw3]; simp
    have f1 : w3.frozen? ⟨w2.heap.size, 1, none⟩ = false := by rw [hw3]; simp
    have f2 : w3.frozen? ⟨w2.heap.size, 2, none⟩ = false := by rw [hw3]; simp
    have hbH3 := Lib.hid (show Below W.heap.size W w3 by rw [hw3]; exact hbH2.out.alloc hbH2.out.size _)
    have hsz := Lib.hid (show W.heap.size ≤ w2.heap.size by exact hbH2.out.size)
    clear hw3 r2 r0 r1
    go_region_with (go_at_call 10; refine (pow2_is 29 (by omega) (by omega) 536870912 (by decide) _).mono ?_; rintro e w' ⟨rfl, rfl⟩)
    all_goals go_wp2_with fail
    all_goals (refine (J.out _ _ (by omega) (by omega) (by omega) (by omega) _).mono ?_; rintro e w4 ⟨rfl, hb⟩; have hbH4 := Lib.hid hb; clear hb)
    all_goals go_wp2_with fail
    all_goals go_ret
    all_goals exact ⟨rfl, (Below.drew ((hbH3.out.setCell (p := ⟨w2.heap.size, 1, none⟩) hsz.out _).setCell (p := ⟨w2.heap.size, 2, none⟩) hsz.out _)).trans (hbH4.out.mono (by have := hbH3.out.size; simpa using this))⟩
set_option maxRecDepth 100000 in
set_option maxHeartbeats 4000000 in
theorem docWiden_zero (b : Int) (h0 : 0 ≤ b) (h1 : b ≤ 4294967295) (W : World) (hE1 : exp32 b = 0) (hF1 : frac32 b = 0) :
    Calls Try.prog 11 #[.int .u32 b] W fun e w' => e = .returned (.int .u64 (wid (neg32 b) (exp32 b) (frac32 b))) ∧ Below W.heap.size W w' := by
  have C := Lib.hid (fun W => docApart_32 b h0 (by omega) W)
  have D := Lib.hid (fun W => docClass_32 b h0 (by omega) W)
  obtain ⟨hf0, hf1⟩ := frac32_bd b
  obtain ⟨he0, he1⟩ := exp32_bd b
  have kb : IntKind.u64.wrap b = b := by rw [IntKind.wrap_u64]; omega
  rw [hE1] at C D ⊢
  rw [hF1] at C D ⊢
  clear he0 he1 hf0 hf1
  generalize neg32 b = N at *
  have J := Lib.hid (fun (E' F' : Int) (a1 : 0 ≤ E') (a2 : E' < 2048) (a3 : 0 ≤ F') (a4 : F' < 4503599627370496) (W : World) => docJoin_64 N E' F' a1 a2 a3 a4 W)
  have hw : wid N 0 0 = jn 11 52 N 0 0 := by unfold wid; rw [if_neg (by omega), if_pos rfl, if_pos rfl]
  rw [hw]
  clear hw
  have hc : cls 255 0 0 = 0 := by decide
  rw [hc] at D
  clear hc
  · skip
    go_enter Try.func11, Try.ntmps11
    go_wp2_with fail
    refine (C.out _).mono ?_; rintro e w1 ⟨rfl, hb⟩
    have hbH := Lib.hid hb
    clear hb
    go_wp2_with fail
    refine (D.out _).mono ?_; rintro e w2 ⟨rfl, hb⟩
    have r0 : w2.cell? ⟨w1.heap.size, 0, none⟩ = some (.bool N) := (hb.cell (p := ⟨w1.heap.size, 0, none⟩) (by simp)).trans (by simp)
    have r1 : w2.cell? ⟨w1.heap.size, 1, none⟩ = some (.int .i64 0) := (hb.cell (p := ⟨w1.heap.size, 1, none⟩) (by simp)).trans (by simp)
    have r2 : w2.cell? ⟨w1.heap.size, 2, none⟩ = some (.int .u64 0) := (hb.cell (p := ⟨w1.heap.size, 2, none⟩) (by simp)).trans (by simp)
    have hlt : w1.heap.size < w2.heap.size := by have := hb.size; simp at this; omega
    have hbH2 := Lib.hid (hbH.out.trans (((Below.refl _ _).alloc (Nat.le_refl _) _).trans (hb.mono (by simp)) |>.mono hbH.out.size))
    clear hb
    go_wp2_with fail
    refine (J.out _ _ (by omega) (by omega) (by omega) (by omega) _).mono ?_; rintro e w4 ⟨rfl, hb⟩
    have hbH4 := Lib.hid hb
    clear hb
    go_wp2_with fail
    go_ret
    exact ⟨rfl, (hbH2.out.alloc hbH2.out.size _).trans (hbH4.out.mono (by have := hbH2.out.size; simp; omega))⟩
set_option maxRecDepth 100000 in
set_option maxHeartbeats 4000000 in
theorem docWiden_tiny (b : Int) (h0 : 0 ≤ b) (h1 : b ≤ 4294967295) (W : World) (hE1 : exp32 b = 0) (hF1 : 0 < frac32 b) :
    Calls Try.prog 11 #[.int .u32 b] W fun e w' => e = .returned (.int .u64 (wid (neg32 b) (exp32 b) (frac32 b))) ∧ Below W.heap.size W w' := by
  have C := Lib.hid (fun W => docApart_32 b h0 (by omega) W)
  have D := Lib.hid (fun W => docClass_32 b h0 (by omega) W)
  obtain ⟨hf0, hf1⟩ := frac32_bd b
  obtain ⟨he0, he1⟩ := exp32_bd b
  have kb : IntKind.u64.wrap b = b := by rw [IntKind.wrap_u64]; omega
  rw [hE1] at C D ⊢
  clear he0 he1
  generalize frac32 b = F at *
  generalize neg32 b = N at *
  have J := Lib.hid (fun (E' F' : Int) (a1 : 0 ≤ E') (a2 : E' < 2048) (a3 : 0 ≤ F') (a4 : F' < 4503599627370496) (W : World) => docJoin_64 N E' F' a1 a2 a3 a4 W)
  obtain ⟨G, rfl⟩ := Int.eq_ofNat_of_zero_le hf0
  obtain ⟨s1, s2, s3, s4, s5, s6⟩ := far_spec G (by omega) (by omega)
  have hw : wid N 0 G = jn 11 52 N (897 - (far G : Nat)) ((sh G (far G) : Nat) % 8388608 * 536870912) := by unfold wid; rw [if_neg (by omega), if_pos rfl, if_neg (by omega)]; simp
  rw [hw]
  clear hw s4
  have hc : cls 255 0 G = 1 := by unfold cls; rw [if_neg (by omega), if_neg (by omega), if_pos hF1]
  rw [hc] at D
  clear hc
  have L := Lib.hid (fun W => Try.bits_Len64 (G : Int) W (by omega) (by omega))
  rw [Int.toNat_natCast] at L
  have m1 : IntKind.u64.wrap ((G : Int) * ((2 ^ far G : Nat) : Int)) = ((sh G (far G) : Nat) : Int) := by
    have e : (G : Int) * ((2 ^ far G : Nat) : Int) = ((sh G (far G) : Nat) : Int) := by unfold sh; rw [Int.natCast_mul]
    rw [e, IntKind.wrap_u64]; omega
  have P := Lib.hid (fun W => pow2_is (far G : Nat) (by omega) (by omega) ((2 ^ far G : Nat) : Int) (by rw [Int.toNat_natCast]) W)
  have m0 : IntKind.i64.wrap (24 - (Lib.bitLen G : Int)) = ((far G : Nat) : Int) := by rw [IntWalk.i64_in _ (by omega)]; omega
  have m3 : IntKind.u64.wrap (((sh G (far G) : Nat) : Int) % 8388608 * 536870912) = ((sh G (far G) : Nat) : Int) % 8388608 * 536870912 := by rw [IntKind.wrap_u64]; omega
  generalize hq : ((2 ^ far G : Nat) : Int) = Q at *
  clear hq
  generalize sh G (far G) = V at *
  generalize far G = s at *
  generalize Lib.bitLen G = n at *
  · skip
    go_enter Try.func11, Try.ntmps11
    go_wp2_with fail
    refine (C.out _).mono ?_; rintro e w1 ⟨rfl, hb⟩
    have hbH := Lib.hid hb
    clear hb
    go_wp2_with fail
    refine (D.out _).mono ?_; rintro e w2 ⟨rfl, hb⟩
    have r0 : w2.cell? ⟨w1.heap.size, 0, none⟩ = some (.bool N) := (hb.cell (p := ⟨w1.heap.size, 0, none⟩) (by simp)).trans (by simp)
    have r1 : w2.cell? ⟨w1.heap.size, 1, none⟩ = some (.int .i64 0) := (hb.cell (p := ⟨w1.heap.size, 1, none⟩) (by simp)).trans (by simp)
    have r2 : w2.cell? ⟨w1.heap.size, 2, none⟩ = some (.int .u64 G) := (hb.cell (p := ⟨w1.heap.size, 2, none⟩) (by simp)).trans (by simp)
    have hlt : w1.heap.size < w2.heap.size := by have := hb.size; simp at this; omega
    have hbH2 := Lib.hid (hbH.out.trans (((Below.refl _ _).alloc (Nat.le_refl _) _).trans (hb.mono (by simp)) |>.mono hbH.out.size))
    clear hb
    go_wp2_with fail
    refine (L.out _).mono ?_; rintro e w' ⟨rfl, rfl⟩
    go_wp2_with fail
    obtain ⟨w3, hw3⟩ : ∃ w3, w3 = w2.alloc (.cells #[.bool N, .int .i64 (896 - (23 - (n : Int))), .int .u64 0] 27) := ⟨_, rfl⟩
    rw [← hw3]
    have q2 : w3.cell? ⟨w1.heap.size, 2, none⟩ = some (.int .u64 G) := by rw [hw3, World.cell?_alloc_lt _ _ _ hlt]; exact r2
    have o0 : w3.cell? ⟨w2.heap.size, 0, none⟩ = some (.bool N) := by rw [hw3]; simp
    have o1 : w3.cell? ⟨w2.heap.size, 1, none⟩ = some (.int .i64 (896 - (23 - (n : Int)))) := by rw [hw3]; simp
    have o2 : w3.cell? ⟨w2.heap.size, 2, none⟩ = some (.int .u64 0) := by rw [hw3]; simp
    have f2 : w3.frozen? ⟨w2.heap.size, 2, none⟩ = false := by rw [hw3]; simp
    have hbH3 := Lib.hid (show Below W.heap.size W w3 by rw [hw3]; exact hbH2.out.alloc hbH2.out.size _)
    have hsz := Lib.hid (show W.heap.size ≤ w2.heap.size by exact hbH2.out.size)
    clear hw3 r2 r0 r1
    refine wp_region_still_tail 11 (by kernel_rfl) (by kernel_rfl) ?_
    simp only [List.take_succ_cons, List.take_zero, List.drop_succ_cons, List.drop_zero]
    repeat still_step
    still_call (P.out _)
    repeat still_step
    still_call (pow2_is 23 (by omega) (by omega) 8388608 (by decide) _)
    repeat still_step
    still_call (pow2_is 29 (by omega) (by omega) 536870912 (by decide) _)
    repeat still_step
    refine wpStill_nil ?_
    go_wp2_with fail
    refine (J.out _ _ (by omega) (by omega) (by omega) (by omega) _).mono ?_; rintro e w4 ⟨rfl, hb⟩
    have hbH4 := Lib.hid hb
    clear hb
    go_wp2_with fail
    go_ret
    exact ⟨ret_int (by congr 1; omega), (Below.drew (hbH3.out.setCell (p := ⟨w2.heap.size, 2, none⟩) hsz.out _)).trans (hbH4.out.mono (by have := hbH3.out.size; simpa using this))⟩
end Go.Proofs.Ytdlphcfmbhhfgaa.Real
