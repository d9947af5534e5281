/-
  PROVED HERE: the contracts of the laws' own sameInts and sameTexts at lists that are the same, however long. Conditions: as each theorem states.
-/
import Derived.Test.YtehmnohkfchljaaDoorExC
namespace Go.Proofs.YtehmnohkfchljaaDoor.Ex
open Go.RowKit
theorem own_small {w : World} {B E : Nat} {v : Value} {xs : List Value} (h : Own w B E v xs) : xs.length ≤ 9223372036854775807 := by
  rcases h.2 with ⟨_, h0⟩ | ⟨g, cap, cur, _, _, _, h4, h5, _⟩
  · omega
  · unfold maxLen at h5; omega
/-- The slice v shows the texts l. -/
def Txts (w : World) (v : Value) (l : List ByteArray) : Prop :=
  ∃ a cap, v = .slice a l.length cap ∧ ∀ j (h : j < l.length), ∃ ad, a = some ad ∧ w.cell? (ad.add j) = some (.string l[j])
theorem own_txts {w : World} {B E : Nat} {v : Value} {l : List ByteArray} (h : Own w B E v (strs l)) : Txts w v l := by
  rcases h.form with ⟨rfl, h0⟩ | ⟨g, cap, rfl, _, _, hc, _⟩
  · have hl : l = [] := by cases l with
      | nil => rfl
      | cons _ _ => simp [strs] at h0
    subst hl
    exact ⟨none, 0, rfl, fun j hj => absurd hj (Nat.not_lt_zero j)⟩
  · refine ⟨_, cap, by rw [strs_len], fun j hj => ⟨_, rfl, ?_⟩⟩
    rw [Addr.add_mid, Nat.zero_add, hc j (by rw [strs_len]; exact hj)]
    simp only [strs, List.getElem_map]
set_option maxRecDepth 100000 in
set_option maxHeartbeats 800000 in
theorem sameInts_own (a b : Value) (l : List Int) (W : World) {A B : Nat} (ha : Own W A 3 a (i64s l)) (hb : Own W B 3 b (i64s l)) :
    Calls Tryd.prog 7 #[a, b] W fun e w' => e = .returned (.bool true) ∧ Below W.heap.size W w' := by
  have hl := own_small ha
  rw [i64s_len] at hl
  obtain ⟨x, cx, rfl, hx⟩ := ha.ints
  obtain ⟨y, cy, rfl, hy⟩ := hb.ints
  have HX := Lib.hid hx
  have HY := Lib.hid hy
  clear hx hy ha hb
  go_enter Tryd.func7, Tryd.ntmps7
  go_wp2_with fail
  go_loopw [5] (fun i wr => ∃ k : Nat, k ≤ l.length ∧ i = .int .i64 k ∧ Below W.heap.size W wr) (fun i _ => l.length - (intOf i).toNat)
  case atStart => exact ⟨0, Nat.zero_le _, rfl, Below.refl _ _⟩
  case round =>
    obtain ⟨k, hk, rfl, hB⟩ := hrel
    have hBH := Lib.hid hB
    clear hB
    by_cases hlt : k < l.length
    · obtain ⟨ax, rfl, cx0⟩ := HX.out k hlt
      obtain ⟨ay, rfl, cy0⟩ := HY.out k hlt
      have c1 := (hBH.out.cell (p := ax.add k) (World.block_lt_of_cell? W _ cx0)).trans cx0
      have c2 := (hBH.out.cell (p := ay.add k) (World.block_lt_of_cell? W _ cy0)).trans cy0
      have i1 : (0 : Int) ≤ (k : Int) := by omega
      have i2 : (k : Int) < (l.length : Int) := by omega
      clear cx0 cy0
      generalize l[k] = z at *
      have hne : (z != z) = false := by simp
      go_wp2_with fail
      go_quiet (fail)
      go_wp2_with fail
      go_roundw
      case rel => exact ⟨k + 1, by omega, by go_num, below_drewN hBH.out _⟩
      case measure => simp [intOf]; omega
    · go_wp2_with fail
      go_ret
      exact ⟨rfl, hBH.out⟩
set_option maxRecDepth 100000 in
set_option maxHeartbeats 800000 in
theorem sameTexts_own (a b : Value) (l : List ByteArray) (W : World) {A B : Nat} (ha : Own W A 9 a (strs l)) (hb : Own W B 9 b (strs l)) :
    Calls Tryd.prog 8 #[a, b] W fun e w' => e = .returned (.bool true) ∧ Below W.heap.size W w' := by
  have hl := own_small ha
  rw [strs_len] at hl
  obtain ⟨x, cx, rfl, hx⟩ := own_txts ha
  obtain ⟨y, cy, rfl, hy⟩ := own_txts hb
  have HX := Lib.hid hx
  have HY := Lib.hid hy
  clear hx hy ha hb
  go_enter Tryd.func8, Tryd.ntmps8
  go_wp2_with fail
  go_loopw [5] (fun i wr => ∃ k : Nat, k ≤ l.length ∧ i = .int .i64 k ∧ Below W.heap.size W wr) (fun i _ => l.length - (intOf i).toNat)
  case atStart => exact ⟨0, Nat.zero_le _, rfl, Below.refl _ _⟩
  case round =>
    obtain ⟨k, hk, rfl, hB⟩ := hrel
    have hBH := Lib.hid hB
    clear hB
    by_cases hlt : k < l.length
    · obtain ⟨ax, rfl, cx0⟩ := HX.out k hlt
      obtain ⟨ay, rfl, cy0⟩ := HY.out k hlt
      have c1 := (hBH.out.cell (p := ax.add k) (World.block_lt_of_cell? W _ cx0)).trans cx0
      have c2 := (hBH.out.cell (p := ay.add k) (World.block_lt_of_cell? W _ cy0)).trans cy0
      have i1 : (0 : Int) ≤ (k : Int) := by omega
      have i2 : (k : Int) < (l.length : Int) := by omega
      clear cx0 cy0
      generalize l[k] = z at *
      have hne : (z.toList != z.toList) = false := by simp
      have hne2 : (z.toList == z.toList) = true := by simp
      go_wp2_with fail
      go_quiet (fail)
      go_wp2_with fail
      go_roundw
      case rel => exact ⟨k + 1, by omega, by go_num, below_drewN hBH.out _⟩
      case measure => simp [intOf]; omega
    · go_wp2_with fail
      go_ret
      exact ⟨rfl, hBH.out⟩
end Go.Proofs.YtehmnohkfchljaaDoor.Ex
