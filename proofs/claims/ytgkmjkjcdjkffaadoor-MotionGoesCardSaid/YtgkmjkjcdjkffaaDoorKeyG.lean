/-
  PROVED HERE: the contract of the document's mayCmd. Conditions: as each theorem states.
-/
import Derived.Test.YtgkmjkjcdjkffaaDoorKeyF
namespace Go.Proofs.YtgkmjkjcdjkffaaDoor.Key
open Go.RowKit
def may (l : List UInt8) : Bool := ends.any (fun e => (fc (l ++ e)).2)
def ed (j : Nat) : ByteArray := ⟨(ends.getD j []).toArray⟩
theorem lst_app (a b : ByteArray) : lst (a ++ b) = lst a ++ lst b := by unfold lst; rw [ByteArray.data_append, Array.toList_append]
theorem lst_ed (j : Nat) : lst (ed j) = ends.getD j [] := rfl
theorem ed_size (j : Nat) (h : j < 5) : (ed j).size ≤ 2 := by
  rcases (show j = 0 ∨ j = 1 ∨ j = 2 ∨ j = 3 ∨ j = 4 by omega) with rfl | rfl | rfl | rfl | rfl <;> decide
theorem may_yes (s : ByteArray) (j : Nat) (h : j < 5) (hb : (fc (lst (s ++ ed j))).2 = true) : may (lst s) = true := by
  unfold may
  rw [List.any_eq_true]
  refine ⟨ends.getD j [], ?_, by rw [← lst_ed, ← lst_app]; exact hb⟩
  rcases (show j = 0 ∨ j = 1 ∨ j = 2 ∨ j = 3 ∨ j = 4 by omega) with rfl | rfl | rfl | rfl | rfl <;> decide
theorem may_no (s : ByteArray) (h : ∀ j, j < 5 → (fc (lst (s ++ ed j))).2 = false) : may (lst s) = false := by
  rcases hm : may (lst s) with _ | _
  · rfl
  · unfold may at hm
    rw [List.any_eq_true] at hm
    obtain ⟨e, he, hb⟩ := hm
    have : ∃ j, j < 5 ∧ e = ends.getD j [] := by
      unfold ends at he
      simp only [List.mem_cons, List.not_mem_nil, or_false] at he
      rcases he with rfl | rfl | rfl | rfl | rfl
      · exact ⟨0, by decide, rfl⟩
      · exact ⟨1, by decide, rfl⟩
      · exact ⟨2, by decide, rfl⟩
      · exact ⟨3, by decide, rfl⟩
      · exact ⟨4, by decide, rfl⟩
    obtain ⟨j, hj, rfl⟩ := this
    have h2 := h j hj
    rw [lst_app, lst_ed, hb] at h2
    cases h2
def MyR (s : ByteArray) (W : World) (i : Value) (wr : World) : Prop :=
  ∃ k : Nat, k ≤ 5 ∧ i = .int .i64 k ∧ Hid (∀ j, j < k → (fc (lst (s ++ ed j))).2 = false) ∧ Hid (∀ j, j < 5 → wr.cell? ⟨W.heap.size, j, none⟩ = some (.string (ed j))) ∧ Hid (Below W.heap.size W wr)
set_option maxRecDepth 100000 in
set_option maxHeartbeats 1000000 in
theorem mayCmd_any (s : ByteArray) (hs : s.size ≤ 900) (W : World) : Calls Tryd.prog 12 #[.string s] W fun e w' => e = .returned (.bool (may (lst s))) ∧ Below W.heap.size W w' := by
  go_enter Tryd.func12, Tryd.ntmps12
  go_wp2_with fail
  go_loopw [9] (fun i wr => MyR s W i wr) (fun i _ => 5 - (intOf i).toNat)
  case atStart =>
    refine ⟨0, Nat.zero_le _, rfl, Lib.hid (fun j hj => absurd hj (Nat.not_lt_zero j)), Lib.hid (fun j hj => ?_), Lib.hid ((Below.refl _ _).alloc (Nat.le_refl _) _)⟩
    rw [World.cell?_alloc_new]
    rcases (show j = 0 ∨ j = 1 ∨ j = 2 ∨ j = 3 ∨ j = 4 by omega) with rfl | rfl | rfl | rfl | rfl <;> rfl
  case round =>
    obtain ⟨k, hk, rfl, hno, hC, hB⟩ := hrel
    by_cases hlt : k < 5
    · have hc := hC.out k hlt
      have hz := ed_size k hlt
      have F := Lib.hid (fullCmd_any (s ++ ed k) (by rw [ByteArray.size_append]; omega))
      have YES := Lib.hid (may_yes s k hlt)
      have NO : Hid ((fc (lst (s ++ ed k))).2 = false → ∀ j, j < k + 1 → (fc (lst (s ++ ed j))).2 = false) := Lib.hid (fun h j hj => by
        rcases Nat.lt_succ_iff_lt_or_eq.1 hj with h1 | rfl
        · exact hno.out j h1
        · exact h)
      have l1 : ¬ 9223372036854775807 < s.size + (ed k).size := by omega
      unfold FP at F
      generalize (fc (lst (s ++ ed k))).1 = c at *
      generalize (fc (lst (s ++ ed k))).2 = b at *
      generalize ed k = t at *
      obtain ⟨c0, c1, c2, c3, c4⟩ := c
      unfold Cv at F
      simp only at F
      clear hno
      go_wp2_with fail
      refine (F.out _).mono ?_; rintro e w1 ⟨rfl, g⟩
      have hB1 := Lib.hid (hB.out.trans (g.mono hB.out.size))
      have hC1 : Hid (∀ j, j < 5 → w1.cell? ⟨W.heap.size, j, none⟩ = some (.string (ed j))) := Lib.hid (fun j hj => keepCell g (hC.out j hj))
      clear g hC hc
      rcases b with _ | _
      · have hN := Lib.hid (NO.out rfl)
        have hC2 : ∀ o, Hid (∀ j, j < 5 → (w1.alloc o).cell? ⟨W.heap.size, j, none⟩ = some (.string (ed j))) := fun o => Lib.hid (fun j hj => keepCell ((Below.refl _ _).alloc (Nat.le_refl _) o) (hC1.out j hj))
        clear YES NO F
        go_wp2_with fail
        go_roundw
        case rel => first | exact ⟨k + 1, by omega, by go_num, hN, hC2 _, Lib.hid (hB1.out.alloc hB1.out.size _)⟩ | ((repeat apply Exists.intro); exact ⟨⟨k + 1, by omega, by go_num, hN, hC2 _, Lib.hid (hB1.out.alloc hB1.out.size _)⟩, rfl⟩)
        case measure => simp [intOf]; omega
      · have hY := Lib.hid (YES.out rfl)
        clear YES NO F
        go_wp2_with fail
        go_ret
        rw [hY.out]
        exact ⟨rfl, hB1.out.alloc hB1.out.size _⟩
    · obtain rfl : k = 5 := by omega
      have hN := Lib.hid (may_no s hno.out)
      go_wp2_with fail
      go_ret
      rw [hN.out]
      exact ⟨rfl, hB.out⟩
end Go.Proofs.YtgkmjkjcdjkffaaDoor.Key
