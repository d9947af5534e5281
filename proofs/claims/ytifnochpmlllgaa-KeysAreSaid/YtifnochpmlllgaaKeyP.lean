/-
  PROVED HERE: the contracts of keys' reader. Conditions: as each theorem states.
-/
import Derived.Test.YtifnochpmlllgaaKeyE
namespace Go.Proofs.Ytifnochpmlllgaa.Key
open Go.RowKit
theorem set_set (w : World) (g o : Nat) (v v' : Value) : (w.setCell ⟨g, o, none⟩ v).setCell ⟨g, o, none⟩ v' = w.setCell ⟨g, o, none⟩ v' := by
  unfold World.setCell
  congr 1
  apply Array.ext_getElem?
  intro i
  simp only [Array.getElem?_modify]
  split
  · cases w.heap[i]? with
    | none => rfl
    | some o =>
      cases o <;> simp
  · rfl
theorem set_same (w : World) (g o : Nat) (v : Value) (h : w.cell? ⟨g, o, none⟩ = some v) : w.setCell ⟨g, o, none⟩ v = w := by
  obtain ⟨heap, tape, drawn, os, output⟩ := w
  unfold World.setCell
  simp only [World.mk.injEq, and_true]
  apply Array.ext_getElem?
  intro i
  simp only [Array.getElem?_modify]
  split
  · rename_i hi
    subst hi
    unfold World.cell? at h
    simp only at h
    cases hw : heap[g]? with
    | none => rfl
    | some ob =>
      rw [hw] at h
      cases ob with
      | cells c T fr =>
        simp at h
        simp only [Option.map_some, Option.isSome_none, Bool.false_eq_true, if_false]
        congr 2
        apply Array.ext_getElem?
        intro j
        rw [Array.getElem?_setIfInBounds]
        split
        · rename_i hj
          subst hj
          split
          · exact h.symm
          · rename_i hs
            rw [Array.getElem?_eq_none (by omega)] at h
            cases h
        · rfl
      | _ => rfl
  · rfl
theorem next_none (g : Nat) (u : ByteArray) (w : World) (hc : w.cell? ⟨g, 0, none⟩ = some (.string u)) (h : u.size = 0) : Calls Try.prog 12 #[.pointer (some ⟨g, 0, none⟩)] w fun e w' => e = .returned (.tuple #[.int .u8 0, .bool false]) ∧ w = w' := by
  have hz := str_none u h
  clear h
  go_enter Try.func12, Try.ntmps12
  go_wp2_with fail
  go_ret2
  exact ⟨rfl, rfl⟩
theorem next_some (g : Nat) (u : ByteArray) (w : World) (hc : w.cell? ⟨g, 0, none⟩ = some (.string u)) (hf : w.frozen? ⟨g, 0, none⟩ = false) (h : 0 < u.size) : Calls Try.prog 12 #[.pointer (some ⟨g, 0, none⟩)] w fun e w' => e = .returned (.tuple #[.int .u8 u[0].toNat, .bool true]) ∧ w' = w.setCell ⟨g, 0, none⟩ (.string (u.extract 1 u.size)) := by
  have hz := str_full u h
  go_enter Try.func12, Try.ntmps12
  go_wp2_with fail
  go_ret2
  exact ⟨rfl, rfl⟩
def CP (g : Nat) (u : ByteArray) (w : World) (e : Ending) (w' : World) : Prop := ∃ t : ByteArray, lst t = (ct 0 (lst u)).2 ∧ t.size ≤ u.size ∧ e = .returned (.int .i64 (ct 0 (lst u)).1) ∧ w' = w.setCell ⟨g, 0, none⟩ (.string t)
def CR (g : Nat) (u : ByteArray) (w : World) (n : Value) (wr : World) : Prop :=
  ∃ t : ByteArray, ∃ m : Nat, n = .int .i64 m ∧ wr = w.setCell ⟨g, 0, none⟩ (.string t) ∧ t.size ≤ u.size ∧ m ≤ 9999 ∧ Hid (ct m (lst t) = ct 0 (lst u))
def sizeAt (w : World) (g : Nat) : Nat := match w.cell? ⟨g, 0, none⟩ with | some (.string u) => u.size | _ => 0
set_option maxRecDepth 100000 in
set_option maxHeartbeats 1000000 in
theorem count_any (g : Nat) (u : ByteArray) (_hu : u.size ≤ 1000) (w : World) (hc : w.cell? ⟨g, 0, none⟩ = some (.string u)) (hf : w.frozen? ⟨g, 0, none⟩ = false) : Calls Try.prog 13 #[.pointer (some ⟨g, 0, none⟩)] w (CP g u w) := by
  have hS : Hid (∀ t, (w.setCell ⟨g, 0, none⟩ (.string t)).cell? ⟨g, 0, none⟩ = some (.string t)) := Lib.hid (fun t => World.cell?_setCell_same _ _ _ hc)
  have hF : Hid (∀ t, (w.setCell ⟨g, 0, none⟩ (.string t)).frozen? ⟨g, 0, none⟩ = false) := Lib.hid (fun t => by rw [frozen?_setCell]; exact hf)
  have hself := Lib.hid (set_same w g 0 (.string u) hc)
  clear hf
  go_enter Try.func13, Try.ntmps13
  go_wp2_with fail
  go_loopw [3] (fun n wr => CR g u w n wr) (fun _ wr => sizeAt wr g)
  case atStart => exact ⟨u, 0, rfl, hself.out.symm, Nat.le_refl _, by omega, Lib.hid rfl⟩
  case round =>
    obtain ⟨t, m, rfl, rfl, hu2, hm, hct⟩ := hrel
    have c0 := hS.out t
    have f0 := hF.out t
    have hs2 : ∀ t', (w.setCell ⟨g, 0, none⟩ (.string t)).setCell ⟨g, 0, none⟩ (.string t') = w.setCell ⟨g, 0, none⟩ (.string t') := fun t' => set_set w g 0 _ _
    have hs2H := Lib.hid hs2
    clear hs2 hc
    have hm0 : sizeAt (w.setCell ⟨g, 0, none⟩ (.string t)) g = t.size := by unfold sizeAt; rw [c0]
    have hm1 : sizeAt (w.setCell ⟨g, 0, none⟩ (.string (t.extract 1 t.size))) g = (t.extract 1 t.size).size := by unfold sizeAt; rw [hS.out]
    have hm0H := Lib.hid hm0
    have hm1H := Lib.hid hm1
    clear hm0 hm1
    generalize hw : w.setCell ⟨g, 0, none⟩ (.string t) = wx at *
    have hwH := Lib.hid hw
    clear hw
    by_cases h : 0 < t.size
    · have hfu := str_full t (by omega)
      have hts := lst_tail_size t h
      have hu8 := u8_lt t[0]
      by_cases hn : t[0].toNat < 48 ∨ 57 < t[0].toNat ∨ (m = 0 ∧ t[0].toNat = 48)
      · have hC := hct.out
        rw [ct_no m t h hn] at hC
        have hCH := Lib.hid hC
        clear hct hC
        rcases (show (t[0].toNat < 48) ∨ (57 < t[0].toNat) ∨ (m = 0 ∧ t[0].toNat = 48) by omega) with k | k | ⟨rfl, k⟩
        · have b1 : decide ((49 : Int) ≤ (t[0].toNat : Int)) = false := decide_eq_false (by omega)
          have b2 : ((t[0].toNat : Int) == 48) = false := by rw [beq_eq_false_iff_ne]; omega
          clear hn k
          rcases (show m = 0 ∨ 0 < m by omega) with rfl | hm2
          all_goals
            go_wp2_with fail
            go_ret
            have := hCH.out
            exact ⟨t, by rw [← this], by omega, by rw [← this]; rfl, hwH.out.symm⟩
        · have b1 : decide ((49 : Int) ≤ (t[0].toNat : Int)) = true := decide_eq_true (by omega)
          have b3 : decide ((t[0].toNat : Int) ≤ 57) = false := decide_eq_false (by omega)
          have b2 : ((t[0].toNat : Int) == 48) = false := by rw [beq_eq_false_iff_ne]; omega
          clear hn k
          rcases (show m = 0 ∨ 0 < m by omega) with rfl | hm2
          all_goals
            go_wp2_with fail
            go_ret
            have := hCH.out
            exact ⟨t, by rw [← this], by omega, by rw [← this]; rfl, hwH.out.symm⟩
        · have b1 : decide ((49 : Int) ≤ (t[0].toNat : Int)) = false := decide_eq_false (by omega)
          clear hn k
          go_wp2_with fail
          go_ret
          have := hCH.out
          exact ⟨t, by rw [← this], by omega, by rw [← this]; rfl, hwH.out.symm⟩
      · have h1 : 48 ≤ t[0].toNat := by omega
        have h2 : t[0].toNat ≤ 57 := by omega
        have h3 : 0 < m ∨ t[0].toNat ≠ 48 := by omega
        have hC := hct.out
        rw [ct_yes m t h h1 h2 h3] at hC
        have hCH := Lib.hid hC
        clear hct hC hn
        have hu3 : (t.extract 1 t.size).size ≤ u.size := by omega
        have hm2 : min (m * 10 + (t[0].toNat - 48)) 9999 ≤ 9999 := Nat.min_le_right _ _
        rcases (show (49 ≤ t[0].toNat) ∨ (t[0].toNat = 48 ∧ 0 < m) by omega) with k | ⟨k, k2⟩
        · have b1 : decide ((49 : Int) ≤ (t[0].toNat : Int)) = true := decide_eq_true (by omega)
          have b3 : decide ((t[0].toNat : Int) ≤ 57) = true := decide_eq_true (by omega)
          clear h3 k
          go_wp2_with fail
          rw [hs2H.out]
          go_roundw
          case rel => first | exact ⟨_, _, congrArg (Value.int .i64) (by omega), rfl, hu3, hm2, hCH⟩ | ((repeat apply Exists.intro); exact ⟨⟨_, _, congrArg (Value.int .i64) (by omega), rfl, hu3, hm2, hCH⟩, rfl⟩)
          case measure => rw [hm1H.out, hm0H.out]; omega
        · have b1 : decide ((49 : Int) ≤ (t[0].toNat : Int)) = false := decide_eq_false (by omega)
          have b2 : ((t[0].toNat : Int) == 48) = true := by rw [beq_iff_eq]; omega
          clear h3 k
          go_wp2_with fail
          rw [hs2H.out]
          go_roundw
          case rel => first | exact ⟨_, _, congrArg (Value.int .i64) (by omega), rfl, hu3, hm2, hCH⟩ | ((repeat apply Exists.intro); exact ⟨⟨_, _, congrArg (Value.int .i64) (by omega), rfl, hu3, hm2, hCH⟩, rfl⟩)
          case measure => rw [hm1H.out, hm0H.out]; omega
    · have hfu := str_none t (by omega)
      have hC := hct.out
      rw [lst_nil h, ct] at hC
      have hCH := Lib.hid hC
      have hl := Lib.hid (lst_nil h)
      clear hct hC
      go_wp2_with fail
      go_ret
      have := hCH.out
      exact ⟨t, by rw [← this, hl.out], by omega, by rw [← this]; rfl, hwH.out.symm⟩
end Go.Proofs.Ytifnochpmlllgaa.Key
