/-
  PROVED HERE: the contract of slices.Reverse over bytes of the call's own. Conditions: as each theorem states.
-/
import Derived.Test.YtofmheeiplagjaaGreatDoorRows
import Derived.Test.YtofmheeiplagjaaGreatDoorOwn
import Derived.RegionTactic
import Derived.ChangeAlike
namespace Go.Proofs.YtofmheeiplagjaaGreatDoor.Dig
open Go.RowKit

/-- The list behind k swaps. -/
def rk (l : List UInt8) (k : Nat) : List UInt8 := (List.range l.length).map fun j => if j < k ∨ l.length ≤ j + k then l.getD (l.length - 1 - j) 0 else l.getD j 0
theorem rk_len (l : List UInt8) (k : Nat) : (rk l k).length = l.length := by simp [rk]
theorem rk_get (l : List UInt8) (k j : Nat) (h : j < l.length) : (rk l k).getD j 0 = if j < k ∨ l.length ≤ j + k then l.getD (l.length - 1 - j) 0 else l.getD j 0 := by
  simp [rk, List.getD_eq_getElem?_getD, h]
theorem rk_zero (l : List UInt8) : rk l 0 = l := by
  apply List.ext_getElem
  · simp [rk]
  · intro i h1 h2
    simp only [rk, List.getElem_map, List.getElem_range]
    rw [if_neg (by omega)]
    simp [List.getD_eq_getElem?_getD, h2]
theorem rk_all (l : List UInt8) (k m : Nat) (h : k + m + 1 = l.length) (hm : m ≤ k) : rk l k = l.reverse := by
  apply List.ext_getElem
  · simp [rk]
  · intro i h1 h2
    have hi : i < l.length := by simpa [rk] using h1
    simp only [rk, List.getElem_map, List.getElem_range, List.getElem_reverse]
    by_cases c : i < k ∨ l.length ≤ i + k
    · rw [if_pos c]
      simp [List.getD_eq_getElem?_getD, show l.length - 1 - i < l.length by omega]
    · rw [if_neg c]
      have : l.length - 1 - i = i := by omega
      simp [List.getD_eq_getElem?_getD, hi, this]
theorem rk_succ (l : List UInt8) (k m : Nat) (a b : UInt8) (h : k + m + 1 = l.length) (hm : k < m) (ha : (rk l k).getD k 0 = a) (hb : (rk l k).getD m 0 = b) : ((rk l k).set k b).set m a = rk l (k + 1) := by
  rw [rk_get l k k (by omega)] at ha
  rw [rk_get l k m (by omega)] at hb
  subst ha hb
  apply List.ext_getElem
  · simp [rk]
  · intro i h1 h2
    have hi : i < l.length := by simpa [rk] using h2
    rw [List.getElem_set, List.getElem_set]
    simp only [rk, List.getElem_map, List.getElem_range]
    by_cases e1 : m = i
    · subst e1
      rw [if_pos rfl, if_neg (by omega), if_pos (by omega), show l.length - 1 - m = k by omega]
    · rw [if_neg e1]
      by_cases e2 : k = i
      · subst e2
        rw [if_pos rfl, if_neg (by omega), if_pos (by omega), show l.length - 1 - k = m by omega]
      · rw [if_neg e2]
        by_cases e3 : i < k ∨ l.length ≤ i + k
        · rw [if_pos e3, if_pos (by omega)]
        · rw [if_neg e3, if_neg (by omega)]

set_option maxHeartbeats 800000 in
theorem reverse_any (v : Value) (l : List UInt8) (B : Nat) (W : World) (ho : Own W B 5 v (u8s l)) (hl : l.length ≤ 1000000) :
    Calls Tryz.prog 58 #[v] W fun e w' => e = .returned (.tuple #[]) ∧ Own w' B 5 v (u8s l.reverse) ∧ Below B W w' := by
  rcases ho.form with ⟨rfl, h0⟩ | ⟨g, cap, rfl, hg, _, _, _⟩
  · have hl0 : l = [] := by cases l with
      | nil => rfl
      | cons _ _ => simp [u8s] at h0
    subst hl0
    go_enter Tryz.func58, Tryz.ntmps58
    go_wp2_with fail
    refine wp_loop_rounds 1 ?_
    rw [rounds_succ]
    go_wp2_with fail
    go_end0
    exact ⟨rfl, own_nil _ _ _, Below.refl _ _⟩
  · rw [u8s_len] at ho ⊢
    by_cases hn : l.length = 0
    · have hl0 : l = [] := List.eq_nil_of_length_eq_zero hn
      subst hl0
      have hoH := Lib.hid ho
      clear ho hn
      go_enter Tryz.func58, Tryz.ntmps58
      go_wp2_with fail
      refine wp_loop_rounds 1 ?_
      rw [rounds_succ]
      go_wp2_with fail
      go_end0
      exact ⟨rfl, hoH.out, Below.refl _ _⟩
    obtain ⟨n1, hn1⟩ : ∃ n1 : Nat, l.length = n1 + 1 := ⟨l.length - 1, by omega⟩
    have hoH := Lib.hid ho
    have hnH := Lib.hid hn1
    have hr0 := Lib.hid (rk_zero l)
    clear ho hn
    go_enter Tryz.func58, Tryz.ntmps58
    go_wp2_with fail
    go_loopw [2, 3] (fun i j wr => ∃ k m : Nat, i = .int .i64 k ∧ j = .int .i64 m ∧ Hid (k + m + 1 = l.length) ∧ k ≤ m + 1 ∧ m ≤ n1 ∧ Hid (Own wr B 5 (.slice (some ⟨g, 0, none⟩) l.length cap) (u8s (rk l k))) ∧ Below B W wr) (fun i j _ => (intOf j + 1 - intOf i).toNat)
    case atStart => exact ⟨0, n1, rfl, rfl, Lib.hid (by omega), by omega, by omega, Lib.hid (by rw [rk_zero]; exact hoH.out), Below.refl _ _⟩
    case round =>
      obtain ⟨k, m, rfl, rfl, hkm, h1, h1', hown, hB⟩ := hrel
      have hBH := Lib.hid hB
      clear hB
      by_cases hlt : k < m
      · have hkl : k < l.length := by have := hkm.out; omega
        have hml : m < l.length := by have := hkm.out; omega
        rcases hown.out.form with ⟨h', _⟩ | ⟨g', cap', h', _, _, hc, hf⟩
        · cases h'
        simp only [Value.slice.injEq, Option.some.injEq, Addr.mk.injEq, and_true, true_and] at h'
        obtain ⟨rfl, _, rfl⟩ := h'
        have hk1 := hc k (by rw [u8s_len, rk_len]; exact hkl)
        have hm1 := hc m (by rw [u8s_len, rk_len]; exact hml)
        rw [u8s_get] at hk1 hm1
        have fk := hf k
        have fm := hf m
        have SW := Lib.hid (rk_succ l k m _ _ hkm.out hlt rfl rfl)
        generalize (rk l k).getD k 0 = a at *
        generalize (rk l k).getD m 0 = b at *
        have ne : k ≠ m := by omega
        have i1 : (0 : Int) ≤ (k : Int) := by omega
        have i2 : (k : Int) < (l.length : Int) := by omega
        have i3 : (0 : Int) ≤ (m : Int) := by omega
        have i4 : (m : Int) < (l.length : Int) := by omega
        clear hc hf
        go_wp2_with fail
        go_region
        all_goals
          go_wp2_with fail
          go_roundw
          case rel =>
            refine ⟨k + 1, m - 1, by go_num, congrArg (Value.int .i64) (by omega), Lib.hid (by have := hkm.out; omega), by omega, by omega, Lib.hid ?_, (((hBH.out).setCell (p := ⟨g, k, none⟩) hg _).setCell (p := ⟨g, m, none⟩) hg _).drew⟩
            have h2 := ((hown.out).set k (.int .u8 (b.toNat : Int))).set m (.int .u8 (a.toNat : Int))
            rw [u8s_set, u8s_set, SW.out] at h2
            exact h2.drew
          case measure => simp [intOf]; omega
      · go_wp2_with fail
        go_end0
        refine ⟨rfl, ?_, hBH.out⟩
        rw [← rk_all l k m hkm.out (by omega)]
        exact hown.out
end Go.Proofs.YtofmheeiplagjaaGreatDoor.Dig
