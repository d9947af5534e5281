/-
  PROVED HERE: the contract of the document's Redo. Conditions: as each theorem states.
-/
import Derived.Test.YtijcehimdhbceaaDoorUnK
import Derived.BigRegion
import Derived.Deep.DeepCutAuto
namespace Go.Proofs.YtijcehimdhbceaaDoor.Un
open Go.RowKit
/-- A time, read. -/
theorem DT.tmAt {w : World} {g b cap d cap' now t : Nat} {up tm : List Int} (h : DT w g b cap d cap' up tm now t) (n : Nat) (hn : n < tm.length) : w.cell? ⟨d, n, none⟩ = some (.int .i64 (tm.getD n 0)) := by
  obtain ⟨gb, eg, hcc⟩ := h.ow2.at_ n (by rw [i64s_len]; exact hn)
  injection eg with eg
  injection eg with eg _ _
  subst eg
  rw [i64s_get] at hcc
  exact hcc
/-- Times are not negative. -/
def Tms (tm : List Int) : Prop := ∀ x ∈ tm, 0 ≤ x
theorem tms_at {tm : List Int} (h : Tms tm) (i : Nat) : 0 ≤ tm.getD i 0 := by
  by_cases hi : i < tm.length
  · rw [gdl tm i 0 hi]; exact h _ (List.getElem_mem hi)
  · rw [List.getD_eq_getElem?_getD, List.getElem?_eq_none (by omega)]; exact Int.le_refl _
theorem tf_lt {tm : List Int} (h : Tms tm) (i j : Nat) : tf tm i < tf tm j ↔ tm.getD i 0 < tm.getD j 0 := by
  have := tms_at h i
  have := tms_at h j
  unfold tf
  omega
theorem drewN_drewN (w : World) (n m : Nat) : (w.drewN n).drewN m = w.drewN (n + m) := by
  unfold World.drewN
  simp [Nat.add_assoc]
def RedoS (up tm : List Int) (now m : Nat) (b : Int) : Prop := Sofar up (tf tm) now m b ∧ (b = -1 ∨ ∃ n : Nat, b = n ∧ n < up.length)
theorem redoS_next {up tm : List Int} {now m : Nat} {b : Int} (h : RedoS up tm now m b) (hm : m < up.length) (hT : Tms tm) :
    ((up[m] = (now : Int) ∧ (b < 0 ∨ tm.getD b.toNat 0 < tm.getD m 0)) → RedoS up tm now (m + 1) m) ∧ (¬ (up[m] = (now : Int) ∧ (b < 0 ∨ tm.getD b.toNat 0 < tm.getD m 0)) → RedoS up tm now (m + 1) b) := by
  have hs := sofar_next h.1 hm
  simp only [tf_lt hT] at hs
  refine ⟨fun hc => ?_, fun hc => ?_⟩
  · rw [if_pos hc] at hs
    exact ⟨hs, .inr ⟨m, rfl, hm⟩⟩
  · rw [if_neg hc] at hs
    exact ⟨hs, h.2⟩
def RedoP (g d : Nat) (w : World) (b cap cap' : Nat) (up tm : List Int) (now t : Nat) (e : Ending) (w' : World) : Prop :=
  ∃ k : Int, Best up (tf tm) now k ∧ ((k = -1 ∧ e = .returned (.int .i64 8) ∧ DT w' g b cap d cap' up tm now t) ∨ ∃ n : Nat, k = n ∧ e = .returned (.int .i64 0) ∧ DT w' g b cap d cap' up tm n t) ∧ Keeps (fun k => k = g ∨ k = d) w w'
set_option maxRecDepth 100000 in
set_option maxHeartbeats 4000000 in
theorem docRedo_any (w : World) (g b cap d cap' : Nat) (up tm : List Int) (now t : Nat) (hD : DT w g b cap d cap' up tm now t) (hl : up.length ≤ 1000) (htl : tm.length = up.length) (hT : Tms tm) :
    Calls Tryd.prog 20 #[.pointer (some ⟨g, 0, none⟩)] w (RedoP g d w b cap cap' up tm now t) := by
  have c0 := hD.c0
  have c1 := hD.c1
  have c2 := hD.c2
  rw [htl] at c2
  have TH := Lib.hid hT
  have TL := Lib.hid htl
  have S0 : Hid (RedoS up tm now 0 (-1)) := Lib.hid ⟨sofar_zero _ _ _, .inl rfl⟩
  have DHH := Lib.hid (fun n => hD.drewN n)
  have DH := Lib.hid hD
  have f1 := hD.fz 1
  clear hD hT htl
  go_enter Tryd.func20, Tryd.ntmps20
  go_wp2_with fail
  go_loopw [3, 11] (fun bv i wr => ∃ (m n : Nat) (bb : Int), m ≤ up.length ∧ bv = .int .i64 bb ∧ i = .int .i64 m ∧ wr = w.drewN n ∧ Hid (RedoS up tm now m bb)) (fun _ i _ => up.length - (intOf i).toNat)
  case atStart => exact ⟨0, 0, -1, Nat.zero_le _, rfl, rfl, rfl, S0⟩
  case round =>
    obtain ⟨m, n, bb, hm, rfl, rfl, rfl, hS⟩ := hrel
    by_cases hlt : m < up.length
    · have q1 := DH.out.upAt m hlt
      rw [gdl up m (-1) hlt] at q1
      have i1 : (0 : Int) ≤ (m : Int) := by omega
      have i2 : (m : Int) < (up.length : Int) := by omega
      have q2 := DH.out.tmAt m (by rw [TL.out]; exact hlt)
      have N := Lib.hid (redoS_next hS.out hlt TH.out)
      have hB := hS.out.2
      generalize up[m] = x at *
      generalize tm.getD m 0 = y at *
      by_cases hx : x = (now : Int)
      · subst hx
        rcases hB with rfl | ⟨k, rfl, hk⟩
        · have N2 := Lib.hid (N.out.1 ⟨rfl, .inl (by decide)⟩)
          go_wp2_with fail
          go_quiet (fail)
          go_wp2_with fail
          go_roundw
          case rel => exact ⟨m + 1, _, m, by omega, rfl, by go_num, rfl, N2⟩
          case measure => simp [intOf]; omega
        · have q3 := DH.out.tmAt k (by rw [TL.out]; exact hk)
          have j1 : (0 : Int) ≤ (k : Int) := by omega
          have j2 : (k : Int) < (up.length : Int) := by omega
          rw [Int.toNat_natCast] at N
          generalize tm.getD k 0 = z at *
          by_cases hz : z < y
          · have N2 := Lib.hid (N.out.1 ⟨rfl, .inr hz⟩)
            go_wp2_with fail
            go_quiet (fail)
            go_wp2_with fail
            go_roundw
            case rel => exact ⟨m + 1, _, m, by omega, rfl, by go_num, rfl, N2⟩
            case measure => simp [intOf]; omega
          · have N2 := Lib.hid (N.out.2 (fun h => h.2.elim (by omega) hz))
            have hz2 : y ≤ z := by omega
            clear hz
            go_wp2_with fail
            go_quiet (fail)
            go_wp2_with fail
            go_roundw
            case rel => exact ⟨m + 1, _, k, by omega, rfl, by go_num, rfl, N2⟩
            case measure => simp [intOf]; omega
      · have N2 := Lib.hid (N.out.2 (fun h => hx h.1))
        have hxb : (x == (now : Int)) = false := by simpa using hx
        clear hx
        go_wp2_with fail
        go_quiet (fail)
        go_wp2_with fail
        go_roundw
        case rel => exact ⟨m + 1, _, bb, by omega, rfl, by go_num, rfl, N2⟩
        case measure => simp [intOf]; omega
    · obtain rfl : m = up.length := by omega
      have hBest := Lib.hid (sofar_all hS.out.1)
      rcases hS.out.2 with rfl | ⟨k, rfl, hk⟩
      · go_wp2_with fail
        go_ret
        exact ⟨-1, hBest.out, .inl ⟨rfl, rfl, DHH.out _⟩, (Keeps.refl _ _).drewN _⟩
      · have j1 : (0 : Int) ≤ (k : Int) := by omega
        go_wp2_with fail
        go_ret
        exact ⟨k, hBest.out, .inr ⟨k, rfl, rfl, (DHH.out _).setNow _⟩, ((Keeps.refl _ _).drewN _).setCell (p := ⟨g, 1, none⟩) (.inl (.inl rfl)) _⟩
end Go.Proofs.YtijcehimdhbceaaDoor.Un
