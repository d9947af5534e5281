/-
  PROVED HERE: the contract of the program's expr.hold. Conditions: as each theorem states.
-/
import Derived.Test.YtofmheeiplagjaaGreatDoorExpI
namespace Go.Proofs.YtofmheeiplagjaaGreatDoor.Tm
open Go.RowKit Go.Proofs.YtofmheeiplagjaaGreatDoor.Lex Go.Proofs.YtofmheeiplagjaaGreatDoor.Dig
/-- How strongly the program takes an expression to hold. -/
def hP : Ex → Nat | .bin _ op _ _ => hold op - 1 | _ => 3
def HoR (x : Ex) (W : World) (i : Value) (wr : World) : Prop := ∃ k : Nat, i = .int .i64 k ∧ k ≤ 3 ∧ W = wr ∧ Hid (∀ k', k' < k → ∀ s ∈ lvs k', ¬ (x.isBin = true ∧ x.op = s))
def HiR (x : Ex) (k : Nat) (W : World) (i : Value) (wr : World) : Prop := ∃ j : Nat, i = .int .i64 j ∧ j ≤ (lvs k).length ∧ W = wr ∧ Hid (∀ s ∈ (lvs k).take j, ¬ (x.isBin = true ∧ x.op = s))
theorem hP_hit {x : Ex} {k : Nat} (hk : k < 3) {s : ByteArray} (hs : s ∈ lvs k) (h : x.isBin = true ∧ x.op = s) : hP x = k := by
  cases x with
  | num => cases h.1
  | nam => cases h.1
  | bin _ op _ _ =>
    have : op = s := h.2
    subst this
    have := (mem_lvs hk op).1 hs
    show hold op - 1 = k
    omega
theorem hP_miss {x : Ex} (hx : ExOk x) (h : ∀ k', k' < 3 → ∀ s ∈ lvs k', ¬ (x.isBin = true ∧ x.op = s)) : hP x = 3 := by
  cases x with
  | num => rfl
  | nam => rfl
  | bin _ op _ _ =>
    have h0 : 0 < hold op := hx.2.1
    have h3 := hold_le op
    exact absurd ⟨rfl, rfl⟩ (h (hold op - 1) (by omega) op ((mem_lvs (by omega) op).2 (by omega)))
def exCode : Ex → Int | .num .. => 1 | .nam .. => 2 | .bin .. => 3
theorem ex_head {w : World} {x : Ex} {v : Value} (h : ExAt w x v) : ∃ g, v = .pointer (some ⟨g, 0, none⟩) ∧ w.cell? ⟨g, 0, none⟩ = some (.int .i64 (exCode x)) ∧ w.cell? ⟨g, 4, none⟩ = some (.string x.op) := by
  cases x with
  | num k n =>
    obtain ⟨g, rfl, h⟩ := h
    exact ⟨g, rfl, box_cells (cs := [_, _, _, _, _, _, _]) h 0 (by simp), box_cells (cs := [_, _, _, _, _, _, _]) h 4 (by simp)⟩
  | nam k s =>
    obtain ⟨g, rfl, h⟩ := h
    exact ⟨g, rfl, box_cells (cs := [_, _, _, _, _, _, _]) h 0 (by simp), box_cells (cs := [_, _, _, _, _, _, _]) h 4 (by simp)⟩
  | bin k op l r =>
    obtain ⟨g, a, b, rfl, h, _, _⟩ := h
    exact ⟨g, rfl, box_cells (cs := [_, _, _, _, _, _, _]) h 0 (by simp), box_cells (cs := [_, _, _, _, _, _, _]) h 4 (by simp)⟩
theorem code_bin (x : Ex) : (exCode x == 3) = x.isBin := by cases x <;> rfl
theorem ix0 (n0 n1 n2 c0 c1 c2 : Nat) (a b c : Option Addr) (w : World) : (Instr.index 120 (.agg #[.slice a n0 c0, .slice b n1 c1, .slice c n2 c2]) (.int .i64 0)).run Tryz.prog w = .ok (.slice a n0 c0) w := by kernel_rfl
theorem ix1 (n0 n1 n2 c0 c1 c2 : Nat) (a b c : Option Addr) (w : World) : (Instr.index 120 (.agg #[.slice a n0 c0, .slice b n1 c1, .slice c n2 c2]) (.int .i64 1)).run Tryz.prog w = .ok (.slice b n1 c1) w := by kernel_rfl
theorem ix2 (n0 n1 n2 c0 c1 c2 : Nat) (a b c : Option Addr) (w : World) : (Instr.index 120 (.agg #[.slice a n0 c0, .slice b n1 c1, .slice c n2 c2]) (.int .i64 2)).run Tryz.prog w = .ok (.slice c n2 c2) w := by kernel_rfl
section
variable {B : Nat} {W : World}
set_option maxRecDepth 100000 in
set_option maxHeartbeats 4000000 in
theorem expHold_any (x : Ex) (v : Value) (hx : ExOk x) (h : ExAt W x v) (hL : LH B W) : Calls Tryz.prog 36 #[v] W fun e w' => e = .returned (.int .i64 (hP x : Nat)) ∧ W = w' := by
  obtain ⟨g, rfl, c0, c4⟩ := ex_head h
  have HX := Lib.hid hx
  have cb := code_bin x
  obtain ⟨b0, o0, k0, l0, _, q0⟩ := hL.lv 0 (by omega)
  obtain ⟨b1, o1, k1, l1, _, q1⟩ := hL.lv 1 (by omega)
  obtain ⟨b2, o2, k2, l2, _, q2⟩ := hL.lv 2 (by omega)
  have Q0 := Lib.hid q0
  have Q1 := Lib.hid q1
  have Q2 := Lib.hid q2
  generalize exCode x = C at *
  have x0 := ix0
  have x1 := ix1
  have x2 := ix2
  clear h hL hx q0 q1 q2
  go_enter Tryz.func36, Tryz.ntmps36
  go_wp2_with fail
  go_loopw [2, 8] (fun _ i wr => HoR x W i wr) (fun _ i _ => 3 - (intOf i).toNat)
  case atStart => exact ⟨0, rfl, by omega, rfl, Lib.hid fun k' h => absurd h (Nat.not_lt_zero _)⟩
  case round =>
    obtain ⟨k, rfl, hk, rfl, hN⟩ := hrel
    have hk4 : k = 0 ∨ k = 1 ∨ k = 2 ∨ k = 3 := by omega
    rcases hk4 with rfl | rfl | rfl | rfl
    · have hI := Lib.hid (show ∀ s ∈ (lvs 0).take 0, ¬ (x.isBin = true ∧ x.op = s) by simp)
      go_wp2_with fail
      go_loopw [2, 14] (fun _ i wr => HiR x 0 W i wr) (fun _ i _ => (lvs 0).length - (intOf i).toNat)
      case atStart => exact ⟨0, rfl, Nat.zero_le _, rfl, hI⟩
      case round =>
        clear hI
        obtain ⟨j, rfl, hj, rfl, hI2⟩ := hrel
        by_cases hlt : j < (lvs 0).length
        · have cell := Q0.out j hlt
          have hmem := Lib.hid (List.getElem_mem hlt)
          have htk := Lib.hid (List.take_succ_eq_append_getElem hlt)
          have hl4 := lvs_len 0
          have i3 : (0 : Int) ≤ (j : Int) := by omega
          have i4 : (j : Int) < ((lvs 0).length : Int) := by omega
          generalize (lvs 0)[j] = s at *
          cases hb : x.isBin with
          | false =>
            rw [hb] at cb
            have N := Lib.hid (show ∀ s' ∈ (lvs 0).take (j + 1), ¬ (x.isBin = true ∧ x.op = s') from fun s' _ h => by rw [hb] at h; cases h.1)
            go_wp2_with fail
            go_roundw
            case rel => exact ⟨j + 1, by go_num, hlt, rfl, N⟩
            case measure => first | (simp [intOf]; done) | (simp [intOf]; omega)
          | true =>
            rw [hb] at cb
            by_cases hop : x.op = s
            · have e1 : (x.op.toList == s.toList) = true := (Go.Lib.bytes_beq_iff _ _).2 hop
              have hR := Lib.hid (hP_hit (k := 0) (by omega) hmem.out ⟨hb, hop⟩)
              clear hop
              go_wp2_with fail
              go_ret
              exact ⟨by rw [hR.out]; rfl, rfl⟩
            · have e1 : (x.op.toList == s.toList) = false := (Go.Lib.bytes_beq_false_iff _ _).2 hop
              have N := Lib.hid (show ∀ s' ∈ (lvs 0).take (j + 1), ¬ (x.isBin = true ∧ x.op = s') from fun s' hs h => by
                rw [htk.out, List.mem_append, List.mem_singleton] at hs
                rcases hs with hs | rfl
                · exact hI2.out _ hs h
                · exact hop h.2)
              clear hop
              go_wp2_with fail
              go_roundw
              case rel => exact ⟨j + 1, by go_num, hlt, rfl, N⟩
              case measure => first | (simp [intOf]; done) | (simp [intOf]; omega)
        · have i3 : ¬ (j : Int) < ((lvs 0).length : Int) := by omega
          have N := Lib.hid (show ∀ k', k' < 0 + 1 → ∀ s ∈ lvs k', ¬ (x.isBin = true ∧ x.op = s) from fun k' hk' s hs => by
            by_cases e : k' < 0
            · exact hN.out k' e s hs
            · have : k' = 0 := by omega
              subst this
              rw [← List.take_of_length_le (show (lvs 0).length ≤ j by omega)] at hs
              exact hI2.out _ hs)
          clear hI2
          go_wp2_with fail
          go_roundw
          case rel => exact ⟨0 + 1, by go_num, by omega, rfl, N⟩
          case measure => first | (simp [intOf]; done) | (simp [intOf]; omega)
    · have hI := Lib.hid (show ∀ s ∈ (lvs 1).take 0, ¬ (x.isBin = true ∧ x.op = s) by simp)
      go_wp2_with fail
      go_loopw [2, 14] (fun _ i wr => HiR x 1 W i wr) (fun _ i _ => (lvs 1).length - (intOf i).toNat)
      case atStart => exact ⟨0, rfl, Nat.zero_le _, rfl, hI⟩
      case round =>
        clear hI
        obtain ⟨j, rfl, hj, rfl, hI2⟩ := hrel
        by_cases hlt : j < (lvs 1).length
        · have cell := Q1.out j hlt
          have hmem := Lib.hid (List.getElem_mem hlt)
          have htk := Lib.hid (List.take_succ_eq_append_getElem hlt)
          have hl4 := lvs_len 1
          have i3 : (0 : Int) ≤ (j : Int) := by omega
          have i4 : (j : Int) < ((lvs 1).length : Int) := by omega
          generalize (lvs 1)[j] = s at *
          cases hb : x.isBin with
          | false =>
            rw [hb] at cb
            have N := Lib.hid (show ∀ s' ∈ (lvs 1).take (j + 1), ¬ (x.isBin = true ∧ x.op = s') from fun s' _ h => by rw [hb] at h; cases h.1)
            go_wp2_with fail
            go_roundw
            case rel => exact ⟨j + 1, by go_num, hlt, rfl, N⟩
            case measure => first | (simp [intOf]; done) | (simp [intOf]; omega)
          | true =>
            rw [hb] at cb
            by_cases hop : x.op = s
            · have e1 : (x.op.toList == s.toList) = true := (Go.Lib.bytes_beq_iff _ _).2 hop
              have hR := Lib.hid (hP_hit (k := 1) (by omega) hmem.out ⟨hb, hop⟩)
              clear hop
              go_wp2_with fail
              go_ret
              exact ⟨by rw [hR.out]; rfl, rfl⟩
            · have e1 : (x.op.toList == s.toList) = false := (Go.Lib.bytes_beq_false_iff _ _).2 hop
              have N := Lib.hid (show ∀ s' ∈ (lvs 1).take (j + 1), ¬ (x.isBin = true ∧ x.op = s') from fun s' hs h => by
                rw [htk.out, List.mem_append, List.mem_singleton] at hs
                rcases hs with hs | rfl
                · exact hI2.out _ hs h
                · exact hop h.2)
              clear hop
              go_wp2_with fail
              go_roundw
              case rel => exact ⟨j + 1, by go_num, hlt, rfl, N⟩
              case measure => first | (simp [intOf]; done) | (simp [intOf]; omega)
        · have i3 : ¬ (j : Int) < ((lvs 1).length : Int) := by omega
          have N := Lib.hid (show ∀ k', k' < 1 + 1 → ∀ s ∈ lvs k', ¬ (x.isBin = true ∧ x.op = s) from fun k' hk' s hs => by
            by_cases e : k' < 1
            · exact hN.out k' e s hs
            · have : k' = 1 := by omega
              subst this
              rw [← List.take_of_length_le (show (lvs 1).length ≤ j by omega)] at hs
              exact hI2.out _ hs)
          clear hI2
          go_wp2_with fail
          go_roundw
          case rel => exact ⟨1 + 1, by go_num, by omega, rfl, N⟩
          case measure => first | (simp [intOf]; done) | (simp [intOf]; omega)
    · have hI := Lib.hid (show ∀ s ∈ (lvs 2).take 0, ¬ (x.isBin = true ∧ x.op = s) by simp)
      go_wp2_with fail
      go_loopw [2, 14] (fun _ i wr => HiR x 2 W i wr) (fun _ i _ => (lvs 2).length - (intOf i).toNat)
      case atStart => exact ⟨0, rfl, Nat.zero_le _, rfl, hI⟩
      case round =>
        clear hI
        obtain ⟨j, rfl, hj, rfl, hI2⟩ := hrel
        by_cases hlt : j < (lvs 2).length
        · have cell := Q2.out j hlt
          have hmem := Lib.hid (List.getElem_mem hlt)
          have htk := Lib.hid (List.take_succ_eq_append_getElem hlt)
          have hl4 := lvs_len 2
          have i3 : (0 : Int) ≤ (j : Int) := by omega
          have i4 : (j : Int) < ((lvs 2).length : Int) := by omega
          generalize (lvs 2)[j] = s at *
          cases hb : x.isBin with
          | false =>
            rw [hb] at cb
            have N := Lib.hid (show ∀ s' ∈ (lvs 2).take (j + 1), ¬ (x.isBin = true ∧ x.op = s') from fun s' _ h => by rw [hb] at h; cases h.1)
            go_wp2_with fail
            go_roundw
            case rel => exact ⟨j + 1, by go_num, hlt, rfl, N⟩
            case measure => first | (simp [intOf]; done) | (simp [intOf]; omega)
          | true =>
            rw [hb] at cb
            by_cases hop : x.op = s
            · have e1 : (x.op.toList == s.toList) = true := (Go.Lib.bytes_beq_iff _ _).2 hop
              have hR := Lib.hid (hP_hit (k := 2) (by omega) hmem.out ⟨hb, hop⟩)
              clear hop
              go_wp2_with fail
              go_ret
              exact ⟨by rw [hR.out]; rfl, rfl⟩
            · have e1 : (x.op.toList == s.toList) = false := (Go.Lib.bytes_beq_false_iff _ _).2 hop
              have N := Lib.hid (show ∀ s' ∈ (lvs 2).take (j + 1), ¬ (x.isBin = true ∧ x.op = s') from fun s' hs h => by
                rw [htk.out, List.mem_append, List.mem_singleton] at hs
                rcases hs with hs | rfl
                · exact hI2.out _ hs h
                · exact hop h.2)
              clear hop
              go_wp2_with fail
              go_roundw
              case rel => exact ⟨j + 1, by go_num, hlt, rfl, N⟩
              case measure => first | (simp [intOf]; done) | (simp [intOf]; omega)
        · have i3 : ¬ (j : Int) < ((lvs 2).length : Int) := by omega
          have N := Lib.hid (show ∀ k', k' < 2 + 1 → ∀ s ∈ lvs k', ¬ (x.isBin = true ∧ x.op = s) from fun k' hk' s hs => by
            by_cases e : k' < 2
            · exact hN.out k' e s hs
            · have : k' = 2 := by omega
              subst this
              rw [← List.take_of_length_le (show (lvs 2).length ≤ j by omega)] at hs
              exact hI2.out _ hs)
          clear hI2
          go_wp2_with fail
          go_roundw
          case rel => exact ⟨2 + 1, by go_num, by omega, rfl, N⟩
          case measure => first | (simp [intOf]; done) | (simp [intOf]; omega)
    · have hR := Lib.hid (hP_miss HX.out hN.out)
      clear hN
      go_wp2_with fail
      go_ret
      exact ⟨by rw [hR.out]; rfl, rfl⟩
end
end Go.Proofs.YtofmheeiplagjaaGreatDoor.Tm
