/-
  PROVED HERE: the contract of the program's expr.hold; the contract of the program's expr.Text; the contract of the document's ExprText. Conditions: as each theorem states.
-/
import Derived.Test.YtofmheeiplagjaaGreatDoorExpI
import Derived.Test.YtofmheeiplagjaaGreatDoorHld
import Derived.Test.YtofmheeiplagjaaGreatDoorDigD
namespace Go.Proofs.YtofmheeiplagjaaGreatDoor.Tm
open Go.RowKit Go.Proofs.YtofmheeiplagjaaGreatDoor.Lex Go.Proofs.YtofmheeiplagjaaGreatDoor.Dig
/-- How strongly the program takes an expression to hold. -/
def hP : Ex → Nat | .bin _ op _ _ => hold op - 1 | _ => 3
def HoR (x : Ex) (W : World) (i : Value) (wr : World) : Prop := ∃ k : Nat, i = .int .i64 k ∧ k ≤ 3 ∧ W = wr ∧ Hid (∀ k', k' < k → ∀ s ∈ lvs k', ¬ (x.isBin = true ∧ x.op = s))
def HiR (x : Ex) (k : Nat) (W : World) (i : Value) (wr : World) : Prop := ∃ j : Nat, i = .int .i64 j ∧ j ≤ (lvs k).length ∧ W = wr ∧ Hid (∀ s ∈ (lvs k).take j, ¬ (x.isBin = true ∧ x.op = s))
theorem hP_hit {x : Ex} {k : Nat} (hk : k < 3) {s : ByteArray} (hs : s ∈ lvs k) (h : x.isBin = true ∧ x.op = s) : hP x = k := by
  cases x with
  | num => cases h.1
  | nam => cases h.1
  | bin _ op _ _ =>
    have : op = s := h.2
    subst this
    have := (mem_lvs hk op).1 hs
    show hold op - 1 = k
    omega
theorem hP_miss {x : Ex} (hx : ExOk x) (h : ∀ k', k' < 3 → ∀ s ∈ lvs k', ¬ (x.isBin = true ∧ x.op = s)) : hP x = 3 := by
  cases x with
  | num => rfl
  | nam => rfl
  | bin _ op _ _ =>
    have h0 : 0 < hold op := hx.2.1
    have h3 := hold_le op
    exact absurd ⟨rfl, rfl⟩ (h (hold op - 1) (by omega) op ((mem_lvs (by omega) op).2 (by omega)))
def exCode : Ex → Int | .num .. => 1 | .nam .. => 2 | .bin .. => 3
theorem ex_head {w : World} {x : Ex} {v : Value} (h : ExAt w x v) : ∃ g, v = .pointer (some ⟨g, 0, none⟩) ∧ w.cell? ⟨g, 0, none⟩ = some (.int .i64 (exCode x)) ∧ w.cell? ⟨g, 4, none⟩ = some (.string x.op) := by
  cases x with
  | num k n =>
    obtain ⟨g, rfl, h⟩ := h
    exact ⟨g, rfl, box_cells (cs := [_, _, _, _, _, _, _]) h 0 (by simp), box_cells (cs := [_, _, _, _, _, _, _]) h 4 (by simp)⟩
  | nam k s =>
    obtain ⟨g, rfl, h⟩ := h
    exact ⟨g, rfl, box_cells (cs := [_, _, _, _, _, _, _]) h 0 (by simp), box_cells (cs := [_, _, _, _, _, _, _]) h 4 (by simp)⟩
  | bin k op l r =>
    obtain ⟨g, a, b, rfl, h, _, _⟩ := h
    exact ⟨g, rfl, box_cells (cs := [_, _, _, _, _, _, _]) h 0 (by simp), box_cells (cs := [_, _, _, _, _, _, _]) h 4 (by simp)⟩
theorem code_bin (x : Ex) : (exCode x == 3) = x.isBin := by cases x <;> rfl
theorem ix0 (n0 n1 n2 c0 c1 c2 : Nat) (a b c : Option Addr) (w : World) : (Instr.index 120 (.agg #[.slice a n0 c0, .slice b n1 c1, .slice c n2 c2]) (.int .i64 0)).run Tryz.prog w = .ok (.slice a n0 c0) w := by kernel_rfl
theorem ix1 (n0 n1 n2 c0 c1 c2 : Nat) (a b c : Option Addr) (w : World) : (Instr.index 120 (.agg #[.slice a n0 c0, .slice b n1 c1, .slice c n2 c2]) (.int .i64 1)).run Tryz.prog w = .ok (.slice b n1 c1) w := by kernel_rfl
theorem ix2 (n0 n1 n2 c0 c1 c2 : Nat) (a b c : Option Addr) (w : World) : (Instr.index 120 (.agg #[.slice a n0 c0, .slice b n1 c1, .slice c n2 c2]) (.int .i64 2)).run Tryz.prog w = .ok (.slice c n2 c2) w := by kernel_rfl
section
variable {B : Nat} {W : World}
set_option maxRecDepth 100000 in
set_option maxHeartbeats 4000000 in
theorem expHold_any (x : Ex) (v : Value) (hx : ExOk x) (h : ExAt W x v) (hL : LH B W) : Calls Tryz.prog 36 #[v] W fun e w' => e = .returned (.int .i64 (hP x : Nat)) ∧ W = w' := by
  obtain ⟨g, rfl, c0, c4⟩ := ex_head h
  have HX := Lib.hid hx
  have cb := code_bin x
  obtain ⟨b0, o0, k0, l0, _, q0⟩ := hL.lv 0 (by omega)
  obtain ⟨b1, o1, k1, l1, _, q1⟩ := hL.lv 1 (by omega)
  obtain ⟨b2, o2, k2, l2, _, q2⟩ := hL.lv 2 (by omega)
  have Q0 := Lib.hid q0
  have Q1 := Lib.hid q1
  have Q2 := Lib.hid q2
  generalize exCode x = C at *
  have x0 := ix0
  have x1 := ix1
  have x2 := ix2
  clear h hL hx q0 q1 q2
  go_enter Tryz.func36, Tryz.ntmps36
  go_wp2_with fail
  go_loopw [2, 8] (fun _ i wr => HoR x W i wr) (fun _ i _ => 3 - (intOf i).toNat)
  case atStart => exact ⟨0, rfl, by omega, rfl, Lib.hid fun k' h => absurd h (Nat.not_lt_zero _)⟩
  case round =>
    obtain ⟨k, rfl, hk, rfl, hN⟩ := hrel
    have hk4 : k = 0 ∨ k = 1 ∨ k = 2 ∨ k = 3 := by omega
    rcases hk4 with rfl | rfl | rfl | rfl
    · have hI := Lib.hid (show ∀ s ∈ (lvs 0).take 0, ¬ (x.isBin = true ∧ x.op = s) by simp)
      go_wp2_with fail
      go_loopw [2, 14] (fun _ i wr => HiR x 0 W i wr) (fun _ i _ => (lvs 0).length - (intOf i).toNat)
      case atStart => exact ⟨0, rfl, Nat.zero_le _, rfl, hI⟩
      case round =>
        clear hI
        obtain ⟨j, rfl, hj, rfl, hI2⟩ := hrel
        by_cases hlt : j < (lvs 0).length
        · have cell := Q0.out j hlt
          have hmem := Lib.hid (List.getElem_mem hlt)
          have htk := Lib.hid (List.take_succ_eq_append_getElem hlt)
          have hl4 := lvs_len 0
          have i3 : (0 : Int) ≤ (j : Int) := by omega
          have i4 : (j : Int) < ((lvs 0).length : Int) := by omega
          generalize (lvs 0)[j] = s at *
          cases hb : x.isBin with
          | false =>
            rw [hb] at cb
            have N := Lib.hid (show ∀ s' ∈ (lvs 0).take (j + 1), ¬ (x.isBin = true ∧ x.op = s') from fun s' _ h => by rw [hb] at h; cases h.1)
            go_wp2_with fail
            go_roundw
            case rel => exact ⟨j + 1, by go_num, hlt, rfl, N⟩
            case measure => first | (simp [intOf]; done) | (simp [intOf]; omega)
          | true =>
            rw [hb] at cb
            by_cases hop : x.op = s
            · have e1 : (x.op.toList == s.toList) = true := (Go.Lib.bytes_beq_iff _ _).2 hop
              have hR := Lib.hid (hP_hit (k := 0) (by omega) hmem.out ⟨hb, hop⟩)
              clear hop
              go_wp2_with fail
              go_ret
              exact ⟨by rw [hR.out]; rfl, rfl⟩
            · have e1 : (x.op.toList == s.toList) = false := (Go.Lib.bytes_beq_false_iff _ _).2 hop
              have N := Lib.hid (show ∀ s' ∈ (lvs 0).take (j + 1), ¬ (x.isBin = true ∧ x.op = s') from fun s' hs h => by
                rw [htk.out, List.mem_append, List.mem_singleton] at hs
                rcases hs with hs | rfl
                · exact hI2.out _ hs h
                · exact hop h.2)
              clear hop
              go_wp2_with fail
              go_roundw
              case rel => exact ⟨j + 1, by go_num, hlt, rfl, N⟩
              case measure => first | (simp [intOf]; done) | (simp [intOf]; omega)
        · have i3 : ¬ (j : Int) < ((lvs 0).length : Int) := by omega
          have N := Lib.hid (show ∀ k', k' < 0 + 1 → ∀ s ∈ lvs k', ¬ (x.isBin = true ∧ x.op = s) from fun k' hk' s hs => by
            by_cases e : k' < 0
            · exact hN.out k' e s hs
            · have : k' = 0 := by omega
              subst this
              rw [← List.take_of_length_le (show (lvs 0).length ≤ j by omega)] at hs
              exact hI2.out _ hs)
          clear hI2
          go_wp2_with fail
          go_roundw
          case rel => exact ⟨0 + 1, by go_num, by omega, rfl, N⟩
          case measure => first | (simp [intOf]; done) | (simp [intOf]; omega)
    · have hI := Lib.hid (show ∀ s ∈ (lvs 1).take 0, ¬ (x.isBin = true ∧ x.op = s) by simp)
      go_wp2_with fail
      go_loopw [2, 14] (fun _ i wr => HiR x 1 W i wr) (fun _ i _ => (lvs 1).length - (intOf i).toNat)
      case atStart => exact ⟨0, rfl, Nat.zero_le _, rfl, hI⟩
      case round =>
        clear hI
        obtain ⟨j, rfl, hj, rfl, hI2⟩ := hrel
        by_cases hlt : j < (lvs 1).length
        · have cell := Q1.out j hlt
          have hmem := Lib.hid (List.getElem_mem hlt)
          have htk := Lib.hid (List.take_succ_eq_append_getElem hlt)
          have hl4 := lvs_len 1
          have i3 : (0 : Int) ≤ (j : Int) := by omega
          have i4 : (j : Int) < ((lvs 1).length : Int) := by omega
          generalize (lvs 1)[j] = s at *
          cases hb : x.isBin with
          | false =>
            rw [hb] at cb
            have N := Lib.hid (show ∀ s' ∈ (lvs 1).take (j + 1), ¬ (x.isBin = true ∧ x.op = s') from fun s' _ h => by rw [hb] at h; cases h.1)
            go_wp2_with fail
            go_roundw
            case rel => exact ⟨j + 1, by go_num, hlt, rfl, N⟩
            case measure => first | (simp [intOf]; done) | (simp [intOf]; omega)
          | true =>
            rw [hb] at cb
            by_cases hop : x.op = s
            · have e1 : (x.op.toList == s.toList) = true := (Go.Lib.bytes_beq_iff _ _).2 hop
              have hR := Lib.hid (hP_hit (k := 1) (by omega) hmem.out ⟨hb, hop⟩)
              clear hop
              go_wp2_with fail
              go_ret
              exact ⟨by rw [hR.out]; rfl, rfl⟩
            · have e1 : (x.op.toList == s.toList) = false := (Go.Lib.bytes_beq_false_iff _ _).2 hop
              have N := Lib.hid (show ∀ s' ∈ (lvs 1).take (j + 1), ¬ (x.isBin = true ∧ x.op = s') from fun s' hs h => by
                rw [htk.out, List.mem_append, List.mem_singleton] at hs
                rcases hs with hs | rfl
                · exact hI2.out _ hs h
                · exact hop h.2)
              clear hop
              go_wp2_with fail
              go_roundw
              case rel => exact ⟨j + 1, by go_num, hlt, rfl, N⟩
              case measure => first | (simp [intOf]; done) | (simp [intOf]; omega)
        · have i3 : ¬ (j : Int) < ((lvs 1).length : Int) := by omega
          have N := Lib.hid (show ∀ k', k' < 1 + 1 → ∀ s ∈ lvs k', ¬ (x.isBin = true ∧ x.op = s) from fun k' hk' s hs => by
            by_cases e : k' < 1
            · exact hN.out k' e s hs
            · have : k' = 1 := by omega
              subst this
              rw [← List.take_of_length_le (show (lvs 1).length ≤ j by omega)] at hs
              exact hI2.out _ hs)
          clear hI2
          go_wp2_with fail
          go_roundw
          case rel => exact ⟨1 + 1, by go_num, by omega, rfl, N⟩
          case measure => first | (simp [intOf]; done) | (simp [intOf]; omega)
    · have hI := Lib.hid (show ∀ s ∈ (lvs 2).take 0, ¬ (x.isBin = true ∧ x.op = s) by simp)
      go_wp2_with fail
      go_loopw [2, 14] (fun _ i wr => HiR x 2 W i wr) (fun _ i _ => (lvs 2).length - (intOf i).toNat)
      case atStart => exact ⟨0, rfl, Nat.zero_le _, rfl, hI⟩
      case round =>
        clear hI
        obtain ⟨j, rfl, hj, rfl, hI2⟩ := hrel
        by_cases hlt : j < (lvs 2).length
        · have cell := Q2.out j hlt
          have hmem := Lib.hid (List.getElem_mem hlt)
          have htk := Lib.hid (List.take_succ_eq_append_getElem hlt)
          have hl4 := lvs_len 2
          have i3 : (0 : Int) ≤ (j : Int) := by omega
          have i4 : (j : Int) < ((lvs 2).length : Int) := by omega
          generalize (lvs 2)[j] = s at *
          cases hb : x.isBin with
          | false =>
            rw [hb] at cb
            have N := Lib.hid (show ∀ s' ∈ (lvs 2).take (j + 1), ¬ (x.isBin = true ∧ x.op = s') from fun s' _ h => by rw [hb] at h; cases h.1)
            go_wp2_with fail
            go_roundw
            case rel => exact ⟨j + 1, by go_num, hlt, rfl, N⟩
            case measure => first | (simp [intOf]; done) | (simp [intOf]; omega)
          | true =>
            rw [hb] at cb
            by_cases hop : x.op = s
            · have e1 : (x.op.toList == s.toList) = true := (Go.Lib.bytes_beq_iff _ _).2 hop
              have hR := Lib.hid (hP_hit (k := 2) (by omega) hmem.out ⟨hb, hop⟩)
              clear hop
              go_wp2_with fail
              go_ret
              exact ⟨by rw [hR.out]; rfl, rfl⟩
            · have e1 : (x.op.toList == s.toList) = false := (Go.Lib.bytes_beq_false_iff _ _).2 hop
              have N := Lib.hid (show ∀ s' ∈ (lvs 2).take (j + 1), ¬ (x.isBin = true ∧ x.op = s') from fun s' hs h => by
                rw [htk.out, List.mem_append, List.mem_singleton] at hs
                rcases hs with hs | rfl
                · exact hI2.out _ hs h
                · exact hop h.2)
              clear hop
              go_wp2_with fail
              go_roundw
              case rel => exact ⟨j + 1, by go_num, hlt, rfl, N⟩
              case measure => first | (simp [intOf]; done) | (simp [intOf]; omega)
        · have i3 : ¬ (j : Int) < ((lvs 2).length : Int) := by omega
          have N := Lib.hid (show ∀ k', k' < 2 + 1 → ∀ s ∈ lvs k', ¬ (x.isBin = true ∧ x.op = s) from fun k' hk' s hs => by
            by_cases e : k' < 2
            · exact hN.out k' e s hs
            · have : k' = 2 := by omega
              subst this
              rw [← List.take_of_length_le (show (lvs 2).length ≤ j by omega)] at hs
              exact hI2.out _ hs)
          clear hI2
          go_wp2_with fail
          go_roundw
          case rel => exact ⟨2 + 1, by go_num, by omega, rfl, N⟩
          case measure => first | (simp [intOf]; done) | (simp [intOf]; omega)
    · have hR := Lib.hid (hP_miss HX.out hN.out)
      clear hN
      go_wp2_with fail
      go_ret
      exact ⟨by rw [hR.out]; rfl, rfl⟩
end
end Go.Proofs.YtofmheeiplagjaaGreatDoor.Tm
namespace Go.Proofs.YtofmheeiplagjaaGreatDoor.Tm
open Go.RowKit Go.Proofs.YtofmheeiplagjaaGreatDoor.Lex Go.Proofs.YtofmheeiplagjaaGreatDoor.Dig
theorem wrap_u64 (n : Int) : IntKind.u64.wrap n = (((n.emod 18446744073709551616).toNat : Nat) : Int) := by
  have h : IntKind.u64.wrap n = n % 18446744073709551616 := by simp [IntKind.wrap, IntKind.signed, IntKind.bits]
  rw [h]
  have := Int.emod_nonneg n (show (18446744073709551616 : Int) ≠ 0 by decide)
  show n % 18446744073709551616 = (((n % 18446744073709551616).toNat : Nat) : Int)
  omega
theorem mod_lt64 (n : Int) : (n.emod 18446744073709551616).toNat < 18446744073709551616 := by
  show (n % 18446744073709551616).toNat < _
  have := Int.emod_lt_of_pos n (show (0 : Int) < 18446744073709551616 by decide)
  omega
theorem expPrint_any (n : Int) (W : World) : Calls Tryz.prog 35 #[.int .u64 (IntKind.u64.wrap n), .int .i64 10, .int .i64 0] W fun e w' => e = .returned (.tuple #[.string (numTxt n), .nilIface]) ∧ Below W.heap.size W w' := by
  rw [wrap_u64]
  exact print_yes _ 10 0 (mod_lt64 n) (by omega) (by omega) W
theorem inB_size (b : Bool) (s : ByteArray) : (inB b s).size ≤ s.size + 2 := by
  cases b
  · show s.size ≤ _
    omega
  · show ((⟨#[40]⟩ ++ s) ++ ⟨#[41]⟩ : ByteArray).size ≤ _
    rw [ByteArray.size_append, ByteArray.size_append]
    show 1 + s.size + 1 ≤ _
    omega
theorem cnt_le (n b w : Nat) : cnt n b w ≤ 64 := by
  unfold cnt
  cases h : (List.range 65).find? (enough n b w) with
  | none => exact Nat.le_refl _
  | some k =>
    have := List.mem_of_find?_eq_some h
    rw [List.mem_range] at this
    show k ≤ 64
    omega
theorem op_size {s : ByteArray} (h : 0 < hold s) : s.size ≤ 2 := by
  rcases hold_ops h with rfl | rfl | rfl | rfl | rfl | rfl | rfl | rfl | rfl <;> decide
theorem text_size : ∀ (x : Ex), ExOk x → (textF x).size + 9 ≤ 1010 * leaves x := by
  intro x
  induction x with
  | num k n =>
    intro _
    have h := cnt_le (n.emod 18446744073709551616).toNat 10 0
    have e : (textF (.num k n)).size = cnt (n.emod 18446744073709551616).toNat 10 0 := sle_size _ _ _
    rw [e]
    show _ ≤ 1010 * 1
    omega
  | nam k s =>
    intro h
    have := h.2
    show s.size + 9 ≤ 1010 * 1
    omega
  | bin k op l r ihl ihr =>
    rintro ⟨_, ho, hl, hr⟩
    have h1 := ihl hl
    have h2 := ihr hr
    have h3 := op_size ho
    have h4 := inB_size (decide (l.isBin = true ∧ hold l.op < hold op)) (textF l)
    have h5 := inB_size (decide (r.isBin = true ∧ hold r.op < hold op + 1)) (textF r)
    have e : (textF (.bin k op l r)).size = (inB (decide (l.isBin = true ∧ hold l.op < hold op)) (textF l)).size + 1 + op.size + 1 + (inB (decide (r.isBin = true ∧ hold r.op < hold op + 1)) (textF r)).size := by
      show ((((_ ++ ⟨#[32]⟩) ++ op) ++ ⟨#[32]⟩) ++ _ : ByteArray).size = _
      rw [ByteArray.size_append, ByteArray.size_append, ByteArray.size_append, ByteArray.size_append]
      rfl
    rw [e]
    show _ ≤ 1010 * (leaves l + leaves r)
    omega
section
variable {B : Nat} {W : World}
set_option maxRecDepth 100000 in
set_option maxHeartbeats 4000000 in
theorem text_num (k : Nat) (n : Int) (v : Value) (h : ExAt W (.num k n) v) : Calls Tryz.prog 13 #[v] W fun e w' => e = .returned (.string (textF (.num k n))) ∧ Below W.heap.size W w' := by
  obtain ⟨g, rfl, hg⟩ := h
  have c0 : W.cell? ⟨g, 0, none⟩ = some (.int .i64 1) := box_cells (cs := [_, _, _, _, _, _, _]) hg 0 (by simp)
  have c2 : W.cell? ⟨g, 2, none⟩ = some (.int .i64 n) := box_cells (cs := [_, _, _, _, _, _, _]) hg 2 (by simp)
  clear hg
  go_enter Tryz.func13, Tryz.ntmps13
  go_wp2_with fail
  refine (expPrint_any n W).mono ?_; rintro e w1 ⟨rfl, hb⟩
  have HB := Lib.hid hb
  clear hb
  go_wp2_with fail
  go_ret
  exact ⟨rfl, HB.out⟩
set_option maxRecDepth 100000 in
theorem text_nam (k : Nat) (s : ByteArray) (v : Value) (h : ExAt W (.nam k s) v) : Calls Tryz.prog 13 #[v] W fun e w' => e = .returned (.string (textF (.nam k s))) ∧ Below W.heap.size W w' := by
  obtain ⟨g, rfl, hg⟩ := h
  have c0 : W.cell? ⟨g, 0, none⟩ = some (.int .i64 2) := box_cells (cs := [_, _, _, _, _, _, _]) hg 0 (by simp)
  have c3 : W.cell? ⟨g, 3, none⟩ = some (.string s) := box_cells (cs := [_, _, _, _, _, _, _]) hg 3 (by simp)
  clear hg
  go_enter Tryz.func13, Tryz.ntmps13
  go_wp2_with fail
  go_ret
  exact ⟨rfl, Below.refl _ _⟩
def TxC (B : Nat) (x : Ex) : Prop := ∀ (v : Value) (W : World), ExOk x → leaves x ≤ 4000 → ExAt W x v → LH B W → B ≤ W.heap.size → Calls Tryz.prog 13 #[v] W fun e w' => e = .returned (.string (textF x)) ∧ Below W.heap.size W w'
set_option maxRecDepth 100000 in
theorem part_any (x : Ex) (H : TxC B x) (m : Nat) (v : Value) (hx : ExOk x) (hl : leaves x ≤ 4000) (h : ExAt W x v) (hL : LH B W) (hB : B ≤ W.heap.size) : Calls Tryz.prog 37 #[v, .int .i64 (m : Nat)] W fun e w' => e = .returned (.string (inB (decide (hP x < m)) (textF x))) ∧ Below W.heap.size W w' := by
  have HH := Lib.hid (expHold_any x v hx h hL)
  have HT := Lib.hid (H v W hx hl h hL hB)
  have hs := text_size x hx
  obtain ⟨t, ht⟩ : ∃ t, textF x = t := ⟨_, rfl⟩
  rw [ht] at HT hs
  rw [ht]
  have s1 : ¬ (9223372036854775807 < 1 + t.size) := by omega
  have s2 : ¬ (9223372036854775807 < 1 + t.size + 1) := by omega
  obtain ⟨g, rfl, _, _⟩ := ex_head h
  clear h hL hB hx hl ht H hs
  by_cases hm : hP x < m
  · rw [decide_eq_true hm]
    have d : (hP x : Int) < (m : Int) := by omega
    go_enter Tryz.func37, Tryz.ntmps37
    go_wp2_with fail
    refine (HH.out).mono ?_; rintro e w1 ⟨rfl, rfl⟩
    go_wp2_with fail
    refine (HT.out).mono ?_; rintro e w1 ⟨rfl, hb⟩
    have HB := Lib.hid hb
    clear hb
    go_wp2_with fail
    go_ret
    exact ⟨rfl, HB.out⟩
  · rw [decide_eq_false hm]
    have d : ¬ (hP x : Int) < (m : Int) := by omega
    go_enter Tryz.func37, Tryz.ntmps37
    go_wp2_with fail
    refine (HH.out).mono ?_; rintro e w1 ⟨rfl, rfl⟩
    go_wp2_with fail
    refine (HT.out).mono ?_; rintro e w1 ⟨rfl, hb⟩
    have HB := Lib.hid hb
    clear hb
    go_wp2_with fail
    go_ret
    exact ⟨rfl, HB.out⟩
theorem hp_lt {x : Ex} (hx : ExOk x) {m : Nat} (h1 : 1 ≤ m) (h4 : m ≤ 4) : decide (hP x < m - 1) = decide (x.isBin = true ∧ hold x.op < m) := by
  refine decide_eq_decide.2 ?_
  cases x with
  | num k n => exact ⟨fun h => absurd (show (3 : Nat) < m - 1 from h) (by omega), fun h => absurd (show false = true from h.1) (by decide)⟩
  | nam k s => exact ⟨fun h => absurd (show (3 : Nat) < m - 1 from h) (by omega), fun h => absurd (show false = true from h.1) (by decide)⟩
  | bin k op l r =>
    have h0 : 0 < hold op := hx.2.1
    exact ⟨fun h => ⟨rfl, by have : hold op - 1 < m - 1 := h; show hold op < m; omega⟩, fun h => by have : hold op < m := h.2; show hold op - 1 < m - 1; omega⟩
theorem ptr_of {w : World} {x : Ex} {v : Value} (h : ExAt w x v) : ∃ p, v = .pointer (some ⟨p, 0, none⟩) := by
  obtain ⟨g, e, _⟩ := ex_head h
  exact ⟨g, e⟩
theorem LH.below {w w' : World} (h : LH B w) (hB : B ≤ w.heap.size) (hb : Below w.heap.size w w') : LH B w' := h.keep fun k hk => hb.block k (by omega)
set_option maxRecDepth 100000 in
set_option maxHeartbeats 4000000 in
theorem text_bin (k : Nat) (op : ByteArray) (l r : Ex) (Hl : TxC B l) (Hr : TxC B r) : TxC B (.bin k op l r) := by
  rintro v W hx hlv h hL hB
  have HH := Lib.hid (expHold_any _ v hx h hL)
  have hsz := text_size _ hx
  obtain ⟨_, ho, okl, okr⟩ := hx
  obtain ⟨g, a, b, rfl, hg, xl, xr⟩ := h
  obtain ⟨pa, rfl⟩ := ptr_of xl
  obtain ⟨pb, rfl⟩ := ptr_of xr
  have hh3 := hold_le op
  have hll : leaves l ≤ 4000 := by have : leaves l + leaves r ≤ 4000 := hlv; omega
  have hlr : leaves r ≤ 4000 := by have : leaves l + leaves r ≤ 4000 := hlv; omega
  have PL := Lib.hid (fun W2 (hb : Below W.heap.size W W2) => part_any (W := W2) l Hl (hold op - 1) _ okl hll (ExAt.below hb l _ xl) (hL.below hB hb) (Nat.le_trans hB hb.size))
  have PR := Lib.hid (fun W2 (hb : Below W.heap.size W W2) => part_any (W := W2) r Hr (hold op) _ okr hlr (ExAt.below hb r _ xr) (hL.below hB hb) (Nat.le_trans hB hb.size))
  rw [hp_lt okl (by omega) (by omega)] at PL
  rw [show decide (hP r < hold op) = decide (hP r < (hold op + 1) - 1) from rfl, hp_lt okr (by omega) (by omega)] at PR
  have hsum : leaves l + leaves r ≤ 4000 := hlv
  have e : textF (.bin k op l r) = (((inB (decide (l.isBin = true ∧ hold l.op < hold op)) (textF l) ++ ⟨#[32]⟩) ++ op) ++ ⟨#[32]⟩) ++ inB (decide (r.isBin = true ∧ hold r.op < hold op + 1)) (textF r) := rfl
  have hsz2 : (textF (.bin k op l r)).size ≤ 5000000 := by
    have : (textF (.bin k op l r)).size + 9 ≤ 1010 * (leaves l + leaves r) := hsz
    omega
  rw [e] at hsz2 ⊢
  have hPe : hP (.bin k op l r) = hold op - 1 := rfl
  rw [hPe] at HH
  obtain ⟨K, hK⟩ : ∃ K, hold op - 1 = K := ⟨_, rfl⟩
  have hK1 : (K : Int) + 1 = (hold op : Int) := by omega
  have hKb : K ≤ 3 := by omega
  have hKw : IntKind.i64.wrap (hold op : Int) = (hold op : Int) := by simp [IntKind.wrap, IntKind.signed, IntKind.bits]; omega
  rw [hK] at HH PL
  generalize inB (decide (l.isBin = true ∧ hold l.op < hold op)) (textF l) = sl at *
  generalize inB (decide (r.isBin = true ∧ hold r.op < hold op + 1)) (textF r) = sr at *
  generalize hold op = K1 at *
  rw [ByteArray.size_append, ByteArray.size_append, ByteArray.size_append, ByteArray.size_append] at hsz2
  have z1 : ByteArray.size ⟨#[32]⟩ = 1 := rfl
  rw [z1] at hsz2
  have s1 : ¬ (9223372036854775807 < sl.size + 1) := by omega
  have s2 : ¬ (9223372036854775807 < sl.size + 1 + op.size) := by omega
  have s3 : ¬ (9223372036854775807 < sl.size + 1 + op.size + 1) := by omega
  have s4 : ¬ (9223372036854775807 < sl.size + 1 + op.size + 1 + sr.size) := by omega
  have c0 : W.cell? ⟨g, 0, none⟩ = some (.int .i64 3) := box_cells (cs := [_, _, _, _, _, _, _]) hg 0 (by simp)
  have c4 : W.cell? ⟨g, 4, none⟩ = some (.string op) := box_cells (cs := [_, _, _, _, _, _, _]) hg 4 (by simp)
  have c5 : W.cell? ⟨g, 5, none⟩ = some (.pointer (some ⟨pa, 0, none⟩)) := box_cells (cs := [_, _, _, _, _, _, _]) hg 5 (by simp)
  have c6 : W.cell? ⟨g, 6, none⟩ = some (.pointer (some ⟨pb, 0, none⟩)) := box_cells (cs := [_, _, _, _, _, _, _]) hg 6 (by simp)
  clear hL hB Hl Hr xl xr hg okl okr hll hlr hsz hsum hsz2 e hPe hK ho hlv hh3 z1
  go_enter Tryz.func13, Tryz.ntmps13
  go_wp2_with fail
  refine (HH.out).mono ?_; rintro e w1 ⟨rfl, rfl⟩
  go_upto_region 11 with fail
  refine Hld.run_region (fun w' => Below W.heap.size W w') 23 (by kernel_rfl) ?_
  have SH : Below W.heap.size W W.drew := (Below.refl _ _).drew
  refine Hld.Run.take (i := 0) (d := 2) (v := .func (Fn.func 37) #[] #[]) rfl (by kernel_rfl) (by kernel_rfl) (by kernel_rfl) (by kernel_rfl) (by kernel_rfl) (by kernel_rfl) (fun _ _ _ h => h) (Or.inl ⟨by rfl, ?_⟩) SH ?_
  · intro w' hSw
    have c4 := keepCell hSw c4
    have c5 := keepCell hSw c5
    have c6 := keepCell hSw c6
    go_simp
  try simp only [Act.put]
  refine Hld.Run.take (i := 1) (d := 2) (v := .pointer (some ⟨g, 0, none⟩)) rfl (by kernel_rfl) (by kernel_rfl) (by kernel_rfl) (by kernel_rfl) (by kernel_rfl) (by kernel_rfl) (fun _ _ _ h => h) (Or.inl ⟨by rfl, ?_⟩) SH ?_
  · intro w' hSw
    have c4 := keepCell hSw c4
    have c5 := keepCell hSw c5
    have c6 := keepCell hSw c6
    go_simp
  try simp only [Act.put]
  refine Hld.Run.take (i := 2) (d := 2) (v := .pointer (some ⟨g, 0, none⟩)) rfl (by kernel_rfl) (by kernel_rfl) (by kernel_rfl) (by kernel_rfl) (by kernel_rfl) (by kernel_rfl) (fun _ _ _ h => h) (Or.inl ⟨by rfl, ?_⟩) SH ?_
  · intro w' hSw
    have c4 := keepCell hSw c4
    have c5 := keepCell hSw c5
    have c6 := keepCell hSw c6
    go_simp
  try simp only [Act.put]
  refine Hld.Run.take (i := 3) (d := 2) (v := .pointer (some ⟨g, 5, none⟩)) rfl (by kernel_rfl) (by kernel_rfl) (by kernel_rfl) (by kernel_rfl) (by kernel_rfl) (by kernel_rfl) (fun _ _ _ h => h) (Or.inl ⟨by rfl, ?_⟩) SH ?_
  · intro w' hSw
    have c4 := keepCell hSw c4
    have c5 := keepCell hSw c5
    have c6 := keepCell hSw c6
    go_simp
  try simp only [Act.put]
  refine Hld.Run.take (i := 4) (d := 2) (v := .pointer (some ⟨pa, 0, none⟩)) rfl (by kernel_rfl) (by kernel_rfl) (by kernel_rfl) (by kernel_rfl) (by kernel_rfl) (by kernel_rfl) (fun _ _ _ h => h) (Or.inl ⟨by rfl, ?_⟩) SH ?_
  · intro w' hSw
    have c4 := keepCell hSw c4
    have c5 := keepCell hSw c5
    have c6 := keepCell hSw c6
    go_simp
  try simp only [Act.put]
  refine Hld.Run.take (i := 5) (d := 2) (v := .int .i64 (K : Nat)) rfl (by kernel_rfl) (by kernel_rfl) (by kernel_rfl) (by kernel_rfl) (by kernel_rfl) (by kernel_rfl) (fun _ _ _ h => h) (Or.inl ⟨by rfl, ?_⟩) SH ?_
  · intro w' hSw
    have c4 := keepCell hSw c4
    have c5 := keepCell hSw c5
    have c6 := keepCell hSw c6
    go_simp
  try simp only [Act.put]
  refine Hld.Run.take (i := 8) (d := 2) (v := .pointer (some ⟨g, 0, none⟩)) rfl (by kernel_rfl) (by kernel_rfl) (by kernel_rfl) (by kernel_rfl) (by kernel_rfl) (by kernel_rfl) (fun _ _ _ h => h) (Or.inl ⟨by rfl, ?_⟩) SH ?_
  · intro w' hSw
    have c4 := keepCell hSw c4
    have c5 := keepCell hSw c5
    have c6 := keepCell hSw c6
    go_simp
  try simp only [Act.put]
  refine Hld.Run.take (i := 9) (d := 2) (v := .pointer (some ⟨g, 0, none⟩)) rfl (by kernel_rfl) (by kernel_rfl) (by kernel_rfl) (by kernel_rfl) (by kernel_rfl) (by kernel_rfl) (fun _ _ _ h => h) (Or.inl ⟨by rfl, ?_⟩) SH ?_
  · intro w' hSw
    have c4 := keepCell hSw c4
    have c5 := keepCell hSw c5
    have c6 := keepCell hSw c6
    go_simp
  try simp only [Act.put]
  refine Hld.Run.take (i := 10) (d := 2) (v := .pointer (some ⟨g, 4, none⟩)) rfl (by kernel_rfl) (by kernel_rfl) (by kernel_rfl) (by kernel_rfl) (by kernel_rfl) (by kernel_rfl) (fun _ _ _ h => h) (Or.inl ⟨by rfl, ?_⟩) SH ?_
  · intro w' hSw
    have c4 := keepCell hSw c4
    have c5 := keepCell hSw c5
    have c6 := keepCell hSw c6
    go_simp
  try simp only [Act.put]
  refine Hld.Run.take (i := 11) (d := 2) (v := .string op) rfl (by kernel_rfl) (by kernel_rfl) (by kernel_rfl) (by kernel_rfl) (by kernel_rfl) (by kernel_rfl) (fun _ _ _ h => h) (Or.inl ⟨by rfl, ?_⟩) SH ?_
  · intro w' hSw
    have c4 := keepCell hSw c4
    have c5 := keepCell hSw c5
    have c6 := keepCell hSw c6
    go_simp
  try simp only [Act.put]
  refine Hld.Run.take (i := 14) (d := 2) (v := .func (Fn.func 37) #[] #[]) rfl (by kernel_rfl) (by kernel_rfl) (by kernel_rfl) (by kernel_rfl) (by kernel_rfl) (by kernel_rfl) (fun _ _ _ h => h) (Or.inl ⟨by rfl, ?_⟩) SH ?_
  · intro w' hSw
    have c4 := keepCell hSw c4
    have c5 := keepCell hSw c5
    have c6 := keepCell hSw c6
    go_simp
  try simp only [Act.put]
  refine Hld.Run.take (i := 15) (d := 2) (v := .pointer (some ⟨g, 0, none⟩)) rfl (by kernel_rfl) (by kernel_rfl) (by kernel_rfl) (by kernel_rfl) (by kernel_rfl) (by kernel_rfl) (fun _ _ _ h => h) (Or.inl ⟨by rfl, ?_⟩) SH ?_
  · intro w' hSw
    have c4 := keepCell hSw c4
    have c5 := keepCell hSw c5
    have c6 := keepCell hSw c6
    go_simp
  try simp only [Act.put]
  refine Hld.Run.take (i := 16) (d := 2) (v := .pointer (some ⟨g, 0, none⟩)) rfl (by kernel_rfl) (by kernel_rfl) (by kernel_rfl) (by kernel_rfl) (by kernel_rfl) (by kernel_rfl) (fun _ _ _ h => h) (Or.inl ⟨by rfl, ?_⟩) SH ?_
  · intro w' hSw
    have c4 := keepCell hSw c4
    have c5 := keepCell hSw c5
    have c6 := keepCell hSw c6
    go_simp
  try simp only [Act.put]
  refine Hld.Run.take (i := 17) (d := 2) (v := .pointer (some ⟨g, 6, none⟩)) rfl (by kernel_rfl) (by kernel_rfl) (by kernel_rfl) (by kernel_rfl) (by kernel_rfl) (by kernel_rfl) (fun _ _ _ h => h) (Or.inl ⟨by rfl, ?_⟩) SH ?_
  · intro w' hSw
    have c4 := keepCell hSw c4
    have c5 := keepCell hSw c5
    have c6 := keepCell hSw c6
    go_simp
  try simp only [Act.put]
  refine Hld.Run.take (i := 18) (d := 2) (v := .pointer (some ⟨pb, 0, none⟩)) rfl (by kernel_rfl) (by kernel_rfl) (by kernel_rfl) (by kernel_rfl) (by kernel_rfl) (by kernel_rfl) (fun _ _ _ h => h) (Or.inl ⟨by rfl, ?_⟩) SH ?_
  · intro w' hSw
    have c4 := keepCell hSw c4
    have c5 := keepCell hSw c5
    have c6 := keepCell hSw c6
    go_simp
  try simp only [Act.put]
  refine Hld.Run.take (i := 19) (d := 2) (v := .int .i64 (K : Nat)) rfl (by kernel_rfl) (by kernel_rfl) (by kernel_rfl) (by kernel_rfl) (by kernel_rfl) (by kernel_rfl) (fun _ _ _ h => h) (Or.inl ⟨by rfl, ?_⟩) SH ?_
  · intro w' hSw
    have c4 := keepCell hSw c4
    have c5 := keepCell hSw c5
    have c6 := keepCell hSw c6
    go_simp
  try simp only [Act.put]
  refine Hld.Run.take (i := 20) (d := 2) (v := .int .i64 (K1 : Nat)) rfl (by kernel_rfl) (by kernel_rfl) (by kernel_rfl) (by kernel_rfl) (by kernel_rfl) (by kernel_rfl) (fun _ _ _ h => h) (Or.inl ⟨by rfl, ?_⟩) SH ?_
  · intro w' hSw
    have c4 := keepCell hSw c4
    have c5 := keepCell hSw c5
    have c6 := keepCell hSw c6
    go_simp
  try simp only [Act.put]
  refine Hld.Run.one (i := 6) (by kernel_rfl) rfl (fun C1 hC1 => ?_)
  go_simp
  go_at_call 37
  refine (PL.out _ SH).mono ?_; rintro e w1 ⟨rfl, b1⟩
  refine hC1 _ _ ⟨fun _ => SH.trans b1, ?_⟩
  replace SH := SH.trans b1
  clear b1 hC1 C1
  try simp only [Act.put]
  refine Hld.Run.take (i := 7) (d := 2) (v := .string (sl ++ ⟨#[32]⟩)) rfl (by kernel_rfl) (by kernel_rfl) (by kernel_rfl) (by kernel_rfl) (by kernel_rfl) (by kernel_rfl) (fun _ _ _ h => h) (Or.inl ⟨by rfl, ?_⟩) SH ?_
  · intro w' hSw
    have c4 := keepCell hSw c4
    have c5 := keepCell hSw c5
    have c6 := keepCell hSw c6
    go_simp
  try simp only [Act.put]
  refine Hld.Run.take (i := 12) (d := 2) (v := .string ((sl ++ ⟨#[32]⟩) ++ op)) rfl (by kernel_rfl) (by kernel_rfl) (by kernel_rfl) (by kernel_rfl) (by kernel_rfl) (by kernel_rfl) (fun _ _ _ h => h) (Or.inl ⟨by rfl, ?_⟩) SH ?_
  · intro w' hSw
    have c4 := keepCell hSw c4
    have c5 := keepCell hSw c5
    have c6 := keepCell hSw c6
    go_simp
  try simp only [Act.put]
  refine Hld.Run.take (i := 13) (d := 2) (v := .string (((sl ++ ⟨#[32]⟩) ++ op) ++ ⟨#[32]⟩)) rfl (by kernel_rfl) (by kernel_rfl) (by kernel_rfl) (by kernel_rfl) (by kernel_rfl) (by kernel_rfl) (fun _ _ _ h => h) (Or.inl ⟨by rfl, ?_⟩) SH ?_
  · intro w' hSw
    have c4 := keepCell hSw c4
    have c5 := keepCell hSw c5
    have c6 := keepCell hSw c6
    go_simp
  try simp only [Act.put]
  refine Hld.Run.one (i := 21) (by kernel_rfl) rfl (fun C2 hC2 => ?_)
  go_simp
  go_at_call 37
  refine (PR.out _ SH).mono ?_; rintro e w2 ⟨rfl, b2⟩
  refine hC2 _ _ ⟨fun _ => SH.trans (b2.mono SH.size), ?_⟩
  replace SH := SH.trans (b2.mono SH.size)
  clear b2 hC2 C2
  try simp only [Act.put]
  refine Hld.Run.take (i := 22) (d := 2) (v := .string ((((sl ++ ⟨#[32]⟩) ++ op) ++ ⟨#[32]⟩) ++ sr)) rfl (by kernel_rfl) (by kernel_rfl) (by kernel_rfl) (by kernel_rfl) (by kernel_rfl) (by kernel_rfl) (fun _ _ _ h => h) (Or.inl ⟨by rfl, ?_⟩) SH ?_
  · intro w' hSw
    have c4 := keepCell hSw c4
    have c5 := keepCell hSw c5
    have c6 := keepCell hSw c6
    go_simp
  try simp only [Act.put]
  refine Hld.Run.one (i := 23) (by kernel_rfl) rfl (fun C3 hC3 => ?_)
  go_simp
  refine hC3 _ _ ⟨fun h => absurd rfl h, ?_⟩
  refine Hld.Run.done (by kernel_rfl) ?_ _
  clear hC3 C3
  go_wp2_with fail
  go_ret
  exact ⟨rfl, SH⟩
theorem expText_any : ∀ x, TxC B x := by
  intro x
  induction x with
  | num k n => intro v W _ _ h _ _; exact text_num k n v h
  | nam k s => intro v W _ _ h _ _; exact text_nam k s v h
  | bin k op l r ihl ihr => exact text_bin k op l r ihl ihr
end
end Go.Proofs.YtofmheeiplagjaaGreatDoor.Tm
namespace Go.Proofs.YtofmheeiplagjaaGreatDoor.Tm
open Go.RowKit Go.Proofs.YtofmheeiplagjaaGreatDoor.Lex Go.Proofs.YtofmheeiplagjaaGreatDoor.Dig
theorem docTxPrint_any (n : Int) (W : World) : Calls Tryz.prog 38 #[.int .u64 (IntKind.u64.wrap n), .int .i64 10, .int .i64 0] W fun e w' => e = .returned (.tuple #[.string (numTxt n), .int .i64 0]) ∧ Below W.heap.size W w' := by
  rw [wrap_u64]
  exact docPrint_yes _ 10 0 (mod_lt64 n) (by omega) (by omega) W
section
variable {W : World}
set_option maxRecDepth 100000 in
theorem docText_num (k : Nat) (n : Int) (v : Value) (h : ExAt W (.num k n) v) : Calls Tryz.prog 14 #[v] W fun e w' => e = .returned (.string (textF (.num k n))) ∧ Below W.heap.size W w' := by
  obtain ⟨g, rfl, hg⟩ := h
  have c0 : W.cell? ⟨g, 0, none⟩ = some (.int .i64 1) := box_cells (cs := [_, _, _, _, _, _, _]) hg 0 (by simp)
  have c2 : W.cell? ⟨g, 2, none⟩ = some (.int .i64 n) := box_cells (cs := [_, _, _, _, _, _, _]) hg 2 (by simp)
  clear hg
  go_enter Tryz.func14, Tryz.ntmps14
  go_wp2_with fail
  refine (docTxPrint_any n W).mono ?_; rintro e w1 ⟨rfl, hb⟩
  have HB := Lib.hid hb
  clear hb
  go_wp2_with fail
  go_ret
  exact ⟨rfl, HB.out⟩
set_option maxRecDepth 100000 in
theorem docText_nam (k : Nat) (s : ByteArray) (v : Value) (h : ExAt W (.nam k s) v) : Calls Tryz.prog 14 #[v] W fun e w' => e = .returned (.string (textF (.nam k s))) ∧ Below W.heap.size W w' := by
  obtain ⟨g, rfl, hg⟩ := h
  have c0 : W.cell? ⟨g, 0, none⟩ = some (.int .i64 2) := box_cells (cs := [_, _, _, _, _, _, _]) hg 0 (by simp)
  have c3 : W.cell? ⟨g, 3, none⟩ = some (.string s) := box_cells (cs := [_, _, _, _, _, _, _]) hg 3 (by simp)
  clear hg
  go_enter Tryz.func14, Tryz.ntmps14
  go_wp2_with fail
  go_ret
  exact ⟨rfl, Below.refl _ _⟩
def DxC (x : Ex) : Prop := ∀ (v : Value) (W : World), ExOk x → leaves x ≤ 4000 → ExAt W x v → Calls Tryz.prog 14 #[v] W fun e w' => e = .returned (.string (textF x)) ∧ Below W.heap.size W w'
set_option maxRecDepth 100000 in
theorem docPart_any (x : Ex) (H : DxC x) (m : Nat) (v : Value) (hx : ExOk x) (hl : leaves x ≤ 4000) (h : ExAt W x v) : Calls Tryz.prog 39 #[v, .int .i64 (m : Nat)] W fun e w' => e = .returned (.string (inB (decide (x.isBin = true ∧ hold x.op < m)) (textF x))) ∧ Below W.heap.size W w' := by
  have HH := Lib.hid (hold_any x.op)
  have HT := Lib.hid (H v W hx hl h)
  have hs := text_size x hx
  have cb := code_bin x
  obtain ⟨t, ht⟩ : ∃ t, textF x = t := ⟨_, rfl⟩
  rw [ht] at HT hs
  rw [ht]
  have s1 : ¬ (9223372036854775807 < 1 + t.size) := by omega
  have s2 : ¬ (9223372036854775807 < 1 + t.size + 1) := by omega
  obtain ⟨g, rfl, c0, c4⟩ := ex_head h
  generalize exCode x = C at *
  clear h hx hl ht H hs
  cases hb : x.isBin with
  | false =>
    rw [hb] at cb
    rw [decide_eq_false (show ¬ (false = true ∧ hold x.op < m) from fun q => by cases q.1)]
    go_enter Tryz.func39, Tryz.ntmps39
    go_wp2_with fail
    refine (HT.out).mono ?_; rintro e w1 ⟨rfl, hb⟩
    have HB := Lib.hid hb
    clear hb
    go_wp2_with fail
    go_ret
    exact ⟨rfl, HB.out⟩
  | true =>
    rw [hb] at cb
    by_cases hm : hold x.op < m
    · rw [decide_eq_true (show true = true ∧ hold x.op < m from ⟨rfl, hm⟩)]
      have d : (hold x.op : Int) < (m : Int) := by omega
      go_enter Tryz.func39, Tryz.ntmps39
      go_wp2_with fail
      refine (HH.out _).mono ?_; rintro e w1 ⟨rfl, rfl⟩
      go_wp2_with fail
      refine (HT.out).mono ?_; rintro e w1 ⟨rfl, hb⟩
      have HB := Lib.hid hb
      clear hb
      go_wp2_with fail
      go_ret
      exact ⟨rfl, HB.out⟩
    · rw [decide_eq_false (show ¬ (true = true ∧ hold x.op < m) from fun q => hm q.2)]
      have d : ¬ (hold x.op : Int) < (m : Int) := by omega
      go_enter Tryz.func39, Tryz.ntmps39
      go_wp2_with fail
      refine (HH.out _).mono ?_; rintro e w1 ⟨rfl, rfl⟩
      go_wp2_with fail
      refine (HT.out).mono ?_; rintro e w1 ⟨rfl, hb⟩
      have HB := Lib.hid hb
      clear hb
      go_wp2_with fail
      go_ret
      exact ⟨rfl, HB.out⟩
set_option maxRecDepth 100000 in
set_option maxHeartbeats 4000000 in
theorem docText_bin (k : Nat) (op : ByteArray) (l r : Ex) (Hl : DxC l) (Hr : DxC r) : DxC (.bin k op l r) := by
  rintro v W hx hlv h
  have hsz := text_size _ hx
  obtain ⟨_, ho, okl, okr⟩ := hx
  obtain ⟨g, a, b, rfl, hg, xl, xr⟩ := h
  obtain ⟨pa, rfl⟩ := ptr_of xl
  obtain ⟨pb, rfl⟩ := ptr_of xr
  have hh3 := hold_le op
  have hll : leaves l ≤ 4000 := by have : leaves l + leaves r ≤ 4000 := hlv; omega
  have hlr : leaves r ≤ 4000 := by have : leaves l + leaves r ≤ 4000 := hlv; omega
  have HO := Lib.hid (hold_any op)
  have PL := Lib.hid (fun W2 (hb : Below W.heap.size W W2) => docPart_any (W := W2) l Hl (hold op) _ okl hll (ExAt.below hb l _ xl))
  have PR := Lib.hid (fun W2 (hb : Below W.heap.size W W2) => docPart_any (W := W2) r Hr (hold op + 1) _ okr hlr (ExAt.below hb r _ xr))
  have hsum : leaves l + leaves r ≤ 4000 := hlv
  have e : textF (.bin k op l r) = (((inB (decide (l.isBin = true ∧ hold l.op < hold op)) (textF l) ++ ⟨#[32]⟩) ++ op) ++ ⟨#[32]⟩) ++ inB (decide (r.isBin = true ∧ hold r.op < hold op + 1)) (textF r) := rfl
  have hsz2 : (textF (.bin k op l r)).size ≤ 5000000 := by
    have : (textF (.bin k op l r)).size + 9 ≤ 1010 * (leaves l + leaves r) := hsz
    omega
  rw [e] at hsz2 ⊢
  obtain ⟨K1, hK⟩ : ∃ K, hold op + 1 = K := ⟨_, rfl⟩
  have hK1 : (hold op : Int) + 1 = (K1 : Int) := by omega
  have hKb : hold op ≤ 3 := hh3
  have hKw : IntKind.i64.wrap (K1 : Int) = (K1 : Int) := by simp [IntKind.wrap, IntKind.signed, IntKind.bits]; omega
  rw [hK] at PR
  generalize inB (decide (l.isBin = true ∧ hold l.op < hold op)) (textF l) = sl at *
  rw [hK] at hsz2 ⊢
  generalize inB (decide (r.isBin = true ∧ hold r.op < K1)) (textF r) = sr at *
  generalize hold op = K at *
  rw [ByteArray.size_append, ByteArray.size_append, ByteArray.size_append, ByteArray.size_append] at hsz2
  have z1 : ByteArray.size ⟨#[32]⟩ = 1 := rfl
  rw [z1] at hsz2
  have s1 : ¬ (9223372036854775807 < sl.size + 1) := by omega
  have s2 : ¬ (9223372036854775807 < sl.size + 1 + op.size) := by omega
  have s3 : ¬ (9223372036854775807 < sl.size + 1 + op.size + 1) := by omega
  have s4 : ¬ (9223372036854775807 < sl.size + 1 + op.size + 1 + sr.size) := by omega
  have c0 : W.cell? ⟨g, 0, none⟩ = some (.int .i64 3) := box_cells (cs := [_, _, _, _, _, _, _]) hg 0 (by simp)
  have c4 : W.cell? ⟨g, 4, none⟩ = some (.string op) := box_cells (cs := [_, _, _, _, _, _, _]) hg 4 (by simp)
  have c5 : W.cell? ⟨g, 5, none⟩ = some (.pointer (some ⟨pa, 0, none⟩)) := box_cells (cs := [_, _, _, _, _, _, _]) hg 5 (by simp)
  have c6 : W.cell? ⟨g, 6, none⟩ = some (.pointer (some ⟨pb, 0, none⟩)) := box_cells (cs := [_, _, _, _, _, _, _]) hg 6 (by simp)
  clear Hl Hr xl xr hg okl okr hll hlr hsz hsum hsz2 e hK ho hlv hh3 z1
  go_enter Tryz.func14, Tryz.ntmps14
  go_upto_region 10 with fail
  refine Hld.run_region (fun w' => Below W.heap.size W w') 31 (by kernel_rfl) ?_
  have SH : Below W.heap.size W W.drew := (Below.refl _ _).drew
  refine Hld.Run.take (i := 0) (d := 2) (v := .func (Fn.func 39) #[] #[]) rfl (by kernel_rfl) (by kernel_rfl) (by kernel_rfl) (by kernel_rfl) (by kernel_rfl) (by kernel_rfl) (fun _ _ _ h => h) (Or.inl ⟨by rfl, ?_⟩) SH ?_
  · intro w' hSw
    have c4 := keepCell hSw c4
    have c5 := keepCell hSw c5
    have c6 := keepCell hSw c6
    go_simp
  try simp only [Act.put]
  refine Hld.Run.take (i := 1) (d := 2) (v := .pointer (some ⟨g, 0, none⟩)) rfl (by kernel_rfl) (by kernel_rfl) (by kernel_rfl) (by kernel_rfl) (by kernel_rfl) (by kernel_rfl) (fun _ _ _ h => h) (Or.inl ⟨by rfl, ?_⟩) SH ?_
  · intro w' hSw
    have c4 := keepCell hSw c4
    have c5 := keepCell hSw c5
    have c6 := keepCell hSw c6
    go_simp
  try simp only [Act.put]
  refine Hld.Run.take (i := 2) (d := 2) (v := .pointer (some ⟨g, 0, none⟩)) rfl (by kernel_rfl) (by kernel_rfl) (by kernel_rfl) (by kernel_rfl) (by kernel_rfl) (by kernel_rfl) (fun _ _ _ h => h) (Or.inl ⟨by rfl, ?_⟩) SH ?_
  · intro w' hSw
    have c4 := keepCell hSw c4
    have c5 := keepCell hSw c5
    have c6 := keepCell hSw c6
    go_simp
  try simp only [Act.put]
  refine Hld.Run.take (i := 3) (d := 2) (v := .pointer (some ⟨g, 5, none⟩)) rfl (by kernel_rfl) (by kernel_rfl) (by kernel_rfl) (by kernel_rfl) (by kernel_rfl) (by kernel_rfl) (fun _ _ _ h => h) (Or.inl ⟨by rfl, ?_⟩) SH ?_
  · intro w' hSw
    have c4 := keepCell hSw c4
    have c5 := keepCell hSw c5
    have c6 := keepCell hSw c6
    go_simp
  try simp only [Act.put]
  refine Hld.Run.take (i := 4) (d := 2) (v := .pointer (some ⟨pa, 0, none⟩)) rfl (by kernel_rfl) (by kernel_rfl) (by kernel_rfl) (by kernel_rfl) (by kernel_rfl) (by kernel_rfl) (fun _ _ _ h => h) (Or.inl ⟨by rfl, ?_⟩) SH ?_
  · intro w' hSw
    have c4 := keepCell hSw c4
    have c5 := keepCell hSw c5
    have c6 := keepCell hSw c6
    go_simp
  try simp only [Act.put]
  refine Hld.Run.take (i := 5) (d := 2) (v := .pointer (some ⟨g, 0, none⟩)) rfl (by kernel_rfl) (by kernel_rfl) (by kernel_rfl) (by kernel_rfl) (by kernel_rfl) (by kernel_rfl) (fun _ _ _ h => h) (Or.inl ⟨by rfl, ?_⟩) SH ?_
  · intro w' hSw
    have c4 := keepCell hSw c4
    have c5 := keepCell hSw c5
    have c6 := keepCell hSw c6
    go_simp
  try simp only [Act.put]
  refine Hld.Run.take (i := 6) (d := 2) (v := .pointer (some ⟨g, 0, none⟩)) rfl (by kernel_rfl) (by kernel_rfl) (by kernel_rfl) (by kernel_rfl) (by kernel_rfl) (by kernel_rfl) (fun _ _ _ h => h) (Or.inl ⟨by rfl, ?_⟩) SH ?_
  · intro w' hSw
    have c4 := keepCell hSw c4
    have c5 := keepCell hSw c5
    have c6 := keepCell hSw c6
    go_simp
  try simp only [Act.put]
  refine Hld.Run.take (i := 7) (d := 2) (v := .pointer (some ⟨g, 4, none⟩)) rfl (by kernel_rfl) (by kernel_rfl) (by kernel_rfl) (by kernel_rfl) (by kernel_rfl) (by kernel_rfl) (fun _ _ _ h => h) (Or.inl ⟨by rfl, ?_⟩) SH ?_
  · intro w' hSw
    have c4 := keepCell hSw c4
    have c5 := keepCell hSw c5
    have c6 := keepCell hSw c6
    go_simp
  try simp only [Act.put]
  refine Hld.Run.take (i := 8) (d := 2) (v := .string op) rfl (by kernel_rfl) (by kernel_rfl) (by kernel_rfl) (by kernel_rfl) (by kernel_rfl) (by kernel_rfl) (fun _ _ _ h => h) (Or.inl ⟨by rfl, ?_⟩) SH ?_
  · intro w' hSw
    have c4 := keepCell hSw c4
    have c5 := keepCell hSw c5
    have c6 := keepCell hSw c6
    go_simp
  try simp only [Act.put]
  refine Hld.Run.take (i := 12) (d := 2) (v := .pointer (some ⟨g, 0, none⟩)) rfl (by kernel_rfl) (by kernel_rfl) (by kernel_rfl) (by kernel_rfl) (by kernel_rfl) (by kernel_rfl) (fun _ _ _ h => h) (Or.inl ⟨by rfl, ?_⟩) SH ?_
  · intro w' hSw
    have c4 := keepCell hSw c4
    have c5 := keepCell hSw c5
    have c6 := keepCell hSw c6
    go_simp
  try simp only [Act.put]
  refine Hld.Run.take (i := 13) (d := 2) (v := .pointer (some ⟨g, 0, none⟩)) rfl (by kernel_rfl) (by kernel_rfl) (by kernel_rfl) (by kernel_rfl) (by kernel_rfl) (by kernel_rfl) (fun _ _ _ h => h) (Or.inl ⟨by rfl, ?_⟩) SH ?_
  · intro w' hSw
    have c4 := keepCell hSw c4
    have c5 := keepCell hSw c5
    have c6 := keepCell hSw c6
    go_simp
  try simp only [Act.put]
  refine Hld.Run.take (i := 14) (d := 2) (v := .pointer (some ⟨g, 4, none⟩)) rfl (by kernel_rfl) (by kernel_rfl) (by kernel_rfl) (by kernel_rfl) (by kernel_rfl) (by kernel_rfl) (fun _ _ _ h => h) (Or.inl ⟨by rfl, ?_⟩) SH ?_
  · intro w' hSw
    have c4 := keepCell hSw c4
    have c5 := keepCell hSw c5
    have c6 := keepCell hSw c6
    go_simp
  try simp only [Act.put]
  refine Hld.Run.take (i := 15) (d := 2) (v := .string op) rfl (by kernel_rfl) (by kernel_rfl) (by kernel_rfl) (by kernel_rfl) (by kernel_rfl) (by kernel_rfl) (fun _ _ _ h => h) (Or.inl ⟨by rfl, ?_⟩) SH ?_
  · intro w' hSw
    have c4 := keepCell hSw c4
    have c5 := keepCell hSw c5
    have c6 := keepCell hSw c6
    go_simp
  try simp only [Act.put]
  refine Hld.Run.take (i := 18) (d := 2) (v := .func (Fn.func 39) #[] #[]) rfl (by kernel_rfl) (by kernel_rfl) (by kernel_rfl) (by kernel_rfl) (by kernel_rfl) (by kernel_rfl) (fun _ _ _ h => h) (Or.inl ⟨by rfl, ?_⟩) SH ?_
  · intro w' hSw
    have c4 := keepCell hSw c4
    have c5 := keepCell hSw c5
    have c6 := keepCell hSw c6
    go_simp
  try simp only [Act.put]
  refine Hld.Run.take (i := 19) (d := 2) (v := .pointer (some ⟨g, 0, none⟩)) rfl (by kernel_rfl) (by kernel_rfl) (by kernel_rfl) (by kernel_rfl) (by kernel_rfl) (by kernel_rfl) (fun _ _ _ h => h) (Or.inl ⟨by rfl, ?_⟩) SH ?_
  · intro w' hSw
    have c4 := keepCell hSw c4
    have c5 := keepCell hSw c5
    have c6 := keepCell hSw c6
    go_simp
  try simp only [Act.put]
  refine Hld.Run.take (i := 20) (d := 2) (v := .pointer (some ⟨g, 0, none⟩)) rfl (by kernel_rfl) (by kernel_rfl) (by kernel_rfl) (by kernel_rfl) (by kernel_rfl) (by kernel_rfl) (fun _ _ _ h => h) (Or.inl ⟨by rfl, ?_⟩) SH ?_
  · intro w' hSw
    have c4 := keepCell hSw c4
    have c5 := keepCell hSw c5
    have c6 := keepCell hSw c6
    go_simp
  try simp only [Act.put]
  refine Hld.Run.take (i := 21) (d := 2) (v := .pointer (some ⟨g, 6, none⟩)) rfl (by kernel_rfl) (by kernel_rfl) (by kernel_rfl) (by kernel_rfl) (by kernel_rfl) (by kernel_rfl) (fun _ _ _ h => h) (Or.inl ⟨by rfl, ?_⟩) SH ?_
  · intro w' hSw
    have c4 := keepCell hSw c4
    have c5 := keepCell hSw c5
    have c6 := keepCell hSw c6
    go_simp
  try simp only [Act.put]
  refine Hld.Run.take (i := 22) (d := 2) (v := .pointer (some ⟨pb, 0, none⟩)) rfl (by kernel_rfl) (by kernel_rfl) (by kernel_rfl) (by kernel_rfl) (by kernel_rfl) (by kernel_rfl) (fun _ _ _ h => h) (Or.inl ⟨by rfl, ?_⟩) SH ?_
  · intro w' hSw
    have c4 := keepCell hSw c4
    have c5 := keepCell hSw c5
    have c6 := keepCell hSw c6
    go_simp
  try simp only [Act.put]
  refine Hld.Run.take (i := 23) (d := 2) (v := .pointer (some ⟨g, 0, none⟩)) rfl (by kernel_rfl) (by kernel_rfl) (by kernel_rfl) (by kernel_rfl) (by kernel_rfl) (by kernel_rfl) (fun _ _ _ h => h) (Or.inl ⟨by rfl, ?_⟩) SH ?_
  · intro w' hSw
    have c4 := keepCell hSw c4
    have c5 := keepCell hSw c5
    have c6 := keepCell hSw c6
    go_simp
  try simp only [Act.put]
  refine Hld.Run.take (i := 24) (d := 2) (v := .pointer (some ⟨g, 0, none⟩)) rfl (by kernel_rfl) (by kernel_rfl) (by kernel_rfl) (by kernel_rfl) (by kernel_rfl) (by kernel_rfl) (fun _ _ _ h => h) (Or.inl ⟨by rfl, ?_⟩) SH ?_
  · intro w' hSw
    have c4 := keepCell hSw c4
    have c5 := keepCell hSw c5
    have c6 := keepCell hSw c6
    go_simp
  try simp only [Act.put]
  refine Hld.Run.take (i := 25) (d := 2) (v := .pointer (some ⟨g, 4, none⟩)) rfl (by kernel_rfl) (by kernel_rfl) (by kernel_rfl) (by kernel_rfl) (by kernel_rfl) (by kernel_rfl) (fun _ _ _ h => h) (Or.inl ⟨by rfl, ?_⟩) SH ?_
  · intro w' hSw
    have c4 := keepCell hSw c4
    have c5 := keepCell hSw c5
    have c6 := keepCell hSw c6
    go_simp
  try simp only [Act.put]
  refine Hld.Run.take (i := 26) (d := 2) (v := .string op) rfl (by kernel_rfl) (by kernel_rfl) (by kernel_rfl) (by kernel_rfl) (by kernel_rfl) (by kernel_rfl) (fun _ _ _ h => h) (Or.inl ⟨by rfl, ?_⟩) SH ?_
  · intro w' hSw
    have c4 := keepCell hSw c4
    have c5 := keepCell hSw c5
    have c6 := keepCell hSw c6
    go_simp
  try simp only [Act.put]
  refine Hld.Run.one (i := 9) (by kernel_rfl) rfl (fun C9 hC9 => ?_)
  go_simp
  go_at_call 40
  refine (HO.out _).mono ?_; rintro e w1 ⟨rfl, rfl⟩
  refine hC9 _ _ ⟨fun _ => SH, ?_⟩
  clear hC9 C9
  try simp only [Act.put]
  refine Hld.Run.one (i := 10) (by kernel_rfl) rfl (fun C10 hC10 => ?_)
  go_simp
  go_at_call 39
  refine (PL.out _ SH).mono ?_; rintro e w2 ⟨rfl, b2⟩
  refine hC10 _ _ ⟨fun _ => SH.trans (b2.mono SH.size), ?_⟩
  replace SH := SH.trans (b2.mono SH.size)
  clear b2
  clear hC10 C10
  try simp only [Act.put]
  refine Hld.Run.take (i := 11) (d := 2) (v := .string (sl ++ ⟨#[32]⟩)) rfl (by kernel_rfl) (by kernel_rfl) (by kernel_rfl) (by kernel_rfl) (by kernel_rfl) (by kernel_rfl) (fun _ _ _ h => h) (Or.inl ⟨by rfl, ?_⟩) SH ?_
  · intro w' hSw
    have c4 := keepCell hSw c4
    have c5 := keepCell hSw c5
    have c6 := keepCell hSw c6
    go_simp
  try simp only [Act.put]
  refine Hld.Run.take (i := 16) (d := 2) (v := .string ((sl ++ ⟨#[32]⟩) ++ op)) rfl (by kernel_rfl) (by kernel_rfl) (by kernel_rfl) (by kernel_rfl) (by kernel_rfl) (by kernel_rfl) (fun _ _ _ h => h) (Or.inl ⟨by rfl, ?_⟩) SH ?_
  · intro w' hSw
    have c4 := keepCell hSw c4
    have c5 := keepCell hSw c5
    have c6 := keepCell hSw c6
    go_simp
  try simp only [Act.put]
  refine Hld.Run.take (i := 17) (d := 2) (v := .string (((sl ++ ⟨#[32]⟩) ++ op) ++ ⟨#[32]⟩)) rfl (by kernel_rfl) (by kernel_rfl) (by kernel_rfl) (by kernel_rfl) (by kernel_rfl) (by kernel_rfl) (fun _ _ _ h => h) (Or.inl ⟨by rfl, ?_⟩) SH ?_
  · intro w' hSw
    have c4 := keepCell hSw c4
    have c5 := keepCell hSw c5
    have c6 := keepCell hSw c6
    go_simp
  try simp only [Act.put]
  refine Hld.Run.one (i := 27) (by kernel_rfl) rfl (fun C27 hC27 => ?_)
  go_simp
  go_at_call 40
  refine (HO.out _).mono ?_; rintro e w3 ⟨rfl, rfl⟩
  refine hC27 _ _ ⟨fun _ => SH, ?_⟩
  clear hC27 C27
  try simp only [Act.put]
  refine Hld.Run.take (i := 28) (d := 2) (v := .int .i64 (K1 : Nat)) rfl (by kernel_rfl) (by kernel_rfl) (by kernel_rfl) (by kernel_rfl) (by kernel_rfl) (by kernel_rfl) (fun _ _ _ h => h) (Or.inl ⟨by rfl, ?_⟩) SH ?_
  · intro w' hSw
    have c4 := keepCell hSw c4
    have c5 := keepCell hSw c5
    have c6 := keepCell hSw c6
    go_simp
  try simp only [Act.put]
  refine Hld.Run.one (i := 29) (by kernel_rfl) rfl (fun C29 hC29 => ?_)
  go_simp
  go_at_call 39
  refine (PR.out _ SH).mono ?_; rintro e w4 ⟨rfl, b4⟩
  refine hC29 _ _ ⟨fun _ => SH.trans (b4.mono SH.size), ?_⟩
  replace SH := SH.trans (b4.mono SH.size)
  clear b4
  clear hC29 C29
  try simp only [Act.put]
  refine Hld.Run.take (i := 30) (d := 2) (v := .string ((((sl ++ ⟨#[32]⟩) ++ op) ++ ⟨#[32]⟩) ++ sr)) rfl (by kernel_rfl) (by kernel_rfl) (by kernel_rfl) (by kernel_rfl) (by kernel_rfl) (by kernel_rfl) (fun _ _ _ h => h) (Or.inl ⟨by rfl, ?_⟩) SH ?_
  · intro w' hSw
    have c4 := keepCell hSw c4
    have c5 := keepCell hSw c5
    have c6 := keepCell hSw c6
    go_simp
  try simp only [Act.put]
  refine Hld.Run.one (i := 31) (by kernel_rfl) rfl (fun C3 hC3 => ?_)
  go_simp
  refine hC3 _ _ ⟨fun h => absurd rfl h, ?_⟩
  refine Hld.Run.done (by kernel_rfl) ?_ _
  clear hC3 C3
  go_wp2_with fail
  go_ret
  exact ⟨rfl, SH⟩
theorem docText_any : ∀ x, DxC x := by
  intro x
  induction x with
  | num k n => intro v W _ _ h; exact docText_num k n v h
  | nam k s => intro v W _ _ h; exact docText_nam k s v h
  | bin k op l r ihl ihr => exact docText_bin k op l r ihl ihr
end
end Go.Proofs.YtofmheeiplagjaaGreatDoor.Tm
