/-
  PROVED HERE: the contract of diff.longest. Conditions: as each theorem states.
-/
import Derived.Test.YtjicnffafhbmbaaDoorMyB
import Derived.Test.YtjicnffafhbmbaaDoorTac
import Derived.Test.YtjicnffafhbmbaaDoorRows
import Derived.Deep.QuietTactic
import Derived.BigQuiet
import Derived.StillTailTactics
namespace Go.Proofs.YtjicnffafhbmbaaDoor.My
open Go.RowKit
/-- The table so far: rows from i on; in row i0 places from j on. -/
def fG (a b : ByteArray) (i : Nat) : Nat → Nat → Nat := fun i' j' => if i ≤ i' then T a b i' j' else 0
def fF (a b : ByteArray) (i0 j : Nat) : Nat → Nat → Nat := fun i' j' => if i0 < i' ∨ (i' = i0 ∧ j ≤ j') then T a b i' j' else 0
def LaR (a b : ByteArray) (W : World) (iv : Value) (wr : World) : Prop := ∃ i : Nat, i ≤ a.size + 1 ∧ iv = .int .i64 i ∧ wr.heap.size = W.heap.size + 1 + i ∧ Hid (Tb wr W.heap.size (fun i => W.heap.size + 1 + i) a.size b.size (fun i' => i' < i) (fun _ _ => 0)) ∧ Hid (Below W.heap.size W wr)
def LbR (a b : ByteArray) (W : World) (iv : Value) (wr : World) : Prop := ∃ i : Nat, i ≤ a.size ∧ iv = .int .i64 ((i : Int) - 1) ∧ Hid (Tb wr W.heap.size (fun i => W.heap.size + 1 + i) a.size b.size (fun _ => True) (fG a b i)) ∧ Hid (Below W.heap.size W wr)
def LcR (a b : ByteArray) (i0 : Nat) (W : World) (jv : Value) (wr : World) : Prop := ∃ j : Nat, j ≤ b.size ∧ jv = .int .i64 ((j : Int) - 1) ∧ Hid (Tb wr W.heap.size (fun i => W.heap.size + 1 + i) a.size b.size (fun _ => True) (fF a b i0 j)) ∧ Hid (Below W.heap.size W wr)
def LgP (a b : ByteArray) (W : World) (e : Ending) (w' : World) : Prop := e = .returned (.slice (some ⟨W.heap.size, 0, none⟩) (a.size + 1) (a.size + 1)) ∧ Tb w' W.heap.size (fun i => W.heap.size + 1 + i) a.size b.size (fun _ => True) (T a b) ∧ Below W.heap.size W w'
theorem t_300 {a b : ByteArray} (h : a.size + b.size ≤ 300) (i j : Nat) : T a b i j ≤ 300 := by
  have := t_bound (a := a) (b := b) _ i j (Nat.le_refl _)
  omega
theorem fG_start (a b : ByteArray) {i j : Nat} (_hi : i ≤ a.size) : fG a b (a.size + 1) i j = fG a b a.size i j := by
  rw [fG, if_neg (by omega), fG]
  split
  · exact (t_end (.inl (by omega))).symm
  · rfl
theorem fF_start (a b : ByteArray) {i0 i j : Nat} (_hj : j ≤ b.size) : fG a b (i0 + 1) i j = fF a b i0 b.size i j := by
  rw [fG, fF]
  by_cases h : i0 + 1 ≤ i
  · rw [if_pos h, if_pos (.inl (by omega))]
  · rw [if_neg h]
    split
    · exact (t_end (.inr (by omega))).symm
    · rfl
theorem fF_end (a b : ByteArray) {i0 i j : Nat} : fF a b i0 0 i j = fG a b i0 i j := by
  rw [fG, fF]
  by_cases h : i0 ≤ i
  · rw [if_pos h, if_pos (by omega)]
  · rw [if_neg h, if_neg (by omega)]
theorem fF_step (a b : ByteArray) {i0 j0 i j x : Nat} (hx : x = T a b i0 j0) : (if i = i0 ∧ j = j0 then x else fF a b i0 (j0 + 1) i j) = fF a b i0 j0 i j := by
  by_cases h : i = i0 ∧ j = j0
  · obtain ⟨rfl, rfl⟩ := h
    rw [if_pos ⟨rfl, rfl⟩, fF, if_pos (by omega), hx]
  · rw [if_neg h, fF, fF]
    by_cases q : i0 < i ∨ (i = i0 ∧ j0 + 1 ≤ j)
    · rw [if_pos q, if_pos (by omega)]
    · rw [if_neg q, if_neg (by omega)]
set_option maxRecDepth 100000 in
set_option maxHeartbeats 4000000 in
theorem longest_any (a b : ByteArray) (hs : a.size + b.size ≤ 300) (W : World) :
    Calls Tryd.prog 22 #[.string a, .string b] W (LgP a b W) := by
  have k1 := fun w => run_make1 (P := Tryd.prog) 55 59 (.slice none 0 0) 24 Tryd.underlying55 (by kernel_rfl) rfl (a.size + 1) (by omega) (by omega) w
  have k2 := fun w => run_make1 (P := Tryd.prog) 59 3 (.int .i64 0) 8 Tryd.underlying59 (by kernel_rfl) rfl (b.size + 1) (by omega) (by omega) w
  rw [show ((a.size + 1 : Nat) : Int) = (a.size : Int) + 1 by omega] at k1
  rw [show ((b.size + 1 : Nat) : Int) = (b.size : Int) + 1 by omega] at k2
  have HT0 := Lib.hid (tb_new W 59 a.size b.size (.slice none 0 0) (by omega) (fun _ _ => 0) (fun i => W.heap.size + 1 + i) (fun _ => rfl))
  have HB0 : Hid (Below W.heap.size W (W.alloc (.cells (madeCells #[.slice none 0 0] (a.size + 1)) 59))) := Lib.hid ((Below.refl _ _).alloc (Nat.le_refl _) _)
  have hz0 : (W.alloc (.cells (madeCells #[.slice none 0 0] (a.size + 1)) 59)).heap.size = W.heap.size + 1 + 0 := by simp
  go_enter Tryd.func22, Tryd.ntmps22
  go_wp2_with fail
  generalize W.alloc (.cells (madeCells #[.slice none 0 0] (a.size + 1)) 59) = w0 at *
  go_loopw [15] (fun iv wr => LaR a b W iv wr) (fun iv _ => a.size + 1 - (intOf iv).toNat)
  case atStart => exact ⟨0, Nat.zero_le _, rfl, hz0, Lib.hid (HT0.out.congr (fun _ _ h => absurd h (Nat.not_lt_zero _)) (fun _ _ _ _ _ => rfl)), HB0⟩
  case round =>
    obtain ⟨i, hi, rfl, hz, hT, hB⟩ := hrel
    by_cases hlt : i < a.size + 1
    · have hT1 := hT.out.below ((Below.refl wr.heap.size wr).alloc (Nat.le_refl _) (.cells (madeCells #[.int .i64 0] (b.size + 1)) 3))
      obtain ⟨v0, hv0⟩ := hT1.has i (by omega)
      have hf0 := hT1.free i (by omega)
      have HN := Lib.hid (hT.out.add (by omega) i (by omega) hz.symm 3 (Nat.lt_irrefl i) _ rfl (fun i' => i' < i + 1) (fun i' h => by omega) (fun _ _ => 0) (fun i' j' _ => by split <;> rfl))
      have HBN : Hid (Below W.heap.size W ((wr.alloc (.cells (madeCells #[.int .i64 0] (b.size + 1)) 3)).setCell ⟨W.heap.size, i, none⟩ (.slice (some ⟨wr.heap.size, 0, none⟩) (b.size + 1) (b.size + 1)))) := Lib.hid ((hB.out.alloc hB.out.size _).setCell (p := ⟨W.heap.size, i, none⟩) (Nat.le_refl _) _)
      have i1 : (0 : Int) ≤ (i : Int) := by omega
      have i2 : (i : Int) < (a.size : Int) + 1 := by omega
      clear hT1 HT0 HB0 hz0
      go_wp2_with fail
      go_roundw
      case rel =>
        rw [hz] at HN HBN
        exact ⟨i + 1, by omega, by go_num, by simp; omega, HN, HBN⟩
      case measure => simp [intOf]; omega
    · obtain rfl : i = a.size + 1 := by omega
      have HT2 : Hid (Tb wr W.heap.size (fun i => W.heap.size + 1 + i) a.size b.size (fun _ => True) (fG a b (a.size + 1))) := Lib.hid (hT.out.congr (fun i hi _ => by omega) (fun i j hi _ _ => by rw [fG, if_neg (by omega)]))
      clear HT0 HB0 hz0 hT
      go_wp2_with fail
      go_loopw [7] (fun iv wr => LbR a b W iv wr) (fun iv _ => (intOf iv + 1).toNat)
      case atStart => exact ⟨a.size, Nat.le_refl _, by go_num, Lib.hid (HT2.out.congr (fun _ _ _ => trivial) (fun i j hi hj _ => fG_start a b hi)), hB⟩
      case round =>
        obtain ⟨i, hi, hiv, hT, hB⟩ := hrel
        rcases i with _ | i0
        · replace hiv := hiv.trans (congrArg (Value.int .i64) (show ((0 : Nat) : Int) - 1 = -1 by omega)); subst hiv
          have HE := Lib.hid (hT.out.congr (R' := fun _ => True) (fun _ _ _ => trivial) (f' := T a b) (fun i j _ _ _ => by rw [fG, if_pos (Nat.zero_le _)]))
          clear HT2 hT
          go_wp2_with fail
          go_ret
          exact ⟨rfl, HE.out, hB.out⟩
        · replace hiv := hiv.trans (congrArg (Value.int .i64) (show ((i0 + 1 : Nat) : Int) - 1 = (i0 : Int) by omega)); subst hiv
          have i1 : (0 : Int) ≤ (i0 : Int) := by omega
          clear HT2
          go_wp2_with fail
          go_loopw [8] (fun jv wr => LcR a b i0 W jv wr) (fun jv _ => (intOf jv + 1).toNat)
          case atStart => exact ⟨b.size, Nat.le_refl _, by go_num, Lib.hid (hT.out.congr (fun _ _ _ => trivial) (fun i j hi hj _ => fF_start a b hj)), hB⟩
          case round =>
            obtain ⟨j, hj, hjv, hT, hB⟩ := hrel
            rcases j with _ | j0
            · replace hjv := hjv.trans (congrArg (Value.int .i64) (show ((0 : Nat) : Int) - 1 = -1 by omega)); subst hjv
              have HE := Lib.hid (hT.out.congr (R' := fun _ => True) (fun _ _ _ => trivial) (f' := fG a b i0) (fun i j _ _ _ => fF_end a b))
              clear hT
              go_wp2_with fail
              go_roundw
              case rel => exact ⟨i0, by omega, by go_num, HE, hB⟩
              case measure => simp [intOf]
            · replace hjv := hjv.trans (congrArg (Value.int .i64) (show ((j0 + 1 : Nat) : Int) - 1 = (j0 : Int) by omega)); subst hjv
              have j1 : (0 : Int) ≤ (j0 : Int) := by omega
              have c1 : i0 < a.size := by omega
              have c2 : j0 < b.size := by omega
              have c1' : (i0 : Int) < (a.size : Int) := by omega
              have c2' : (j0 : Int) < (b.size : Int) := by omega
              have b1 := Lib.hid (byteAt_eq a i0 c1)
              have b2 := Lib.hid (byteAt_eq b j0 c2)
              by_cases e : byteAt a i0 = byteAt b j0
              · have e1 : ((a[i0].toNat : Int) == (b[j0].toNat : Int)) = true := by rw [b1.out, b2.out, e, beq_iff_eq]
                go_wp2_with fail
                go_quiet (fail)
                have hT := Lib.hid (hT.out.drewN nq)
                have hB : Hid (Below W.heap.size W (wr.drewN nq)) := Lib.hid (below_drewN hB.out nq)
                generalize wr.drewN nq = wd at *
                have r0 := hT.out.out i0 (by omega) trivial
                have r1 := hT.out.out (i0 + 1) (by omega) trivial
                obtain ⟨hq0, q1⟩ := hT.out.row i0 (by omega) trivial j0 (by omega)
                have d1 := (hT.out.row i0 (by omega) trivial (j0 + 1) (by omega)).1
                have d2 := (hT.out.row (i0 + 1) (by omega) trivial j0 (by omega)).1
                have d3 := (hT.out.row (i0 + 1) (by omega) trivial (j0 + 1) (by omega)).1
                rw [show fF a b i0 (j0 + 1) i0 (j0 + 1) = T a b i0 (j0 + 1) from if_pos (by omega)] at d1
                rw [show fF a b i0 (j0 + 1) (i0 + 1) j0 = T a b (i0 + 1) j0 from if_pos (by omega)] at d2
                rw [show fF a b i0 (j0 + 1) (i0 + 1) (j0 + 1) = T a b (i0 + 1) (j0 + 1) from if_pos (by omega)] at d3
                have z1 := t_300 hs i0 (j0 + 1)
                have z2 := t_300 hs (i0 + 1) j0
                have z3 := t_300 hs (i0 + 1) (j0 + 1)
                have HS : ∀ x : Nat, x = T a b i0 j0 → Hid (Tb (wd.setCell ⟨W.heap.size + 1 + i0, j0, none⟩ (.int .i64 (x : Nat))) W.heap.size (fun i => W.heap.size + 1 + i) a.size b.size (fun _ => True) (fF a b i0 j0)) := fun x hx => Lib.hid ((hT.out.set i0 j0 (by omega) trivial (by omega) x _ rfl).congr (fun _ _ _ => trivial) (fun i j _ _ _ => fF_step a b hx))
                have HBN : ∀ x : Nat, Hid (Below W.heap.size W (wd.setCell ⟨W.heap.size + 1 + i0, j0, none⟩ (.int .i64 (x : Nat)))) := fun x => Lib.hid (hB.out.setCell (p := ⟨W.heap.size + 1 + i0, j0, none⟩) (by simp; omega) _)
                have HT3 := HS _ (t_eq c1 c2 e).symm
                have HB3 := HBN (T a b (i0 + 1) (j0 + 1) + 1)
                clear hT HS HBN hB d1 d2 z1 z2
                obtain ⟨i2, hi2⟩ : ∃ i2 : Nat, i2 = i0 + 1 := ⟨_, rfl⟩
                obtain ⟨j2, hj2⟩ : ∃ j2 : Nat, j2 = j0 + 1 := ⟨_, rfl⟩
                have y1 : (i0 : Int) + 1 = (i2 : Int) := by omega
                have y2 : (j0 : Int) + 1 = (j2 : Int) := by omega
                have w1 : IntKind.i64.wrap ((i0 : Int) + 1) = (i2 : Int) := by rw [y1, IntKind.wrap_i64]; omega
                have w2 : IntKind.i64.wrap ((j0 : Int) + 1) = (j2 : Int) := by rw [y2, IntKind.wrap_i64]; omega
                have m1 : (i0 : Int) < (a.size : Int) + 1 := by omega
                have m2 : (i2 : Int) < (a.size : Int) + 1 := by omega
                have m3 : (0 : Int) ≤ (i2 : Int) := by omega
                have n1 : (j0 : Int) < (b.size : Int) + 1 := by omega
                have n2 : (j2 : Int) < (b.size : Int) + 1 := by omega
                have n3 : (0 : Int) ≤ (j2 : Int) := by omega
                rw [← hi2] at r1 d3 z3 HT3 HB3
                rw [← hj2] at d3 z3 HT3 HB3
                clear hi2 hj2 y1 y2
                obtain ⟨v0, q0⟩ : ∃ v, wd.cell? ⟨W.heap.size + 1 + i0, j0, none⟩ = some v := ⟨_, hq0⟩
                clear hq0
                go_wp2_with fail
                go_still_tail 16, (by kernel_rfl)
                have hT4 : Hid (Tb (wd.drew.setCell ⟨W.heap.size + 1 + i0, j0, none⟩ (.int .i64 (T a b i2 j2 + 1 : Nat))) W.heap.size (fun i => W.heap.size + 1 + i) a.size b.size (fun _ => True) (fF a b i0 j0)) := Lib.hid HT3.out.drew
                have hB4 : Hid (Below W.heap.size W (wd.drew.setCell ⟨W.heap.size + 1 + i0, j0, none⟩ (.int .i64 (T a b i2 j2 + 1 : Nat)))) := Lib.hid (below_drewN HB3.out 1)
                clear HT3 HB3
                go_wp2_with fail
                go_roundw
                case rel => first | exact ⟨j0, by omega, by go_num, hT4, hB4⟩ | ((repeat apply Exists.intro); exact ⟨⟨j0, by omega, by go_num, hT4, hB4⟩, rfl⟩)
                case measure => simp [intOf]
              · have e1 : ((a[i0].toNat : Int) == (b[j0].toNat : Int)) = false := by rw [b1.out, b2.out, beq_eq_false_iff_ne]; omega
                go_wp2_with fail
                go_quiet (fail)
                have hT := Lib.hid (hT.out.drewN nq)
                have hB : Hid (Below W.heap.size W (wr.drewN nq)) := Lib.hid (below_drewN hB.out nq)
                generalize wr.drewN nq = wd at *
                have r0 := hT.out.out i0 (by omega) trivial
                have r1 := hT.out.out (i0 + 1) (by omega) trivial
                obtain ⟨hq0, q1⟩ := hT.out.row i0 (by omega) trivial j0 (by omega)
                have d1 := (hT.out.row i0 (by omega) trivial (j0 + 1) (by omega)).1
                have d2 := (hT.out.row (i0 + 1) (by omega) trivial j0 (by omega)).1
                have d3 := (hT.out.row (i0 + 1) (by omega) trivial (j0 + 1) (by omega)).1
                rw [show fF a b i0 (j0 + 1) i0 (j0 + 1) = T a b i0 (j0 + 1) from if_pos (by omega)] at d1
                rw [show fF a b i0 (j0 + 1) (i0 + 1) j0 = T a b (i0 + 1) j0 from if_pos (by omega)] at d2
                rw [show fF a b i0 (j0 + 1) (i0 + 1) (j0 + 1) = T a b (i0 + 1) (j0 + 1) from if_pos (by omega)] at d3
                have z1 := t_300 hs i0 (j0 + 1)
                have z2 := t_300 hs (i0 + 1) j0
                have z3 := t_300 hs (i0 + 1) (j0 + 1)
                have HS : ∀ x : Nat, x = T a b i0 j0 → Hid (Tb (wd.setCell ⟨W.heap.size + 1 + i0, j0, none⟩ (.int .i64 (x : Nat))) W.heap.size (fun i => W.heap.size + 1 + i) a.size b.size (fun _ => True) (fF a b i0 j0)) := fun x hx => Lib.hid ((hT.out.set i0 j0 (by omega) trivial (by omega) x _ rfl).congr (fun _ _ _ => trivial) (fun i j _ _ _ => fF_step a b hx))
                have HBN : ∀ x : Nat, Hid (Below W.heap.size W (wd.setCell ⟨W.heap.size + 1 + i0, j0, none⟩ (.int .i64 (x : Nat)))) := fun x => Lib.hid (hB.out.setCell (p := ⟨W.heap.size + 1 + i0, j0, none⟩) (by simp; omega) _)
                have HT3 := HS _ (t_ne c1 c2 e).symm
                have HB3 := HBN (max (T a b (i0 + 1) j0) (T a b i0 (j0 + 1)))
                clear hT HS HBN hB d3 z3
                obtain ⟨i2, hi2⟩ : ∃ i2 : Nat, i2 = i0 + 1 := ⟨_, rfl⟩
                obtain ⟨j2, hj2⟩ : ∃ j2 : Nat, j2 = j0 + 1 := ⟨_, rfl⟩
                have y1 : (i0 : Int) + 1 = (i2 : Int) := by omega
                have y2 : (j0 : Int) + 1 = (j2 : Int) := by omega
                have w1 : IntKind.i64.wrap ((i0 : Int) + 1) = (i2 : Int) := by rw [y1, IntKind.wrap_i64]; omega
                have w2 : IntKind.i64.wrap ((j0 : Int) + 1) = (j2 : Int) := by rw [y2, IntKind.wrap_i64]; omega
                have m1 : (i0 : Int) < (a.size : Int) + 1 := by omega
                have m2 : (i2 : Int) < (a.size : Int) + 1 := by omega
                have m3 : (0 : Int) ≤ (i2 : Int) := by omega
                have n1 : (j0 : Int) < (b.size : Int) + 1 := by omega
                have n2 : (j2 : Int) < (b.size : Int) + 1 := by omega
                have n3 : (0 : Int) ≤ (j2 : Int) := by omega
                rw [← hi2] at r1 d2 z2 HT3 HB3
                rw [← hj2] at d1 z1 HT3 HB3
                clear hi2 hj2 y1 y2
                obtain ⟨v0, q0⟩ : ∃ v, wd.cell? ⟨W.heap.size + 1 + i0, j0, none⟩ = some v := ⟨_, hq0⟩
                clear hq0
                go_wp2_with fail
                go_still_tail 23, (by kernel_rfl)
                have hT4 : Hid (Tb (wd.drew.setCell ⟨W.heap.size + 1 + i0, j0, none⟩ (.int .i64 (max (T a b i2 j0) (T a b i0 j2) : Nat))) W.heap.size (fun i => W.heap.size + 1 + i) a.size b.size (fun _ => True) (fF a b i0 j0)) := Lib.hid HT3.out.drew
                have hB4 : Hid (Below W.heap.size W (wd.drew.setCell ⟨W.heap.size + 1 + i0, j0, none⟩ (.int .i64 (max (T a b i2 j0) (T a b i0 j2) : Nat)))) := Lib.hid (below_drewN HB3.out 1)
                clear HT3 HB3
                by_cases h : T a b i2 j0 < T a b i0 j2
                · rw [Nat.max_eq_right (Nat.le_of_lt h)] at hT4 hB4
                  go_wp2_with fail
                  go_roundw
                  case rel => first | exact ⟨j0, by omega, by go_num, hT4, hB4⟩ | ((repeat apply Exists.intro); exact ⟨⟨j0, by omega, by go_num, hT4, hB4⟩, rfl⟩)
                  case measure => simp [intOf] <;> omega
                · rw [Nat.max_eq_left (Nat.le_of_not_lt h)] at hT4 hB4
                  go_wp2_with fail
                  go_roundw
                  case rel => first | exact ⟨j0, by omega, by go_num, hT4, hB4⟩ | ((repeat apply Exists.intro); exact ⟨⟨j0, by omega, by go_num, hT4, hB4⟩, rfl⟩)
                  case measure => simp [intOf] <;> omega
end Go.Proofs.YtjicnffafhbmbaaDoor.My
