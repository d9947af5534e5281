/-
  PROVED HERE: the contract of the document's common. Conditions: as each theorem states.
-/
import Derived.Test.YtjicnffafhbmbaaDoorMyG
namespace Go.Proofs.YtjicnffafhbmbaaDoor.My
open Go.RowKit
def gD (a : ByteArray) (W : World) (i : Nat) : Nat := W.heap.size + 1 + (a.size - i)
def HaR (a b : ByteArray) (W : World) (iv : Value) (wr : World) : Prop := ∃ i : Nat, i ≤ a.size + 1 ∧ iv = .int .i64 ((i : Int) - 1) ∧ wr.heap.size = W.heap.size + 1 + (a.size + 1 - i) ∧ Hid (Tb wr W.heap.size (gD a W) a.size b.size (fun i' => i ≤ i') (fG a b i)) ∧ Hid (Below W.heap.size W wr)
def HbR (a b : ByteArray) (i0 : Nat) (W : World) (jv : Value) (wr : World) : Prop := ∃ j : Nat, j ≤ b.size + 1 ∧ jv = .int .i64 ((j : Int) - 1) ∧ wr.heap.size = W.heap.size + 1 + (a.size + 1 - i0) ∧ Hid (Tb wr W.heap.size (gD a W) a.size b.size (fun i' => i0 ≤ i') (fF a b i0 j)) ∧ Hid (Below W.heap.size W wr)
def CoP (a b : ByteArray) (W : World) (e : Ending) (w' : World) : Prop := e = .returned (.slice (some ⟨W.heap.size, 0, none⟩) (a.size + 1) (a.size + 1)) ∧ Tb w' W.heap.size (gD a W) a.size b.size (fun _ => True) (T a b) ∧ Below W.heap.size W w'
def HcR (a b : ByteArray) (i0 j0 x : Nat) (W : World) (wx : World) : Prop := wx.heap.size = W.heap.size + 1 + (a.size + 1 - i0) ∧ Hid (Tb wx W.heap.size (gD a W) a.size b.size (fun i' => i0 ≤ i') (fun i j => if i = i0 ∧ j = j0 then x else fF a b i0 (j0 + 1) i j)) ∧ Hid (Below W.heap.size W wx)
theorem fF_none (a b : ByteArray) {i0 i j : Nat} : fF a b i0 (b.size + 1) i j = if i = i0 then 0 else fG a b (i0 + 1) i j := by
  rw [fG, fF]
  by_cases e : i = i0
  · rw [if_pos e]
    split
    · exact t_end (by omega)
    · rfl
  · rw [if_neg e]
    by_cases h : i0 + 1 ≤ i
    · rw [if_pos h, if_pos (.inl (by omega))]
    · rw [if_neg h, if_neg (by omega)]
theorem fF_skip (a b : ByteArray) {i0 j0 i j : Nat} (h : i0 = a.size ∨ j0 = b.size) : fF a b i0 (j0 + 1) i j = fF a b i0 j0 i j := by
  rw [fF, fF]
  by_cases q : i0 < i ∨ (i = i0 ∧ j0 + 1 ≤ j)
  · rw [if_pos q, if_pos (by omega)]
  · rw [if_neg q]
    split
    · exact (t_end (by omega)).symm
    · rfl
theorem fF_step2 (a b : ByteArray) {i0 j0 i j x y : Nat} (hx : x = T a b i0 j0) : (if i = i0 ∧ j = j0 then x else if i = i0 ∧ j = j0 then y else fF a b i0 (j0 + 1) i j) = fF a b i0 j0 i j := by
  rw [← fF_step a b hx]
  split <;> rfl
set_option maxRecDepth 100000 in
set_option maxHeartbeats 4000000 in
theorem common_any (a b : ByteArray) (hs : a.size + b.size ≤ 300) (W : World) :
    Calls Tryd.prog 16 #[.string a, .string b] W (CoP a b W) := by
  have k1 := fun w => run_make1 (P := Tryd.prog) 55 59 (.slice none 0 0) 24 Tryd.underlying55 (by kernel_rfl) rfl (a.size + 1) (by omega) (by omega) w
  have k2 := fun w => run_make1 (P := Tryd.prog) 59 3 (.int .i64 0) 8 Tryd.underlying59 (by kernel_rfl) rfl (b.size + 1) (by omega) (by omega) w
  rw [show ((a.size + 1 : Nat) : Int) = (a.size : Int) + 1 by omega] at k1
  rw [show ((b.size + 1 : Nat) : Int) = (b.size : Int) + 1 by omega] at k2
  have HT0 : Hid (Tb (W.alloc (.cells (madeCells #[.slice none 0 0] (a.size + 1)) 59)) W.heap.size (gD a W) a.size b.size (fun i' => a.size + 1 ≤ i') (fG a b (a.size + 1))) := by
    have h := tb_new W 59 a.size b.size (.slice none 0 0) (by omega) (fun _ _ => 0) (fun i => W.heap.size + 1 + i) (fun _ => rfl)
    exact Lib.hid ⟨fun i hi h => absurd h (by omega), h.has, h.free, fun i hi h => absurd h (by omega), fun i i' hi hi' e => by rw [gD, gD] at e; omega, fun i hi => by rw [gD]; omega⟩
  have HB0 : Hid (Below W.heap.size W (W.alloc (.cells (madeCells #[.slice none 0 0] (a.size + 1)) 59))) := Lib.hid ((Below.refl _ _).alloc (Nat.le_refl _) _)
  have hz0 : (W.alloc (.cells (madeCells #[.slice none 0 0] (a.size + 1)) 59)).heap.size = W.heap.size + 1 + (a.size + 1 - (a.size + 1)) := by simp
  go_enter Tryd.func16, Tryd.ntmps16
  go_wp2_with fail
  generalize W.alloc (.cells (madeCells #[.slice none 0 0] (a.size + 1)) 59) = w0 at *
  go_loopw [6] (fun iv wr => HaR a b W iv wr) (fun iv _ => (intOf iv + 1).toNat)
  case atStart => exact ⟨a.size + 1, Nat.le_refl _, by first | rfl | exact congrArg (Value.int .i64) (by omega), hz0, HT0, HB0⟩
  case round =>
    obtain ⟨i, hi, hiv, hz, hT, hB⟩ := hrel
    clear HT0 HB0 hz0
    rcases i with _ | i0
    · replace hiv := hiv.trans (congrArg (Value.int .i64) (show ((0 : Nat) : Int) - 1 = -1 by omega)); subst hiv
      have HE := Lib.hid (hT.out.congr (R' := fun _ => True) (fun _ _ _ => Nat.zero_le _) (f' := T a b) (fun i j _ _ _ => by rw [fG, if_pos (Nat.zero_le _)]))
      clear hT
      go_wp2_with fail
      go_ret
      exact ⟨rfl, HE.out, hB.out⟩
    · replace hiv := hiv.trans (congrArg (Value.int .i64) (show ((i0 + 1 : Nat) : Int) - 1 = (i0 : Int) by omega)); subst hiv
      have i1 : (0 : Int) ≤ (i0 : Int) := by omega
      have i2 : (i0 : Int) < (a.size : Int) + 1 := by omega
      have hT1 := hT.out.below ((Below.refl wr.heap.size wr).alloc (Nat.le_refl _) (.cells (madeCells #[.int .i64 0] (b.size + 1)) 3))
      obtain ⟨v0, hv0⟩ := hT1.has i0 (by omega)
      have hf0 := hT1.free i0 (by omega)
      have HN := Lib.hid (hT.out.add (by omega) i0 (by omega) (by rw [gD, hz]; omega) 3 (by omega) _ rfl (fun i' => i0 ≤ i') (fun i' h => by omega) (fF a b i0 (b.size + 1)) (fun i' j' _ => fF_none a b))
      have HBN : Hid (Below W.heap.size W ((wr.alloc (.cells (madeCells #[.int .i64 0] (b.size + 1)) 3)).setCell ⟨W.heap.size, i0, none⟩ (.slice (some ⟨wr.heap.size, 0, none⟩) (b.size + 1) (b.size + 1)))) := Lib.hid ((hB.out.alloc hB.out.size _).setCell (p := ⟨W.heap.size, i0, none⟩) (Nat.le_refl _) _)
      have hzN : ((wr.alloc (.cells (madeCells #[.int .i64 0] (b.size + 1)) 3)).setCell ⟨W.heap.size, i0, none⟩ (.slice (some ⟨wr.heap.size, 0, none⟩) (b.size + 1) (b.size + 1))).heap.size = W.heap.size + 1 + (a.size + 1 - i0) := by simp; omega
      replace hz : wr.heap.size = W.heap.size + 1 + (a.size - i0) := by rw [hz]; omega
      rw [hz] at HN HBN hzN
      clear hT1 hT hB
      go_wp2_with fail
      generalize (wr.alloc (.cells (madeCells #[.int .i64 0] (b.size + 1)) 3)).setCell ⟨W.heap.size, i0, none⟩ (.slice (some ⟨W.heap.size + 1 + (a.size - i0), 0, none⟩) (b.size + 1) (b.size + 1)) = w5 at *
      clear hf0 hv0 hz
      go_loopw [7] (fun jv wr => HbR a b i0 W jv wr) (fun jv _ => (intOf jv + 1).toNat)
      case atStart => exact ⟨b.size + 1, Nat.le_refl _, by first | rfl | exact congrArg (Value.int .i64) (by omega), hzN, HN, HBN⟩
      case round =>
        obtain ⟨j, hj, hjv, hz, hT, hB⟩ := hrel
        rcases j with _ | j0
        · replace hjv := hjv.trans (congrArg (Value.int .i64) (show ((0 : Nat) : Int) - 1 = -1 by omega)); subst hjv
          have HE := Lib.hid (hT.out.congr (R' := fun i' => i0 ≤ i') (fun _ _ h => h) (f' := fG a b i0) (fun i j _ _ _ => fF_end a b))
          clear hT HN HBN hzN
          go_wp2_with fail
          go_roundw
          case rel => exact ⟨i0, by omega, by go_num, hz, HE, hB⟩
          case measure => simp [intOf]
        · replace hjv := hjv.trans (congrArg (Value.int .i64) (show ((j0 + 1 : Nat) : Int) - 1 = (j0 : Int) by omega)); subst hjv
          have j1 : (0 : Int) ≤ (j0 : Int) := by omega
          clear HN HBN hzN
          by_cases c1 : i0 = a.size
          · have e1 : ((i0 : Int) == (a.size : Int)) = true := by rw [beq_iff_eq]; omega
            have HE := Lib.hid (hT.out.congr (R' := fun i' => i0 ≤ i') (fun _ _ h => h) (f' := fF a b i0 j0) (fun i j _ _ _ => fF_skip a b (.inl c1)))
            clear hT c1
            go_wp2_with fail
            go_roundw
            case rel => first | exact ⟨j0, by omega, by go_num, hz, HE, hB⟩ | ((repeat apply Exists.intro); exact ⟨⟨j0, by omega, by go_num, hz, HE, hB⟩, rfl⟩)
            case measure => simp [intOf] <;> omega
          · have e1 : ((i0 : Int) == (a.size : Int)) = false := by rw [beq_eq_false_iff_ne]; omega
            by_cases c2 : j0 = b.size
            · have e2 : ((j0 : Int) == (b.size : Int)) = true := by rw [beq_iff_eq]; omega
              have HE := Lib.hid (hT.out.congr (R' := fun i' => i0 ≤ i') (fun _ _ h => h) (f' := fF a b i0 j0) (fun i j _ _ _ => fF_skip a b (.inr c2)))
              clear hT c2
              go_wp2_with fail
              go_roundw
              case rel => first | exact ⟨j0, by omega, by go_num, hz, HE, hB⟩ | ((repeat apply Exists.intro); exact ⟨⟨j0, by omega, by go_num, hz, HE, hB⟩, rfl⟩)
              case measure => simp [intOf] <;> omega
            · have e2 : ((j0 : Int) == (b.size : Int)) = false := by rw [beq_eq_false_iff_ne]; omega
              have c3 : i0 < a.size := by omega
              have c4 : j0 < b.size := by omega
              have c3' : (i0 : Int) < (a.size : Int) := by omega
              have c4' : (j0 : Int) < (b.size : Int) := by omega
              clear c1 c2
              go_upto_region 10 with fail
              obtain ⟨X, hX⟩ : ∃ X : Nat, X = max (T a b (i0 + 1) j0) (T a b i0 (j0 + 1)) := ⟨_, rfl⟩
              go_cut [] (fun wx => HcR a b i0 j0 X W wx)
              case first =>
                have r0 := hT.out.out i0 (by omega) (Nat.le_refl _)
                have r1 := hT.out.out (i0 + 1) (by omega) (Nat.le_succ _)
                obtain ⟨hq0, q1⟩ := hT.out.row i0 (by omega) (Nat.le_refl _) j0 (by omega)
                have d1 := (hT.out.row i0 (by omega) (Nat.le_refl _) (j0 + 1) (by omega)).1
                have d2 := (hT.out.row (i0 + 1) (by omega) (Nat.le_succ _) j0 (by omega)).1
                have d3 := (hT.out.row (i0 + 1) (by omega) (Nat.le_succ _) (j0 + 1) (by omega)).1
                have z1 := t_300 hs i0 (j0 + 1)
                have z2 := t_300 hs (i0 + 1) j0
                have z3 := t_300 hs (i0 + 1) (j0 + 1)
                obtain ⟨v0, q0⟩ : ∃ v, wr.cell? ⟨gD a W i0, j0, none⟩ = some v := ⟨_, hq0⟩
                clear hq0 d3 z3
                rw [show fF a b i0 (j0 + 1) i0 (j0 + 1) = T a b i0 (j0 + 1) from if_pos (by omega)] at d1
                rw [show fF a b i0 (j0 + 1) (i0 + 1) j0 = T a b (i0 + 1) j0 from if_pos (by omega)] at d2
                have HS : ∀ x : Nat, x = X → Hid (HcR a b i0 j0 X W (wr.setCell ⟨gD a W i0, j0, none⟩ (.int .i64 (x : Nat))).drew) := fun x hx => Lib.hid ⟨by rw [← hz]; simp, Lib.hid (by subst hx; exact (hT.out.set i0 j0 (by omega) (Nat.le_refl _) (by omega) _ _ rfl).drew), Lib.hid (below_drewN (hB.out.setCell (p := ⟨gD a W i0, j0, none⟩) (by simp only [gD]; omega) _) 1)⟩
                clear hT hB
                obtain ⟨i2, hi2⟩ : ∃ i2 : Nat, i2 = i0 + 1 := ⟨_, rfl⟩
                obtain ⟨j2, hj2⟩ : ∃ j2 : Nat, j2 = j0 + 1 := ⟨_, rfl⟩
                have y1 : (i0 : Int) + 1 = (i2 : Int) := by omega
                have y2 : (j0 : Int) + 1 = (j2 : Int) := by omega
                have w1 : IntKind.i64.wrap ((i0 : Int) + 1) = (i2 : Int) := by rw [y1, IntKind.wrap_i64]; omega
                have w2 : IntKind.i64.wrap ((j0 : Int) + 1) = (j2 : Int) := by rw [y2, IntKind.wrap_i64]; omega
                have m1 : (i0 : Int) < (a.size : Int) + 1 := by omega
                have m2 : (i2 : Int) < (a.size : Int) + 1 := by omega
                have m3 : (0 : Int) ≤ (i2 : Int) := by omega
                have n1 : (j0 : Int) < (b.size : Int) + 1 := by omega
                have n2 : (j2 : Int) < (b.size : Int) + 1 := by omega
                have n3 : (0 : Int) ≤ (j2 : Int) := by omega
                generalize hG0 : gD a W i0 = G0 at *
                generalize hG1 : gD a W (i0 + 1) = G1 at *
                by_cases h : T a b (i0 + 1) j0 < T a b i0 (j0 + 1)
                · have HX := HS (T a b i0 (j0 + 1)) (by rw [hX]; omega)
                  clear HS
                  rw [← hi2] at r1 d2 z2 h
                  rw [← hj2] at d1 z1 h HX
                  clear y1 y2 hi2 hj2 hX
                  go_still_tail 23, (by kernel_rfl)
                  go_wp2_with fail
                  go_meet
                  exact HX.out
                · have HX := HS (T a b (i0 + 1) j0) (by rw [hX]; omega)
                  clear HS
                  rw [← hi2] at r1 d2 z2 h HX
                  rw [← hj2] at d1 z1 h
                  clear y1 y2 hi2 hj2 hX
                  go_still_tail 23, (by kernel_rfl)
                  go_wp2_with fail
                  go_meet
                  exact HX.out
              case rest =>
                obtain ⟨hz, hT, hB⟩ := hcut
                have b1 := Lib.hid (byteAt_eq a i0 c3)
                have b2 := Lib.hid (byteAt_eq b j0 c4)
                by_cases e : byteAt a i0 = byteAt b j0
                · have e3 : ((a[i0].toNat : Int) == (b[j0].toNat : Int)) = true := by rw [b1.out, b2.out, e, beq_iff_eq]
                  go_wp2_with fail
                  go_quiet (fail)
                  have hT := Lib.hid (hT.out.drewN nq)
                  have hB : Hid (Below W.heap.size W (wc.drewN nq)) := Lib.hid (below_drewN hB.out nq)
                  have hz : (wc.drewN nq).heap.size = W.heap.size + 1 + (a.size + 1 - i0) := hz
                  generalize wc.drewN nq = wd at *
                  have r0 := hT.out.out i0 (by omega) (Nat.le_refl _)
                  have r1 := hT.out.out (i0 + 1) (by omega) (Nat.le_succ _)
                  have q1 := (hT.out.row i0 (by omega) (Nat.le_refl _) j0 (by omega)).2
                  have q0 := (hT.out.row i0 (by omega) (Nat.le_refl _) j0 (by omega)).1.trans (congrArg (fun n : Nat => some (Value.int .i64 (n : Int))) (show (if i0 = i0 ∧ j0 = j0 then X else fF a b i0 (j0 + 1) i0 j0) = X from if_pos ⟨rfl, rfl⟩))
                  have d3 := (hT.out.row (i0 + 1) (by omega) (Nat.le_succ _) (j0 + 1) (by omega)).1.trans (congrArg (fun n : Nat => some (Value.int .i64 (n : Int))) (show (if i0 + 1 = i0 ∧ j0 + 1 = j0 then X else fF a b i0 (j0 + 1) (i0 + 1) (j0 + 1)) = T a b (i0 + 1) (j0 + 1) by rw [if_neg (by omega), fF, if_pos (by omega)]))
                  have z3 := t_300 hs (i0 + 1) (j0 + 1)
                  have HM : max X (1 + T a b (i0 + 1) (j0 + 1)) = T a b i0 j0 := by rw [hX]; exact t_doc c3 c4 e
                  have HS : ∀ x : Nat, x = T a b i0 j0 → Hid (Tb (wd.setCell ⟨gD a W i0, j0, none⟩ (.int .i64 (x : Nat))).drew W.heap.size (gD a W) a.size b.size (fun i' => i0 ≤ i') (fF a b i0 j0)) := fun x hx => Lib.hid ((hT.out.set i0 j0 (by omega) (Nat.le_refl _) (by omega) _ _ rfl).congr (fun _ _ h => h) (fun i j _ _ _ => fF_step2 a b hx)).drew
                  have HBS : ∀ x : Nat, Hid (Below W.heap.size W (wd.setCell ⟨gD a W i0, j0, none⟩ (.int .i64 (x : Nat))).drew) := fun x => Lib.hid (below_drewN (hB.out.setCell (p := ⟨gD a W i0, j0, none⟩) (by simp only [gD]; omega) _) 1)
                  have HZS : ∀ x : Nat, (wd.setCell ⟨gD a W i0, j0, none⟩ (.int .i64 (x : Nat))).drew.heap.size = W.heap.size + 1 + (a.size + 1 - i0) := fun x => by rw [← hz]; simp
                  clear hT hB hX b1 b2
                  obtain ⟨i2, hi2⟩ : ∃ i2 : Nat, i2 = i0 + 1 := ⟨_, rfl⟩
                  obtain ⟨j2, hj2⟩ : ∃ j2 : Nat, j2 = j0 + 1 := ⟨_, rfl⟩
                  have y1 : (i0 : Int) + 1 = (i2 : Int) := by omega
                  have y2 : (j0 : Int) + 1 = (j2 : Int) := by omega
                  have w1 : IntKind.i64.wrap ((i0 : Int) + 1) = (i2 : Int) := by rw [y1, IntKind.wrap_i64]; omega
                  have w2 : IntKind.i64.wrap ((j0 : Int) + 1) = (j2 : Int) := by rw [y2, IntKind.wrap_i64]; omega
                  have m1 : (i0 : Int) < (a.size : Int) + 1 := by omega
                  have m2 : (i2 : Int) < (a.size : Int) + 1 := by omega
                  have m3 : (0 : Int) ≤ (i2 : Int) := by omega
                  have n1 : (j0 : Int) < (b.size : Int) + 1 := by omega
                  have n2 : (j2 : Int) < (b.size : Int) + 1 := by omega
                  have n3 : (0 : Int) ≤ (j2 : Int) := by omega
                  generalize hG0 : gD a W i0 = G0 at *
                  generalize hG1 : gD a W (i0 + 1) = G1 at *
                  by_cases h : X < 1 + T a b (i0 + 1) (j0 + 1)
                  · have HX := HS (1 + T a b (i0 + 1) (j0 + 1)) (by omega)
                    have HB5 := HBS (1 + T a b (i0 + 1) (j0 + 1))
                    have HZ5 := HZS (1 + T a b (i0 + 1) (j0 + 1))
                    have hX3 : X ≤ 300 := by omega
                    clear HS HBS HZS HM
                    rw [← hi2] at r1 d3 z3 h HX HB5 HZ5
                    rw [← hj2] at d3 z3 h HX HB5 HZ5
                    clear y1 y2 hi2 hj2
                    go_wp2_with fail
                    go_still_tail 24, (by kernel_rfl)
                    go_wp2_with fail
                    go_roundw
                    case rel => first | exact ⟨j0, by omega, by go_num, HZ5, HX, HB5⟩ | ((repeat apply Exists.intro); exact ⟨⟨j0, by omega, by go_num, HZ5, HX, HB5⟩, rfl⟩)
                    case measure => simp [intOf] <;> omega
                  · have HX := HS X (by omega)
                    have HB5 := HBS X
                    have HZ5 := HZS X
                    have hX3 : X ≤ 300 := by have := t_300 hs i0 j0; omega
                    clear HS HBS HZS HM
                    rw [← hi2] at r1 d3 z3 h
                    rw [← hj2] at d3 z3 h
                    clear y1 y2 hi2 hj2
                    go_wp2_with fail
                    go_still_tail 24, (by kernel_rfl)
                    go_wp2_with fail
                    go_roundw
                    case rel => first | exact ⟨j0, by omega, by go_num, HZ5, HX, HB5⟩ | ((repeat apply Exists.intro); exact ⟨⟨j0, by omega, by go_num, HZ5, HX, HB5⟩, rfl⟩)
                    case measure => simp [intOf] <;> omega
                · have e3 : ((a[i0].toNat : Int) == (b[j0].toNat : Int)) = false := by rw [b1.out, b2.out, beq_eq_false_iff_ne]; omega
                  have HE := Lib.hid (hT.out.congr (R' := fun i' => i0 ≤ i') (fun _ _ h => h) (f' := fF a b i0 j0) (fun i j _ _ _ => fF_step a b (hX.trans (t_ne c3 c4 e).symm)))
                  clear hT
                  go_wp2_with fail
                  go_quiet (fail)
                  have HE2 := Lib.hid (HE.out.drewN nq)
                  have hB2 : Hid (Below W.heap.size W (wc.drewN nq)) := Lib.hid (below_drewN hB.out nq)
                  have hz2 : (wc.drewN nq).heap.size = W.heap.size + 1 + (a.size + 1 - i0) := hz
                  go_wp2_with fail
                  go_roundw
                  case rel => first | exact ⟨j0, by omega, by go_num, hz2, HE2, hB2⟩ | ((repeat apply Exists.intro); exact ⟨⟨j0, by omega, by go_num, hz2, HE2, hB2⟩, rfl⟩)
                  case measure => simp [intOf] <;> omega
end Go.Proofs.YtjicnffafhbmbaaDoor.My
