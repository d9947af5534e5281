/-
  PROVED HERE: the contract of diff.Edits. Conditions: as each theorem states.
-/
import Derived.Test.YtjicnffafhbmbaaDoorMyN
import Derived.Deep.DeepCutAuto
import Derived.Deep.CutBlock
namespace Go.Proofs.YtjicnffafhbmbaaDoor.My
open Go.RowKit
set_option maxRecDepth 100000 in
set_option maxHeartbeats 4000000 in
theorem edits_any (a b : ByteArray) (hs : a.size + b.size ≤ 300) (W : World) :
    Calls Tryd.prog 11 #[.string a, .string b] W (EdP a b W) := by
  have HL := Lib.hid (longest_any a b hs W)
  go_enter Tryd.func11, Tryd.ntmps11
  go_wp2_with (go_at_call 22; (with_reducible refine (HL.out).mono ?_); rintro e w2 ⟨rfl, hT, hB⟩; have hTH := Lib.hid hT; have hBH := Lib.hid hB; clear hT hB)
  go_loopw [7, 8, 9] (fun lv iv jv wr => EdR a b w2 lv iv jv wr) (fun _ iv jv _ => a.size + b.size - (intOf iv).toNat - (intOf jv).toNat)
  case atStart => exact ⟨0, 0, [], Nat.zero_le _, Nat.zero_le _, rfl, rfl, Lib.hid (ownE_nil _ _), Lib.hid acc_nil, Lib.hid rfl, Lib.hid (Below.refl _ _)⟩
  case round =>
    obtain ⟨i, j, acc, hi, hj, rfl, rfl, hO, hA, hF, hBw⟩ := hrel
    by_cases hl : i < a.size ∨ j < b.size
    · by_cases h1 : sames a b i j
      · obtain ⟨c1, c2, e⟩ := id h1
        have c1' : (i : Int) < (a.size : Int) := by omega
        have c2' : (j : Int) < (b.size : Int) := by omega
        have b1 := Lib.hid (byteAt_eq a i c1)
        have b2 := Lib.hid (byteAt_eq b j c2)
        have i0 : (0 : Int) ≤ (i : Int) := by omega
        have j0 : (0 : Int) ≤ (j : Int) := by omega
        have e1 : ((a[i].toNat : Int) == (b[j].toNat : Int)) = true := by rw [b1.out, b2.out, e, beq_iff_eq]
        have HFN := Lib.hid (show (steps a b (i + 1) (j + 1)).foldl addE (addE acc ⟨1, 1, ⟨#[]⟩⟩) = (steps a b 0 0).foldl addE [] by rw [← hF.out, steps_same h1]; rfl)
        have HAN : Hid (AccOk (addE acc ⟨1, 1, ⟨#[]⟩⟩) (i + 1 + (j + 1))) := Lib.hid (by have h := acc_add (e := ⟨1, 1, ⟨#[]⟩⟩) hA.out ⟨by decide, by decide⟩ (by decide); exact ⟨by have := h.1; omega, fun q hq => by have := h.2 q hq; exact ⟨⟨this.1.1, by have := this.1.2; omega⟩, by have := this.2; omega⟩⟩)
        clear hl h1 e hF
        go_wp2_with fail
        go_quiet (fail)
        have hO2 : Hid (OwnE (wr.drewN nq) w2.heap.size _ acc) := hO
        have hB2 : Hid (Below w2.heap.size w2 (wr.drewN nq)) := Lib.hid (below_drewN hBw.out nq)
        generalize wr.drewN nq = wd at *
        have HA := Lib.hid (add_any _ acc 1 1 ⟨#[]⟩ wd w2.heap.size hO2.out hB2.out.size (by have := hA.out.1; omega) ⟨by decide, by decide⟩ (by decide) (fun q hq => by have := hA.out.2 q hq; exact ⟨⟨this.1.1, by have := this.1.2; omega⟩, by have := this.2; omega⟩))
        go_wp2_with (go_at_call 23; (with_reducible refine (HA.out).mono ?_); rintro e w3 ⟨v3, rfl, ho, hb⟩; have HO3 := Lib.hid ho; have HB3 := Lib.hid (hB2.out.trans hb); clear ho hb)
        go_roundw
        case rel => first | exact ⟨i + 1, j + 1, _, c1, c2, by go_num, by go_num, HO3, HAN, HFN, HB3⟩ | ((repeat apply Exists.intro); exact ⟨⟨i + 1, j + 1, _, c1, c2, by go_num, by go_num, HO3, HAN, HFN, HB3⟩, rfl⟩)
        case measure => simp [intOf]; omega
      · by_cases c1 : i < a.size
        · have c1' : (i : Int) < (a.size : Int) := by omega
          have i0 : (0 : Int) ≤ (i : Int) := by omega
          have j0 : (0 : Int) ≤ (j : Int) := by omega
          by_cases c2 : j < b.size
          · have c2' : (j : Int) < (b.size : Int) := by omega
            have b1 := Lib.hid (byteAt_eq a i c1)
            have b2 := Lib.hid (byteAt_eq b j c2)
            have e1 : ((a[i].toNat : Int) == (b[j].toNat : Int)) = false := by rw [b1.out, b2.out, beq_eq_false_iff_ne]; exact fun q => h1 ⟨c1, c2, by omega⟩
            have e2 : ((j : Int) == (b.size : Int)) = false := by rw [beq_eq_false_iff_ne]; omega
            by_cases g : T a b i (j + 1) ≤ T a b (i + 1) j
            · have HFN := Lib.hid (show (steps a b (i + 1) j).foldl addE (addE acc ⟨2, 1, ⟨#[]⟩⟩) = (steps a b 0 0).foldl addE [] by rw [← hF.out, steps_out h1 ⟨c1, .inr g⟩]; rfl)
              have HAN : Hid (AccOk (addE acc ⟨2, 1, ⟨#[]⟩⟩) (i + 1 + j)) := Lib.hid (by have h := acc_add (e := ⟨2, 1, ⟨#[]⟩⟩) hA.out ⟨by decide, by decide⟩ (by decide); exact ⟨by have := h.1; omega, fun q hq => by have := h.2 q hq; exact ⟨⟨this.1.1, by have := this.1.2; omega⟩, by have := this.2; omega⟩⟩)
              clear hl h1 hF
              go_wp2_with fail
              go_quiet (fail)
              have hO1 : Hid (OwnE (wr.drewN nq) w2.heap.size _ acc) := hO
              have hB1 : Hid (Below w2.heap.size w2 (wr.drewN nq)) := Lib.hid (below_drewN hBw.out nq)
              generalize wr.drewN nq = wz at *
              have hT := hTH.out.below hB1.out
              have r0 := hT.out i (by omega) trivial
              have r1 := hT.out (i + 1) (by omega) trivial
              have d1 := (hT.row i (by omega) trivial (j + 1) (by omega)).1
              have d2 := (hT.row (i + 1) (by omega) trivial j (by omega)).1
              obtain ⟨i2, hi2⟩ : ∃ i2 : Nat, i2 = i + 1 := ⟨_, rfl⟩
              obtain ⟨j2, hj2⟩ : ∃ j2 : Nat, j2 = j + 1 := ⟨_, rfl⟩
              have v1 : IntKind.i64.wrap ((i : Int) + 1) = (i2 : Int) := by rw [show (i : Int) + 1 = (i2 : Int) by omega, IntKind.wrap_i64]; omega
              have v2 : IntKind.i64.wrap ((j : Int) + 1) = (j2 : Int) := by rw [show (j : Int) + 1 = (j2 : Int) by omega, IntKind.wrap_i64]; omega
              have m1 : (i : Int) < (a.size : Int) + 1 := by omega
              have m2 : (i2 : Int) < (a.size : Int) + 1 := by omega
              have m3 : (0 : Int) ≤ (i2 : Int) := by omega
              have n1 : (j : Int) < (b.size : Int) + 1 := by omega
              have n2 : (j2 : Int) < (b.size : Int) + 1 := by omega
              have n3 : (0 : Int) ≤ (j2 : Int) := by omega
              have k1 : j ≤ j2 := by omega
              have k2 : (j2 : Int) ≤ (b.size : Int) := by omega
              have k3 : (j : Int) ≤ (j2 : Int) := by omega
              clear hT
              have g1 : decide (T a b i (j + 1) ≤ T a b (i + 1) j) = true := decide_eq_true g
              rw [← hi2] at r1 d2 g g1 HFN HAN
              rw [← hj2] at d1 g g1
              have HI2 := Lib.hid hi2
              have HJ2 := Lib.hid hj2
              clear hi2 hj2
              go_wp2_with fail
              go_quiet (fail)
              have hO2 : Hid (OwnE (wz.drewN nq) w2.heap.size _ acc) := hO1
              have hB2 : Hid (Below w2.heap.size w2 (wz.drewN nq)) := Lib.hid (below_drewN hB1.out nq)
              generalize wz.drewN nq = wd at *
              have HA := Lib.hid (add_any _ acc 2 1 ⟨#[]⟩ wd w2.heap.size hO2.out hB2.out.size (by have := hA.out.1; omega) ⟨by decide, by decide⟩ (by decide) (fun q hq => by have := hA.out.2 q hq; exact ⟨⟨this.1.1, by have := this.1.2; omega⟩, by have := this.2; omega⟩))
              go_wp2_with (go_at_call 23; (with_reducible refine (HA.out).mono ?_); rintro e w3 ⟨v3, rfl, ho, hb⟩; have HO3 := Lib.hid ho; have HB3 := Lib.hid (hB2.out.trans hb); clear ho hb)
              go_roundw
              case rel => first | exact ⟨i2, j, _, by omega, by omega, by go_num, by go_num, HO3, HAN, HFN, HB3⟩ | ((repeat apply Exists.intro); exact ⟨⟨i2, j, _, by omega, by omega, by go_num, by go_num, HO3, HAN, HFN, HB3⟩, rfl⟩)
              case measure =>
                have := HI2.out
                have := HJ2.out
                simp [intOf]; omega
            · have HFN := Lib.hid (show (steps a b i (j + 1)).foldl addE (addE acc ⟨3, 0, b.extract j (j + 1)⟩) = (steps a b 0 0).foldl addE [] by rw [← hF.out, steps_in h1 (fun q => g (q.2.resolve_left (by omega))) c2]; rfl)
              have HAN : Hid (AccOk (addE acc ⟨3, 0, b.extract j (j + 1)⟩) (i + (j + 1))) := Lib.hid (by have h := acc_add (e := ⟨3, 0, b.extract j (j + 1)⟩) hA.out ⟨by first | decide | (show (0 : Int) ≤ 0; omega), by first | decide | (show (0 : Int) ≤ 1; omega)⟩ (by first | decide | (show (b.extract j (j + 1)).size ≤ 1; rw [ByteArray.size_extract]; omega)); exact ⟨by have := h.1; omega, fun q hq => by have := h.2 q hq; exact ⟨⟨this.1.1, by have := this.1.2; omega⟩, by have := this.2; omega⟩⟩)
              have ht : (b.extract j (j + 1)).size ≤ 400 := by rw [ByteArray.size_extract]; omega
              have j1 : (j : Int) + 1 ≤ (b.size : Int) := by omega
              clear hl h1 hF
              go_wp2_with fail
              go_quiet (fail)
              have hO1 : Hid (OwnE (wr.drewN nq) w2.heap.size _ acc) := hO
              have hB1 : Hid (Below w2.heap.size w2 (wr.drewN nq)) := Lib.hid (below_drewN hBw.out nq)
              generalize wr.drewN nq = wz at *
              have hT := hTH.out.below hB1.out
              have r0 := hT.out i (by omega) trivial
              have r1 := hT.out (i + 1) (by omega) trivial
              have d1 := (hT.row i (by omega) trivial (j + 1) (by omega)).1
              have d2 := (hT.row (i + 1) (by omega) trivial j (by omega)).1
              obtain ⟨i2, hi2⟩ : ∃ i2 : Nat, i2 = i + 1 := ⟨_, rfl⟩
              obtain ⟨j2, hj2⟩ : ∃ j2 : Nat, j2 = j + 1 := ⟨_, rfl⟩
              have v1 : IntKind.i64.wrap ((i : Int) + 1) = (i2 : Int) := by rw [show (i : Int) + 1 = (i2 : Int) by omega, IntKind.wrap_i64]; omega
              have v2 : IntKind.i64.wrap ((j : Int) + 1) = (j2 : Int) := by rw [show (j : Int) + 1 = (j2 : Int) by omega, IntKind.wrap_i64]; omega
              have m1 : (i : Int) < (a.size : Int) + 1 := by omega
              have m2 : (i2 : Int) < (a.size : Int) + 1 := by omega
              have m3 : (0 : Int) ≤ (i2 : Int) := by omega
              have n1 : (j : Int) < (b.size : Int) + 1 := by omega
              have n2 : (j2 : Int) < (b.size : Int) + 1 := by omega
              have n3 : (0 : Int) ≤ (j2 : Int) := by omega
              have k1 : j ≤ j2 := by omega
              have k2 : (j2 : Int) ≤ (b.size : Int) := by omega
              have k3 : (j : Int) ≤ (j2 : Int) := by omega
              clear hT
              have g1 : decide (T a b i (j + 1) ≤ T a b (i + 1) j) = false := decide_eq_false g
              rw [← hi2] at r1 d2 g g1
              rw [← hj2] at d1 g g1 HFN HAN ht
              have HI2 := Lib.hid hi2
              have HJ2 := Lib.hid hj2
              clear hi2 hj2
              go_wp2_with fail
              go_quiet (fail)
              have hO2 : Hid (OwnE (wz.drewN nq) w2.heap.size _ acc) := hO1
              have hB2 : Hid (Below w2.heap.size w2 (wz.drewN nq)) := Lib.hid (below_drewN hB1.out nq)
              generalize wz.drewN nq = wd at *
              have HA := Lib.hid (add_any _ acc 3 0 (b.extract j j2) wd w2.heap.size hO2.out hB2.out.size (by have := hA.out.1; omega) ⟨by decide, by decide⟩ ht (fun q hq => by have := hA.out.2 q hq; exact ⟨⟨this.1.1, by have := this.1.2; omega⟩, by have := this.2; omega⟩))
              go_wp2_with (go_at_call 23; (with_reducible refine (HA.out).mono ?_); rintro e w3 ⟨v3, rfl, ho, hb⟩; have HO3 := Lib.hid ho; have HB3 := Lib.hid (hB2.out.trans hb); clear ho hb)
              go_roundw
              case rel => first | exact ⟨i, j2, _, by omega, by omega, by go_num, by go_num, HO3, HAN, HFN, HB3⟩ | ((repeat apply Exists.intro); exact ⟨⟨i, j2, _, by omega, by omega, by go_num, by go_num, HO3, HAN, HFN, HB3⟩, rfl⟩)
              case measure =>
                have := HI2.out
                have := HJ2.out
                simp [intOf]; omega
          · have c2' : ((j : Int) == (b.size : Int)) = true := by rw [beq_iff_eq]; omega
            have c3 : (b.size : Int) ≤ (j : Int) := by omega
            have HFN := Lib.hid (show (steps a b (i + 1) j).foldl addE (addE acc ⟨2, 1, ⟨#[]⟩⟩) = (steps a b 0 0).foldl addE [] by rw [← hF.out, steps_out h1 ⟨c1, .inl (by omega)⟩]; rfl)
            have HAN : Hid (AccOk (addE acc ⟨2, 1, ⟨#[]⟩⟩) (i + 1 + j)) := Lib.hid (by have h := acc_add (e := ⟨2, 1, ⟨#[]⟩⟩) hA.out ⟨by decide, by decide⟩ (by decide); exact ⟨by have := h.1; omega, fun q hq => by have := h.2 q hq; exact ⟨⟨this.1.1, by have := this.1.2; omega⟩, by have := this.2; omega⟩⟩)
            clear hl h1 hF
            go_wp2_with fail
            have q1 : decide (j < b.size) = false := decide_eq_false c2
            go_quiet (fail)
            have hO1 : Hid (OwnE (wr.drewN nq) w2.heap.size _ acc) := hO
            have hB1 : Hid (Below w2.heap.size w2 (wr.drewN nq)) := Lib.hid (below_drewN hBw.out nq)
            generalize wr.drewN nq = wz at *
            go_wp2_with fail
            go_quiet (fail)
            have hO2 : Hid (OwnE (wz.drewN nq) w2.heap.size _ acc) := hO1
            have hB2 : Hid (Below w2.heap.size w2 (wz.drewN nq)) := Lib.hid (below_drewN hB1.out nq)
            generalize wz.drewN nq = wd at *
            have HA := Lib.hid (add_any _ acc 2 1 ⟨#[]⟩ wd w2.heap.size hO2.out hB2.out.size (by have := hA.out.1; omega) ⟨by decide, by decide⟩ (by decide) (fun q hq => by have := hA.out.2 q hq; exact ⟨⟨this.1.1, by have := this.1.2; omega⟩, by have := this.2; omega⟩))
            go_wp2_with (go_at_call 23; (with_reducible refine (HA.out).mono ?_); rintro e w3 ⟨v3, rfl, ho, hb⟩; have HO3 := Lib.hid ho; have HB3 := Lib.hid (hB2.out.trans hb); clear ho hb)
            go_roundw
            case rel => first | exact ⟨i + 1, j, _, by omega, by omega, by go_num, by go_num, HO3, HAN, HFN, HB3⟩ | ((repeat apply Exists.intro); exact ⟨⟨i + 1, j, _, by omega, by omega, by go_num, by go_num, HO3, HAN, HFN, HB3⟩, rfl⟩)
            case measure => simp [intOf]; omega
        · have c2 : j < b.size := by omega
          have c1' : ¬ ((i : Int) < (a.size : Int)) := by omega
          have c2' : (j : Int) < (b.size : Int) := by omega
          have c3 : (a.size : Int) ≤ (i : Int) := by omega
          have j0 : (0 : Int) ≤ (j : Int) := by omega
          have j1 : (j : Int) + 1 ≤ (b.size : Int) := by omega
          have HFN := Lib.hid (show (steps a b i (j + 1)).foldl addE (addE acc ⟨3, 0, b.extract j (j + 1)⟩) = (steps a b 0 0).foldl addE [] by rw [← hF.out, steps_in h1 (fun q => c1 q.1) c2]; rfl)
          have HAN : Hid (AccOk (addE acc ⟨3, 0, b.extract j (j + 1)⟩) (i + (j + 1))) := Lib.hid (by have h := acc_add (e := ⟨3, 0, b.extract j (j + 1)⟩) hA.out ⟨by first | decide | (show (0 : Int) ≤ 0; omega), by first | decide | (show (0 : Int) ≤ 1; omega)⟩ (by first | decide | (show (b.extract j (j + 1)).size ≤ 1; rw [ByteArray.size_extract]; omega)); exact ⟨by have := h.1; omega, fun q hq => by have := h.2 q hq; exact ⟨⟨this.1.1, by have := this.1.2; omega⟩, by have := this.2; omega⟩⟩)
          have ht : (b.extract j (j + 1)).size ≤ 400 := by rw [ByteArray.size_extract]; omega
          clear hl h1 hF
          go_wp2_with fail
          have q1 : decide (i < a.size) = false := decide_eq_false c1
          go_quiet (fail)
          have hO1 : Hid (OwnE (wr.drewN nq) w2.heap.size _ acc) := hO
          have hB1 : Hid (Below w2.heap.size w2 (wr.drewN nq)) := Lib.hid (below_drewN hBw.out nq)
          generalize wr.drewN nq = wz at *
          go_wp2_with fail
          go_quiet (fail)
          have hO2 : Hid (OwnE (wz.drewN nq) w2.heap.size _ acc) := hO1
          have hB2 : Hid (Below w2.heap.size w2 (wz.drewN nq)) := Lib.hid (below_drewN hB1.out nq)
          generalize wz.drewN nq = wd at *
          have HA := Lib.hid (add_any _ acc 3 0 (b.extract j (j + 1)) wd w2.heap.size hO2.out hB2.out.size (by have := hA.out.1; omega) ⟨by decide, by decide⟩ ht (fun q hq => by have := hA.out.2 q hq; exact ⟨⟨this.1.1, by have := this.1.2; omega⟩, by have := this.2; omega⟩))
          go_wp2_with (go_at_call 23; (with_reducible refine (HA.out).mono ?_); rintro e w3 ⟨v3, rfl, ho, hb⟩; have HO3 := Lib.hid ho; have HB3 := Lib.hid (hB2.out.trans hb); clear ho hb)
          go_roundw
          case rel => first | exact ⟨i, j + 1, _, by omega, by omega, by go_num, by go_num, HO3, HAN, HFN, HB3⟩ | ((repeat apply Exists.intro); exact ⟨⟨i, j + 1, _, by omega, by omega, by go_num, by go_num, HO3, HAN, HFN, HB3⟩, rfl⟩)
          case measure => simp [intOf]; omega
    · have hE := Lib.hid (show (steps a b 0 0).foldl addE [] = acc by rw [← hF.out, steps_end hl]; rfl)
      have q1 : decide (i < a.size) = false := decide_eq_false (by omega)
      have q2 : decide (j < b.size) = false := decide_eq_false (by omega)
      have q3 : ¬ ((i : Int) < (a.size : Int)) := by omega
      have q4 : ¬ ((j : Int) < (b.size : Int)) := by omega
      clear hl
      go_wp2_with fail
      go_ret2
      exact ⟨_, rfl, by rw [hE.out]; exact hO.out.eds, hBH.out.trans (hBw.out.mono hBH.out.size)⟩
end Go.Proofs.YtjicnffafhbmbaaDoor.My
