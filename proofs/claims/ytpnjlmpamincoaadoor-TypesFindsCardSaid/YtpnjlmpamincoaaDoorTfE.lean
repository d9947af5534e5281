/-
  PROVED HERE: the contract of the program's rules. Conditions: as each theorem states.
-/
import Derived.Test.YtpnjlmpamincoaaDoorTfD
namespace Go.Proofs.YtpnjlmpamincoaaDoor.Tm
open Go.RowKit Go.Proofs.YtpnjlmpamincoaaDoor.Lex Go.Proofs.YtpnjlmpamincoaaDoor.Dig
def Ru1R (W : World) (l : List It) (f : Nat → It → Int × Int) (i : Value) (wr : World) : Prop := ∃ k : Nat, i = .int .i64 k ∧ k ≤ l.length ∧ Hid (Below W.heap.size W wr) ∧ Hid (firstOf f l 0 = firstOf f (l.drop k) k)
theorem ru_bad {l : List It} {x : It} {f R : Int × Int} {k : Nat} (h : firstOf (ruleF l) l 0 = if (ruleF l k x).1 ≠ 0 then ruleF l k x else R) (e : ruleF l k x = f) (hf : f.1 ≠ 0) : rulesF l = f := by
  rw [e, if_pos hf] at h
  rw [rulesF_prog, h, if_pos hf]
section
variable {W : World}
set_option maxRecDepth 100000 in
set_option maxHeartbeats 4000000 in
theorem rules_any (v : Value) (l : List It) (C : Nat) (hl : l.length ≤ 16) (h : ItsAt W v l) (hw : ∀ x ∈ l, WfHead x) : Calls Tryd.prog 33 #[.pointer (some ⟨C, 0, none⟩), v] W fun e w' => Out (rulesF l) e w' ∧ Below W.heap.size W w' := by
  obtain ⟨a, cap, rfl, hcap, _⟩ := id h
  have HI := Lib.hid h
  have HW := Lib.hid hw
  obtain ⟨R, hR0⟩ : ∃ R, rulesF l = R := ⟨_, rfl⟩
  rw [hR0]
  have HR := Lib.hid hR0
  clear h hw hR0
  go_enter Tryd.func33, Tryd.ntmps33
  go_wp2_with fail
  go_loopw [11] (fun i wr => Ru1R W l (ruleF l) i wr) (fun i _ => l.length - (intOf i).toNat)
  case atStart => exact ⟨0, rfl, Nat.zero_le _, Lib.hid (Below.refl _ _), Lib.hid rfl⟩
  case round =>
    obtain ⟨k, rfl, hk, hB, hF⟩ := hrel
    by_cases hlt : k < l.length
    · have hI1 := Lib.hid (HI.out.below hB.out)
      obtain ⟨b, o, cv, iv, rfl, hc, _⟩ := its_at hI1.out k hlt
      have i1 : (0 : Int) ≤ (k : Int) := by omega
      have i2 : (k : Int) < (l.length : Int) := by omega
      have hst := Lib.hid (hF.out.trans (firstOf_step hlt))
      have hwh := Lib.hid (HW.out l[k] (List.getElem_mem hlt))
      clear hF
      generalize l[k] = x at *
      have z1 : wr.cell? ⟨b, o + k * 13 + 1, none⟩ = some (.int .i64 (x.at_ : Nat)) := hc 1 _ rfl
      have z4 : wr.cell? ⟨b, o + k * 13 + 4, none⟩ = some (.int .i64 x.width) := hc 4 _ rfl
      have z6 : wr.cell? ⟨b, o + k * 13 + 6, none⟩ = some (.bool x.signed) := hc 6 _ rfl
      have z9 : wr.cell? ⟨b, o + k * 13 + 9, none⟩ = some (.int .i64 x.rule) := hc 9 _ rfl
      have z10 : wr.cell? ⟨b, o + k * 13 + 10, none⟩ = some (.string x.first) := hc 10 _ rfl
      have z11 : wr.cell? ⟨b, o + k * 13 + 11, none⟩ = some (.string x.last) := hc 11 _ rfl
      clear hc
      obtain ⟨ru, hru⟩ : ∃ ru, x.rule = ru := ⟨_, rfl⟩
      rw [hru] at z9
      by_cases h0 : ru = 0
      · subst h0
        have hG := Lib.hid (show firstOf (ruleF l) l 0 = firstOf (ruleF l) (l.drop (k + 1)) (k + 1) by rw [hst.out]; unfold ruleF; rw [if_pos hru]; exact if_neg (fun h => h rfl))
        clear hst hwh
        go_wp2_with fail
        go_roundw
        case rel => exact ⟨k + 1, by go_num, hlt, hB, hG⟩
        case measure => first | (simp [intOf]; done) | (simp [intOf]; omega)
      · have e9 : (ru == 0) = false := by simpa using h0
        have C1 := Lib.hid (find_any (W := wr) _ l hl x.first hI1.out)
        have hA1 := whichI_lt l x.first
        obtain ⟨A, hA⟩ : ∃ A, whichI l x.first = A := ⟨_, rfl⟩
        rw [hA] at C1 hA1
        go_wp2_with fail
        refine (C1.out).mono ?_; rintro e w2 ⟨rfl, hb⟩
        have B2 := Lib.hid (hB.out.trans (hb.mono hB.out.size))
        have I2 := Lib.hid (hI1.out.below hb)
        have K2 := Lib.hid hb
        have v9 := keepCell hb z9
        have HZ9 := Lib.hid z9
        clear hB hI1 C1 hb z9 z10
        go_upto_if 33 with fail
        go_cut [7] (fun v wx => v = .int .i64 (ruleB l x) ∧ Hid (Below W.heap.size W wx) ∧ Hid (Below wr.heap.size wr wx))
        case first =>
          by_cases h3 : ru = 3
          · subst h3
            have y11 : w2.cell? ⟨b, o + k * 13 + 11, none⟩ = some (.string x.last) := keepCell K2.out z11
            have C2 := Lib.hid (find_any (W := w2) _ l hl x.last I2.out)
            have hR : ruleB l x = whichI l x.last := if_pos hru
            clear h0
            go_wp2_with fail
            refine (C2.out).mono ?_; rintro e w3 ⟨rfl, hb⟩
            rw [← hR]
            have B3 := Lib.hid (B2.out.trans (hb.mono B2.out.size))
            have K3 := Lib.hid (K2.out.trans (hb.mono K2.out.size))
            clear hb C2
            go_wp2_with fail
            go_meet
            exact ⟨by rw [hR], B3, K3⟩
          · have e3 : (ru == 3) = false := by simpa using h3
            have hR : ruleB l x = A := by unfold ruleB; rw [if_neg (by rw [hru]; exact h3), hA]
            go_wp2_with fail
            go_meet
            exact ⟨by rw [hR], B2, K2⟩
        case rest =>
          clear B2 I2 v9
          obtain ⟨rfl, B3, K3⟩ := hcut
          have I3 := Lib.hid (HI.out.below B3.out)
          have hB1 : -1 ≤ ruleB l x ∧ ruleB l x < l.length := by
            unfold ruleB
            split
            · exact whichI_lt l x.last
            · exact whichI_lt l x.first
          have hRF := Lib.hid (show ruleF l k x = if A < 0 ∨ ruleB l x < 0 then (7, (x.at_ : Int)) else if (ru = 2 ∧ manyAt l A = false) ∨ (ru = 3 ∧ (x.width ≠ 4 ∨ x.signed = true)) then (13, (x.at_ : Int)) else if ruleB l x < A then (10, (x.at_ : Int)) else if A ≤ k ∧ (k : Int) ≤ ruleB l x then (6, (x.at_ : Int)) else good by unfold ruleF; rw [if_neg (by rw [hru]; exact h0), hA, hru])
          obtain ⟨B, hB'⟩ : ∃ B, ruleB l x = B := ⟨_, rfl⟩
          rw [hB'] at hRF hB1 ⊢
          have v1 := keepCell K3.out z1
          have v4 := keepCell K3.out z4
          have v6 := keepCell K3.out z6
          have v9 := keepCell K3.out HZ9.out
          have hrr := hwh.out.rule
          rw [hru] at hrr
          clear hB' hA hru K3 hwh HZ9 z1 z4 z6 z11 K2
          by_cases hA0 : A < 0
          · have hR := Lib.hid (ru_bad hst.out (hRF.out.trans (if_pos (.inl hA0))) (show (7 : Int) ≠ 0 by decide))
            clear hst hRF
            go_wp2_with fail
            refine (fail_any 7 (x.at_ : Nat)).mono ?_; rintro e w9 ⟨⟨b9, rfl, q0, q1⟩, hb9⟩
            have B9 := Lib.hid (B3.out.trans (hb9.mono B3.out.size))
            have T9 := Lib.hid (show Thr w9 (7, (x.at_ : Int)) _ from ⟨b9, rfl, q0, q1⟩)
            clear hb9 q0 q1
            go_wp2_with fail
            exact ⟨rfl, by rw [← HR.out, hR.out]; exact .inr ⟨show (7 : Int) ≠ 0 by decide, T9.out⟩, B9.out⟩
          by_cases hB0 : B < 0
          · have hR := Lib.hid (ru_bad hst.out (hRF.out.trans (if_pos (.inr hB0))) (show (7 : Int) ≠ 0 by decide))
            clear hst hRF
            go_wp2_with fail
            refine (fail_any 7 (x.at_ : Nat)).mono ?_; rintro e w9 ⟨⟨b9, rfl, q0, q1⟩, hb9⟩
            have B9 := Lib.hid (B3.out.trans (hb9.mono B3.out.size))
            have T9 := Lib.hid (show Thr w9 (7, (x.at_ : Int)) _ from ⟨b9, rfl, q0, q1⟩)
            clear hb9 q0 q1
            go_wp2_with fail
            exact ⟨rfl, by rw [← HR.out, hR.out]; exact .inr ⟨show (7 : Int) ≠ 0 by decide, T9.out⟩, B9.out⟩
          have hRF := Lib.hid (hRF.out.trans (if_neg (fun h => by omega)))
          obtain ⟨a, rfl⟩ : ∃ a : Nat, A = a := ⟨A.toNat, by omega⟩
          obtain ⟨b2, rfl⟩ : ∃ a : Nat, B = a := ⟨B.toNat, by omega⟩
          have ha : a < l.length := by omega
          obtain ⟨b', o', cv', iv', e', hc', _⟩ := its_at I3.out a ha
          injection e' with e'
          injection e' with e1 e2
          subst e1 e2
          have u7 : wc.cell? ⟨b, o + a * 13 + 7, none⟩ = some (.bool l[a].many) := hc' 7 _ rfl
          have hmy : manyAt l (a : Int) = l[a].many := by unfold manyAt; rw [show ((a : Int)).toNat = a by omega, List.getElem?_eq_getElem ha]
          rw [hmy] at hRF
          generalize l[a].many = my at *
          generalize x.signed = sg at *
          generalize x.width = wd at *
          have j1 : (0 : Int) ≤ (a : Int) := by omega
          have j2 : (a : Int) < (l.length : Int) := by omega
          have nA : ¬ (a : Int) < 0 := by omega
          have nB : ¬ (b2 : Int) < 0 := by omega
          clear hc' hA0 hB0 hmy hA1 hB1
          go_upto_region 11 with fail
          go_cut [52] (fun v wx => wx = wc ∧ ∃ b1 : Bool, v = .bool b1 ∧ (b1 = true ↔ ru = 2 ∧ my = false))
          case first =>
            by_cases h2 : ru = 2
            · subst h2
              cases my with
              | true =>
                go_wp2_with fail
                go_meet
                exact ⟨rfl, _, rfl, by simp⟩
              | false =>
                go_wp2_with fail
                go_meet
                exact ⟨rfl, _, rfl, by simp⟩
            · have e2 : (ru == 2) = false := by simpa using h2
              go_wp2_with fail
              go_meet
              exact ⟨rfl, _, rfl, by simp [h2]⟩
          case rest =>
            obtain ⟨rfl, b1, rfl, hb1⟩ := hcut
            go_upto_if 52 with fail
            go_cut [52] (fun v wx => wx = wc ∧ ∃ bb : Bool, v = .bool bb ∧ (bb = true ↔ (ru = 2 ∧ my = false) ∨ (ru = 3 ∧ (wd ≠ 4 ∨ sg = true))))
            case first =>
              cases b1 with
              | true =>
                have hb2 := hb1.1 rfl
                clear hb1
                go_wp2_with fail
                go_meet
                exact ⟨rfl, _, rfl, by simp [hb2]⟩
              | false =>
                have hb2 : ¬ (ru = 2 ∧ my = false) := fun h => by have := hb1.2 h; cases this
                have HB2 := Lib.hid hb2
                clear hb1 hb2
                by_cases h3 : ru = 3
                · subst h3
                  by_cases h4 : wd = 4
                  · subst h4
                    go_wp2_with fail
                    go_meet
                    exact ⟨rfl, _, rfl, by simp⟩
                  · have e4 : (wd != 4) = true := by simpa using h4
                    go_wp2_with fail
                    go_meet
                    exact ⟨rfl, _, rfl, by simp [h4]⟩
                · have e3 : (ru == 3) = false := by simpa using h3
                  go_wp2_with fail
                  go_meet
                  exact ⟨rfl, _, rfl, by have := HB2.out; simp [h3]; simpa using this⟩
            case rest =>
              obtain ⟨rfl, bb, rfl, hbb⟩ := hcut
              cases bb with
              | true =>
                have hR := Lib.hid (ru_bad hst.out (hRF.out.trans (if_pos (hbb.1 rfl))) (show (13 : Int) ≠ 0 by decide))
                clear hst hRF hbb
                go_wp2_with fail
                refine (fail_any 13 (x.at_ : Nat)).mono ?_; rintro e w9 ⟨⟨b9, rfl, q0, q1⟩, hb9⟩
                have B9 := Lib.hid (B3.out.trans (hb9.mono B3.out.size))
                have T9 := Lib.hid (show Thr w9 (13, (x.at_ : Int)) _ from ⟨b9, rfl, q0, q1⟩)
                clear hb9 q0 q1
                go_wp2_with fail
                exact ⟨rfl, by rw [← HR.out, hR.out]; exact .inr ⟨show (13 : Int) ≠ 0 by decide, T9.out⟩, B9.out⟩
              | false =>
                have hRF := Lib.hid (hRF.out.trans (if_neg (fun h => by have := hbb.2 h; cases this)))
                clear hbb
                by_cases hab : b2 < a
                · have d1 : (b2 : Int) < (a : Int) := by omega
                  have hR := Lib.hid (ru_bad hst.out (hRF.out.trans (if_pos d1)) (show (10 : Int) ≠ 0 by decide))
                  clear hst hRF
                  go_wp2_with fail
                  refine (fail_any 10 (x.at_ : Nat)).mono ?_; rintro e w9 ⟨⟨b9, rfl, q0, q1⟩, hb9⟩
                  have B9 := Lib.hid (B3.out.trans (hb9.mono B3.out.size))
                  have T9 := Lib.hid (show Thr w9 (10, (x.at_ : Int)) _ from ⟨b9, rfl, q0, q1⟩)
                  clear hb9 q0 q1
                  go_wp2_with fail
                  exact ⟨rfl, by rw [← HR.out, hR.out]; exact .inr ⟨show (10 : Int) ≠ 0 by decide, T9.out⟩, B9.out⟩
                · have d1 : ¬ (b2 : Int) < (a : Int) := by omega
                  have hRF := Lib.hid (hRF.out.trans (if_neg d1))
                  by_cases hw1 : (a : Int) ≤ (k : Int)
                  · by_cases hw2 : (k : Int) ≤ (b2 : Int)
                    · have hR := Lib.hid (ru_bad hst.out (hRF.out.trans (if_pos ⟨hw1, hw2⟩)) (show (6 : Int) ≠ 0 by decide))
                      clear hst hRF
                      go_wp2_with fail
                      refine (fail_any 6 (x.at_ : Nat)).mono ?_; rintro e w9 ⟨⟨b9, rfl, q0, q1⟩, hb9⟩
                      have B9 := Lib.hid (B3.out.trans (hb9.mono B3.out.size))
                      have T9 := Lib.hid (show Thr w9 (6, (x.at_ : Int)) _ from ⟨b9, rfl, q0, q1⟩)
                      clear hb9 q0 q1
                      go_wp2_with fail
                      exact ⟨rfl, by rw [← HR.out, hR.out]; exact .inr ⟨show (6 : Int) ≠ 0 by decide, T9.out⟩, B9.out⟩
                    · have hG := Lib.hid (show firstOf (ruleF l) l 0 = firstOf (ruleF l) (l.drop (k + 1)) (k + 1) by rw [hst.out, hRF.out.trans (if_neg (fun h => hw2 h.2))]; exact if_neg (fun h => h rfl))
                      have hw3 : (b2 : Int) < (k : Int) := by omega
                      clear hst hRF
                      go_wp2_with fail
                      go_roundw
                      case rel => exact ⟨k + 1, by go_num, hlt, B3, hG⟩
                      case measure => first | (simp [intOf]; done) | (simp [intOf]; omega)
                  · have hG := Lib.hid (show firstOf (ruleF l) l 0 = firstOf (ruleF l) (l.drop (k + 1)) (k + 1) by rw [hst.out, hRF.out.trans (if_neg (fun h => hw1 h.1))]; exact if_neg (fun h => h rfl))
                    have hw3 : (k : Int) < (a : Int) := by omega
                    clear hst hRF
                    go_wp2_with fail
                    go_roundw
                    case rel => exact ⟨k + 1, by go_num, hlt, B3, hG⟩
                    case measure => first | (simp [intOf]; done) | (simp [intOf]; omega)
    · have i2 : ¬ (k : Int) < (l.length : Int) := by omega
      have HA := Lib.hid (show firstOf (ruleF l) l 0 = good from hF.out.trans (firstOf_end hlt))
      have hCC := Lib.hid (show firstOf (cycP l) l 0 = R by rw [← HR.out, rulesF_prog, HA.out]; exact (if_neg (fun h => h rfl)).symm)
      clear hF HA hk HR
      go_wp2_with fail
      go_loopw [115] (fun i wq => Ru1R W l (cycP l) i wq) (fun i _ => l.length - (intOf i).toNat)
      case atStart => exact ⟨0, rfl, Nat.zero_le _, hB, Lib.hid rfl⟩
      case round =>
        clear hB hlt
        obtain ⟨k, rfl, hk, hB, hF⟩ := hrel
        by_cases hlt : k < l.length
        · have hI1 := Lib.hid (HI.out.below hB.out)
          obtain ⟨b, o, cv, iv, rfl, hc, _⟩ := its_at hI1.out k hlt
          have i1 : (0 : Int) ≤ (k : Int) := by omega
          have i2 : (k : Int) < (l.length : Int) := by omega
          have hst := Lib.hid (hF.out.trans (firstOf_step hlt))
          clear hF
          generalize l[k] = x at *
          have z1 : wr.cell? ⟨b, o + k * 13 + 1, none⟩ = some (.int .i64 (x.at_ : Nat)) := hc 1 _ rfl
          have z9 : wr.cell? ⟨b, o + k * 13 + 9, none⟩ = some (.int .i64 x.rule) := hc 9 _ rfl
          clear hc
          obtain ⟨ru, hru⟩ : ∃ ru, x.rule = ru := ⟨_, rfl⟩
          rw [hru] at z9
          by_cases h3 : ru = 3
          · subst h3
            have C1 := Lib.hid (round_any l hl k l.length (.slice (some ⟨b, o, none⟩) l.length cap) wr k hlt hI1.out (by omega))
            have hCY : cycP l k x = if rndF l l.length k k = true then (11, (x.at_ : Int)) else good := by unfold cycP; rw [hru]; simp
            obtain ⟨bb, hbb⟩ : ∃ y, rndF l l.length k k = y := ⟨_, rfl⟩
            rw [hbb] at C1 hCY
            clear hbb
            go_wp2_with fail
            refine (C1.out).mono ?_; rintro e w2 ⟨rfl, hb⟩
            have B2 := Lib.hid (hB.out.trans (hb.mono hB.out.size))
            have v1 := keepCell hb z1
            clear hB hI1 C1 hb z1 z9
            cases bb with
            | true =>
              have hR := Lib.hid (show R = (11, (x.at_ : Int)) by rw [← hCC.out, hst.out, hCY]; rfl)
              clear hst hCY
              go_wp2_with fail
              refine (fail_any 11 (x.at_ : Nat)).mono ?_; rintro e w9 ⟨⟨b9, rfl, q0, q1⟩, hb9⟩
              have B9 := Lib.hid (B2.out.trans (hb9.mono B2.out.size))
              have T9 := Lib.hid (show Thr w9 (11, (x.at_ : Int)) _ from ⟨b9, rfl, q0, q1⟩)
              clear hb9 q0 q1
              go_wp2_with fail
              exact ⟨rfl, by rw [hR.out]; exact .inr ⟨show (11 : Int) ≠ 0 by decide, T9.out⟩, B9.out⟩
            | false =>
              have hG := Lib.hid (show firstOf (cycP l) l 0 = firstOf (cycP l) (l.drop (k + 1)) (k + 1) by rw [hst.out, hCY]; exact if_neg (fun h => h rfl))
              clear hst hCY
              go_wp2_with fail
              go_roundw
              case rel => exact ⟨k + 1, by go_num, hlt, B2, hG⟩
              case measure => first | (simp [intOf]; done) | (simp [intOf]; omega)
          · have e3 : (ru == 3) = false := by simpa using h3
            have hCY : cycP l k x = good := by unfold cycP; rw [hru, e3]; rfl
            have hG := Lib.hid (show firstOf (cycP l) l 0 = firstOf (cycP l) (l.drop (k + 1)) (k + 1) by rw [hst.out, hCY]; exact if_neg (fun h => h rfl))
            clear hst hCY
            go_wp2_with fail
            go_roundw
            case rel => exact ⟨k + 1, by go_num, hlt, hB, hG⟩
            case measure => first | (simp [intOf]; done) | (simp [intOf]; omega)
        · have i2 : ¬ (k : Int) < (l.length : Int) := by omega
          have hR := Lib.hid (show R = good by rw [← hCC.out, hF.out, firstOf_end hlt])
          go_wp2_with fail
          go_end0
          exact ⟨by rw [hR.out]; exact .inl ⟨rfl, rfl⟩, hB.out⟩
end
end Go.Proofs.YtpnjlmpamincoaaDoor.Tm
