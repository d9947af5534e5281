/-
  PROVED HERE: the contract of the program's round. Conditions: as each theorem states.
-/
import Derived.Test.YtpnjlmpamincoaaDoorTfC
namespace Go.Proofs.YtpnjlmpamincoaaDoor.Tm
open Go.RowKit Go.Proofs.YtpnjlmpamincoaaDoor.Lex Go.Proofs.YtpnjlmpamincoaaDoor.Dig
def rndP (l : List It) : Nat → Nat → Nat → Nat → Bool
  | 0, _, _, _ => false
  | n + 1, fr, tq, k => overP l fr k && (k == tq || (ruleAt l k == 3 && rndF l n k tq))
theorem rnd_any (l : List It) (n fr tq : Nat) : rndF l n fr tq = (List.range l.length).any (rndP l n fr tq) := by
  cases n with
  | zero =>
    symm
    rw [show rndF l 0 fr tq = false from rfl, Bool.eq_false_iff]
    intro h
    obtain ⟨k, _, h2⟩ := List.any_eq_true.1 h
    cases h2
  | succ n => rfl
theorem any_step {p : Nat → Bool} {k : Nat} : (List.range (k + 1)).any p = ((List.range k).any p || p k) := by
  rw [List.range_succ, List.any_append]
  simp
theorem any_hit {p : Nat → Bool} {k n : Nat} (hk : k < n) (h : p k = true) : (List.range n).any p = true :=
  List.any_eq_true.2 ⟨k, List.mem_range.2 hk, h⟩
def RdR (W : World) (l : List It) (n fr tq : Nat) (i : Value) (wr : World) : Prop := ∃ k : Nat, i = .int .i64 k ∧ k ≤ l.length ∧ Hid ((List.range k).any (rndP l n fr tq) = false) ∧ Hid (Below W.heap.size W wr)
set_option maxRecDepth 100000 in
set_option maxHeartbeats 4000000 in
theorem round_any (l : List It) (hl : l.length ≤ 16) (tq : Nat) : ∀ (n : Nat) (v : Value) (W : World) (fr : Nat), fr < l.length → ItsAt W v l → n ≤ 1000 → Calls Tryd.prog 51 #[v, .int .i64 (fr : Nat), .int .i64 (tq : Nat), .int .i64 (n : Nat)] W fun e w' => e = .returned (.bool (rndF l n fr tq)) ∧ Below W.heap.size W w' := by
  intro n
  induction n with
  | zero =>
    intro v W fr hfr h _
    obtain ⟨a, cap, rfl, hcap, _⟩ := id h
    rw [rnd_any]
    obtain ⟨R, hR⟩ : ∃ R, (List.range l.length).any (rndP l 0 fr tq) = R := ⟨_, rfl⟩
    rw [hR]
    have HR := Lib.hid hR
    clear h hR
    go_enter Tryd.func51, Tryd.ntmps51
    go_wp2_with fail
    go_loopw [12] (fun i wr => RdR W l 0 fr tq i wr) (fun i _ => l.length - (intOf i).toNat)
    case atStart => exact ⟨0, rfl, Nat.zero_le _, Lib.hid rfl, Lib.hid (Below.refl _ _)⟩
    case round =>
      obtain ⟨k, rfl, hk, hw, hb⟩ := hrel
      by_cases hlt : k < l.length
      · have i2 : (k : Int) < (l.length : Int) := by omega
        have hst := Lib.hid (show (List.range (k + 1)).any (rndP l 0 fr tq) = false by rw [any_step, hw.out]; rfl)
        go_wp2_with fail
        go_roundw
        case rel => exact ⟨k + 1, by go_num, hlt, hst, hb⟩
        case measure => first | (simp [intOf]; done) | (simp [intOf]; omega)
      · have i2 : ¬ (k : Int) < (l.length : Int) := by omega
        have hE := Lib.hid (show (List.range l.length).any (rndP l 0 fr tq) = false by rw [← show k = l.length by omega]; exact hw.out)
        go_wp2_with fail
        go_ret
        exact ⟨by rw [← HR.out, hE.out]; rfl, hb.out⟩
  | succ n ih =>
    intro v W fr hfr h hn
    obtain ⟨a, cap, rfl, hcap, _⟩ := id h
    rw [rnd_any]
    obtain ⟨R, hR⟩ : ∃ R, (List.range l.length).any (rndP l (n + 1) fr tq) = R := ⟨_, rfl⟩
    rw [hR]
    have HR := Lib.hid hR
    have HI := Lib.hid h
    have IH := Lib.hid (fun w fr (hf : fr < l.length) (hb : Below W.heap.size W w) => ih (.slice a l.length cap) w fr hf (h.below hb) (by omega))
    obtain ⟨m, hm⟩ : ∃ m, n + 1 = m := ⟨_, rfl⟩
    have hm0 : (0 : Int) < (m : Int) := by omega
    have hm1 : IntKind.i64.wrap ((m : Int) - 1) = (n : Int) := by rw [IntKind.wrap_i64]; omega
    have hm2 : (m : Int) - 1 = (n : Int) := by omega
    rw [hm] at HR ⊢
    have HM := Lib.hid hm
    clear h hR ih hm
    go_enter Tryd.func51, Tryd.ntmps51
    go_wp2_with fail
    go_loopw [12] (fun i wr => RdR W l m fr tq i wr) (fun i _ => l.length - (intOf i).toNat)
    case atStart => exact ⟨0, rfl, Nat.zero_le _, Lib.hid rfl, Lib.hid (Below.refl _ _)⟩
    case round =>
      obtain ⟨k, rfl, hk, hw, hb⟩ := hrel
      by_cases hlt : k < l.length
      · have i1 : (0 : Int) ≤ (k : Int) := by omega
        have i2 : (k : Int) < (l.length : Int) := by omega
        have HI2 := Lib.hid (HI.out.below hb.out)
        have C1 := Lib.hid (over_any (W := wr) _ l hl HI2.out fr hfr (k : Int))
        have hP : rndP l m fr tq k = (overP l fr k && (k == tq || (ruleAt l k == 3 && rndF l n k tq))) := by rw [← HM.out]; rfl
        have hno := Lib.hid (show rndP l m fr tq k = false → (List.range (k + 1)).any (rndP l m fr tq) = false from fun e => by rw [any_step, hw.out, e]; rfl)
        have hyes := Lib.hid (show rndP l m fr tq k = true → R = true from fun e => by rw [← HR.out]; exact any_hit hlt e)
        rw [ruleAt_at hlt] at hP
        obtain ⟨bo, hbo⟩ : ∃ y, overP l fr k = y := ⟨_, rfl⟩
        rw [hbo] at hP C1
        clear hbo hw
        go_wp2_with fail
        refine (C1.out).mono ?_; rintro e w4 ⟨rfl, hb4⟩
        have B4 := Lib.hid (hb.out.trans (hb4.mono hb.out.size))
        have HI4 := Lib.hid (HI2.out.below hb4)
        clear hb4 hb C1 HI2
        cases bo with
        | false =>
          have hR := Lib.hid (hno.out (by rw [hP]; rfl))
          clear hP hno hyes
          go_wp2_with fail
          go_roundw
          case rel => exact ⟨k + 1, by go_num, hlt, hR, B4⟩
          case measure => first | (simp [intOf]; done) | (simp [intOf]; omega)
        | true =>
          by_cases hkt : (k : Int) = (tq : Int)
          · have e1 : ((k : Int) == (tq : Int)) = true := by simpa using hkt
            have hR := Lib.hid (hyes.out (by rw [hP, show (k == tq) = true by simpa using (show k = tq by omega)]; rfl))
            clear hP hno hyes hkt
            go_wp2_with fail
            go_ret
            exact ⟨by rw [hR.out]; rfl, B4.out⟩
          · have e1 : ((k : Int) == (tq : Int)) = false := by simpa using hkt
            rw [show (k == tq) = false by simpa using (show ¬ k = tq by omega)] at hP
            obtain ⟨b, o, cv, iv, rfl, hc, _⟩ := its_at HI4.out k hlt
            have z9 : w4.cell? ⟨b, o + k * 13 + 9, none⟩ = some (.int .i64 l[k].rule) := hc 9 _ rfl
            clear hc hkt
            generalize l[k].rule = rk at *
            by_cases h5 : rk = 3
            · subst h5
              have C5 := Lib.hid (IH.out w4 k hlt B4.out)
              obtain ⟨b2, hb2⟩ : ∃ y, rndF l n k tq = y := ⟨_, rfl⟩
              rw [hb2] at C5 hP
              clear hb2
              go_wp2_with fail
              refine (C5.out).mono ?_; rintro e w5 ⟨rfl, hb5⟩
              have B5 := Lib.hid (B4.out.trans (hb5.mono B4.out.size))
              clear C5 hb5
              cases b2 with
              | true =>
                have hR := Lib.hid (hyes.out (by rw [hP]; rfl))
                clear hP hno hyes
                go_wp2_with fail
                go_ret
                exact ⟨by rw [hR.out]; rfl, B5.out⟩
              | false =>
                have hR := Lib.hid (hno.out (by rw [hP]; rfl))
                clear hP hno hyes
                go_wp2_with fail
                go_roundw
                case rel => exact ⟨k + 1, by go_num, hlt, hR, B5⟩
                case measure => first | (simp [intOf]; done) | (simp [intOf]; omega)
            · have e6 : (rk == 3) = false := by simpa using h5
              have hR := Lib.hid (hno.out (by rw [hP, e6]; rfl))
              clear hP hno hyes h5
              go_wp2_with fail
              go_roundw
              case rel => exact ⟨k + 1, by go_num, hlt, hR, B4⟩
              case measure => first | (simp [intOf]; done) | (simp [intOf]; omega)
      · have i2 : ¬ (k : Int) < (l.length : Int) := by omega
        have hE := Lib.hid (show (List.range l.length).any (rndP l m fr tq) = false by rw [← show k = l.length by omega]; exact hw.out)
        go_wp2_with fail
        go_ret
        exact ⟨by rw [← HR.out, hE.out]; rfl, hb.out⟩
end Go.Proofs.YtpnjlmpamincoaaDoor.Tm
