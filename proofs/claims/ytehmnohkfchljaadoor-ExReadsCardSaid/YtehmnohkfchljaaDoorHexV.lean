/-
  PROVED HERE: the contract of the document's Unhex. Conditions: as each theorem states.
-/
import Derived.Test.YtehmnohkfchljaaDoorHexU
import Derived.Test.YtehmnohkfchljaaDoorCha
import Derived.Deep.RegionWith
namespace Go.Proofs.YtehmnohkfchljaaDoor.Dig
open Go.RowKit
attribute [local go_sem ↓] Go.wp_at_zero Go.wp_at_succ

theorem digit_byte' (a b : Int) (ha : 0 ≤ a ∧ a ≤ 15) (hb : 0 ≤ b ∧ b ≤ 15) : UInt8.ofNat ((a * 16 + b).toNat % 256) = UInt8.ofNat (a * 16 + b).toNat := by
  rw [Nat.mod_eq_of_lt (by omega)]
theorem snoc_bytes (l : List UInt8) (c : UInt8) : (⟨l.toArray⟩ : ByteArray) ++ ⟨#[c]⟩ = ⟨(l ++ [c]).toArray⟩ := by
  apply ByteArray.ext
  simp [ByteArray.data_append]
/-- The world's frame, and the result's two cells. -/
def Fr (W w : World) : Prop := Below W.heap.size W w ∧ (∃ x0, w.cell? ⟨W.heap.size, 0, none⟩ = some x0) ∧ (∃ x1, w.cell? ⟨W.heap.size, 1, none⟩ = some x1) ∧ w.frozen? ⟨W.heap.size, 0, none⟩ = false ∧ w.frozen? ⟨W.heap.size, 1, none⟩ = false
theorem Fr.drew {W w : World} (h : Fr W w) : Fr W w.drew := ⟨h.1.drew, h.2⟩
theorem fr_since {P : Program} {f : FuncId} {args : Array Value} {R : Ending} {W w : World} (hF : Fr W w) (h : Calls P f args w fun e w' => e = R ∧ Below w.heap.size w w') : Calls P f args w fun e w' => e = R ∧ Fr W w' :=
  h.mono fun _ _ ⟨a, b⟩ => by
    obtain ⟨hB, ⟨x0, h0⟩, ⟨x1, h1⟩, g0, g1⟩ := hF
    exact ⟨a, hB.trans (b.mono hB.size), ⟨x0, keepCell b h0⟩, ⟨x1, keepCell b h1⟩, keepFree b h0 g0, keepFree b h1 g1⟩
theorem good_any (W : World) : Calls Tryd.prog 25 #[] W fun e w' => e = .returned (.agg #[.int .i64 0, .int .i64 (-1)]) ∧ Below W.heap.size W w' := by
  go_enter Tryd.func25, Tryd.ntmps25
  go_wp2_with fail
  refine bodyPost_ret (v := .agg #[.int .i64 0, .int .i64 (-1)]) (by simp [results, Tryd.results25, go_sem]) rfl ⟨rfl, ?_⟩
  exact (Below.refl _ _).alloc (Nat.le_refl _) _

set_option maxRecDepth 100000 in
set_option maxHeartbeats 1000000 in
theorem docUnhex_any (s : ByteArray) (hs : s.size ≤ 1000) (W : World) :
    Calls Tryd.prog 11 #[.string s] W fun e w' => e = .returned (.tuple #[.string (uh s s.size 0 []).str, .agg #[.int .i64 (uh s s.size 0 []).err, .int .i64 (uh s s.size 0 []).at_]]) ∧ Below W.heap.size W w' := by
  generalize hZ : uh s s.size 0 [] = Z
  have hZH := Lib.hid hZ
  clear hZ
  go_enter Tryd.func11, Tryd.ntmps11
  go_wp2_with fail
  go_loopw [4, 5] (fun v i wr => ∃ (k f : Nat) (out : List UInt8), k ≤ s.size + 1 ∧ i = .int .i64 k ∧ s.size ≤ k + f ∧ Hid (uh s f k out = Z) ∧ out.length ≤ k ∧ v = .string ⟨out.toArray⟩ ∧ Hid (∃ x0, wr.cell? ⟨W.heap.size, 0, none⟩ = some x0) ∧ Hid (∃ x1, wr.cell? ⟨W.heap.size, 1, none⟩ = some x1) ∧ Hid (wr.frozen? ⟨W.heap.size, 0, none⟩ = false) ∧ Hid (wr.frozen? ⟨W.heap.size, 1, none⟩ = false) ∧ Below W.heap.size W wr) (fun _ i _ => s.size + 1 - (intOf i).toNat)
  case atStart => exact ⟨0, s.size, [], by omega, rfl, by omega, hZH, Nat.le_refl _, rfl, Lib.hid ⟨_, by simp; rfl⟩, Lib.hid ⟨_, by simp; rfl⟩, Lib.hid (by simp), Lib.hid (by simp), (Below.refl _ _).alloc (Nat.le_refl _) _⟩
  case round =>
    obtain ⟨k, f, out, hk, rfl, hf, hu, hol, rfl, hx0, hx1, hf0, hf1, hB⟩ := hrel
    have hW0 := Lib.hid hB
    obtain ⟨y0, x00⟩ := hx0.out
    obtain ⟨y1, x10⟩ := hx1.out
    have f00 := hf0.out
    have f10 := hf1.out
    clear hB hZH hx0 hx1 hf0 hf1
    by_cases hlt : k < s.size
    · obtain ⟨f', rfl⟩ : ∃ f', f = f' + 1 := ⟨f - 1, by omega⟩
      have hb := Lib.hid (byteAt_eq s k hlt)
      have hb3 : s[k].toNat < 256 := UInt8.toNat_lt _
      by_cases h32 : byteAt s k = 32
      · have e1 : ((s[k].toNat : Int) == 32) = true := by rw [hb.out, h32]; rfl
        have hu2 := Lib.hid ((uh_blank s f' k out hlt h32).symm.trans hu.out)
        clear h32
        go_wp2_with fail
        go_roundw
        case rel => exact ⟨k + 1, f', out, by omega, congrArg (Value.int .i64) (by omega), by omega, hu2, by omega, rfl, Lib.hid ⟨_, x00⟩, Lib.hid ⟨_, x10⟩, Lib.hid f00, Lib.hid f10, hW0.out⟩
        case measure => simp [intOf]; omega
      · have e1 : ((s[k].toNat : Int) == 32) = false := by rw [hb.out, beq_eq_false_iff_ne]; omega
        have d1 := dig_bounds (s[k].toNat : Int)
        by_cases h3 : dig (byteAt s k) < 0
        · have hu2 := Lib.hid ((uh_bad1 s f' k out hlt h32 h3).symm.trans hu.out)
          have h3' : dig (s[k].toNat : Int) < 0 := by rw [hb.out]; exact h3
          clear h3 h32
          go_wp2_with fail
          refine wp_loop_rounds 1 ?_
          rw [rounds_succ]
          go_wp2_with fail
          refine (docDigit_any _ (by omega) (by omega) _).mono ?_; rintro e w1 ⟨rfl, hb1⟩
          have x01 := keepCell hb1 x00
          have x11 := keepCell hb1 x10
          have f01 := keepFree hb1 x00 f00
          have f11 := keepFree hb1 x10 f10
          have hW1 := Lib.hid (hW0.out.trans (hb1.mono hW0.out.size))
          clear hb1 x00 x10 f00 f10
          go_wp2_with fail
          refine bodyPost_ret (v := .tuple #[.string ⟨#[]⟩, .agg #[.int .i64 3, .int .i64 k]]) (by simp [results, Tryd.results11, go_sem, x01, x11]) rfl ?_
          rw [← hu2.out]
          exact ⟨rfl, (hW1.out.setCell (p := ⟨W.heap.size, 0, none⟩) (Nat.le_refl _) _).setCell (p := ⟨W.heap.size, 1, none⟩) (Nat.le_refl _) _⟩
        · have h3' : ¬ dig (s[k].toNat : Int) < 0 := by rw [hb.out]; exact h3
          by_cases h4 : k + 1 < s.size
          · have i1 : (0 : Int) ≤ (k : Int) + 1 := by omega
            have i2 : (k : Int) + 1 < (s.size : Int) := by omega
            have hb' := Lib.hid (byteAt_eq s (k + 1) h4)
            have hb4 : s[k + 1].toNat < 256 := UInt8.toNat_lt _
            have d2 := dig_bounds (s[k + 1].toNat : Int)
            by_cases h5 : dig (byteAt s (k + 1)) < 0
            · have hu2 := Lib.hid ((uh_bad2 s f' k out hlt h32 h3 (.inr h5)).symm.trans hu.out)
              have h5' : dig (s[k + 1].toNat : Int) < 0 := by rw [hb'.out]; exact h5
              clear h3 h32 h5
              go_wp2_with fail
              refine wp_loop_rounds 2 ?_
              rw [rounds_succ]
              go_wp2_with fail
              refine (docDigit_any _ (by omega) (by omega) _).mono ?_; rintro e w1 ⟨rfl, hb1⟩
              have x01 := keepCell hb1 x00
              have x11 := keepCell hb1 x10
              have f01 := keepFree hb1 x00 f00
              have f11 := keepFree hb1 x10 f10
              have hW1 := Lib.hid (hW0.out.trans (hb1.mono hW0.out.size))
              clear hb1 x00 x10 f00 f10
              go_wp2_with fail
              rw [rounds_succ]
              go_wp2_with fail
              refine (docDigit_any _ (by omega) (by omega) _).mono ?_; rintro e w2 ⟨rfl, hb2⟩
              have x02 := keepCell hb2 x01
              have x12 := keepCell hb2 x11
              have f02 := keepFree hb2 x01 f01
              have f12 := keepFree hb2 x11 f11
              have hW2 := Lib.hid (hW1.out.trans (hb2.mono hW1.out.size))
              clear hb2 x01 x11 f01 f11
              go_wp2_with fail
              refine bodyPost_ret (v := .tuple #[.string ⟨#[]⟩, .agg #[.int .i64 3, .int .i64 (k + 1 : Int)]]) (by simp [results, Tryd.results11, go_sem, x02, x12]) rfl ?_
              rw [← hu2.out]
              exact ⟨rfl, (hW2.out.setCell (p := ⟨W.heap.size, 0, none⟩) (Nat.le_refl _) _).setCell (p := ⟨W.heap.size, 1, none⟩) (Nat.le_refl _) _⟩
            · have hu2 := Lib.hid ((uh_go s f' k out hlt h32 h3 h4 h5).symm.trans hu.out)
              rw [← hb.out, ← hb'.out] at hu2
              have h5' : ¬ dig (s[k + 1].toNat : Int) < 0 := by rw [hb'.out]; exact h5
              have HV := Lib.hid (digit_byte' (dig (s[k].toNat : Int)) (dig (s[k + 1].toNat : Int)) (by omega) (by omega))
              have HS := Lib.hid (snoc_bytes out (UInt8.ofNat (dig (s[k].toNat : Int) * 16 + dig (s[k + 1].toNat : Int)).toNat))
              clear h3 h32 h5
              go_wp2_with fail
              refine wp_loop_rounds 3 ?_
              rw [rounds_succ]
              go_wp2_with fail
              refine (docDigit_any _ (by omega) (by omega) _).mono ?_; rintro e w1 ⟨rfl, hb1⟩
              have x01 := keepCell hb1 x00
              have x11 := keepCell hb1 x10
              have f01 := keepFree hb1 x00 f00
              have f11 := keepFree hb1 x10 f10
              have hW1 := Lib.hid (hW0.out.trans (hb1.mono hW0.out.size))
              clear hb1 x00 x10 f00 f10
              go_wp2_with fail
              rw [rounds_succ]
              go_wp2_with fail
              refine (docDigit_any _ (by omega) (by omega) _).mono ?_; rintro e w2 ⟨rfl, hb2⟩
              have x02 := keepCell hb2 x01
              have x12 := keepCell hb2 x11
              have f02 := keepFree hb2 x01 f01
              have f12 := keepFree hb2 x11 f11
              have hW2 := Lib.hid (hW1.out.trans (hb2.mono hW1.out.size))
              clear hb2 x01 x11 f01 f11
              go_wp2_with fail
              rw [rounds_succ]
              go_wp2_with fail
              have F0 := Lib.hid (show Fr W w2 from ⟨hW2.out, ⟨_, x02⟩, ⟨_, x12⟩, f02, f12⟩)
              clear x02 x12 f02 f12
              have q0 : (0 : Int) ≤ (s[k].toNat : Int) := by omega
              have q1 : (s[k].toNat : Int) ≤ 255 := by omega
              have q2 : (0 : Int) ≤ (s[k + 1].toNat : Int) := by omega
              have q3 : (s[k + 1].toNat : Int) ≤ 255 := by omega
              have q4 : 0 ≤ dig (s[k].toNat : Int) * 16 + dig (s[k + 1].toNat : Int) := by omega
              have z1 : IntKind.i64.wrap ((k : Int) + 1) = (k : Int) + 1 := IntWalk.i64_in _ (by omega)
              have z2 : IntKind.i64.wrap (dig (s[k].toNat : Int) * 16) = dig (s[k].toNat : Int) * 16 := IntWalk.i64_in _ (by omega)
              have z3 : IntKind.i64.wrap (dig (s[k].toNat : Int) * 16 + dig (s[k + 1].toNat : Int)) = dig (s[k].toNat : Int) * 16 + dig (s[k + 1].toNat : Int) := IntWalk.i64_in _ (by omega)
              have z4 : IntKind.u64.wrap (dig (s[k].toNat : Int) * 16 + dig (s[k + 1].toNat : Int)) = dig (s[k].toNat : Int) * 16 + dig (s[k + 1].toNat : Int) := IntWalk.u64_in _ (by omega)
              go_region_with (first | (go_at_call 23; refine (fr_since (by first | exact Hid.out (by assumption) | exact Fr.drew (Hid.out (by assumption))) (docDigit_any _ (by assumption) (by assumption) _)).mono ?_; rintro e w' ⟨rfl, hb⟩; have hbH := Lib.hid hb; clear hb) | (go_at_call 24; refine (fr_since (by first | exact Hid.out (by assumption) | exact Fr.drew (Hid.out (by assumption))) (Chr.char_any _ (by assumption) _)).mono ?_; rintro e w' ⟨rfl, hb⟩; have F9 := Lib.hid hb; clear hb))
              all_goals
                clear z1 z2 z3 z4
                go_wp2_with fail
                go_roundw
                case rel =>
                  have F := F9.out
                  exact ⟨k + 2, f', _, by omega, by go_num, by omega, hu2, by simp; omega, by rw [HV.out, HS.out], Lib.hid F.2.1, Lib.hid F.2.2.1, Lib.hid F.2.2.2.1, Lib.hid F.2.2.2.2, F.1⟩
                case measure => simp [intOf]; omega
          · have i2 : ¬ (k : Int) + 1 < (s.size : Int) := by omega
            have hu2 := Lib.hid ((uh_bad2 s f' k out hlt h32 h3 (.inl (by omega))).symm.trans hu.out)
            clear h3 h32
            go_wp2_with fail
            refine wp_loop_rounds 2 ?_
            rw [rounds_succ]
            go_wp2_with fail
            refine (docDigit_any _ (by omega) (by omega) _).mono ?_; rintro e w1 ⟨rfl, hb1⟩
            have x01 := keepCell hb1 x00
            have x11 := keepCell hb1 x10
            have f01 := keepFree hb1 x00 f00
            have f11 := keepFree hb1 x10 f10
            have hW1 := Lib.hid (hW0.out.trans (hb1.mono hW0.out.size))
            clear hb1 x00 x10 f00 f10
            go_wp2_with fail
            rw [rounds_succ]
            go_wp2_with fail
            go_wp2_with fail
            refine bodyPost_ret (v := .tuple #[.string ⟨#[]⟩, .agg #[.int .i64 3, .int .i64 (k + 1 : Int)]]) (by simp [results, Tryd.results11, go_sem, x01, x11]) rfl ?_
            rw [← hu2.out]
            exact ⟨rfl, (hW1.out.setCell (p := ⟨W.heap.size, 0, none⟩) (Nat.le_refl _) _).setCell (p := ⟨W.heap.size, 1, none⟩) (Nat.le_refl _) _⟩
    · have hu2 := Lib.hid ((uh_end s f k out (by omega)).symm.trans hu.out)
      go_wp2_with fail
      refine (good_any _).mono ?_; rintro e w1 ⟨rfl, hb1⟩
      have x01 := keepCell hb1 x00
      have x11 := keepCell hb1 x10
      have f01 := keepFree hb1 x00 f00
      have f11 := keepFree hb1 x10 f10
      have hW1 := Lib.hid (hW0.out.trans (hb1.mono hW0.out.size))
      clear hb1 x00 x10 f00 f10
      go_wp2_with fail
      refine bodyPost_ret (v := .tuple #[.string ⟨out.toArray⟩, .agg #[.int .i64 0, .int .i64 (-1)]]) (by simp [results, Tryd.results11, go_sem, x01, x11]) rfl ?_
      rw [← hu2.out]
      exact ⟨rfl, (hW1.out.setCell (p := ⟨W.heap.size, 0, none⟩) (Nat.le_refl _) _).setCell (p := ⟨W.heap.size, 1, none⟩) (Nat.le_refl _) _⟩
end Go.Proofs.YtehmnohkfchljaaDoor.Dig
