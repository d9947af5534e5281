/-
  PROVED HERE: the contract of lex's next. Conditions: as each theorem states.
-/
import Derived.Test.YtofmheeiplagjaaGreatDoorLexB
import Derived.Deep.CutBlock
import Derived.Deep.DeepCutAuto
namespace Go.Proofs.YtofmheeiplagjaaGreatDoor.Lex
open Go.RowKit
def mkl : List (List UInt8) := [[61, 61], [33, 61], [123], [125], [91], [93], [40], [41], [59], [44], [61], [43], [45], [42], [38], [124], [60], [62]]
def mks (j : Nat) : ByteArray := ⟨(mkl.getD j []).toArray⟩
/-- lex.marks holds the marks. -/
def HomeM (w : World) : Prop := ∀ j, j < 18 → w.cell? ⟨1, j, none⟩ = some (.string (mks j))
theorem HomeM.below {w w' : World} (h : HomeM w) (hb : Below w.heap.size w w') : HomeM w' := fun j hj => (hb.cell (p := ⟨1, j, none⟩) (World.block_lt_of_cell? w _ (h j hj))).trans (h j hj)
def hp (c : UInt8) (r : List UInt8) (j : Nat) : Bool := Lib.hasPrefix (c :: r) (mkl.getD j [])
theorem hp_two (c : UInt8) (r : List UInt8) (a : UInt8) : Lib.hasPrefix (c :: r) [a, 61] = (c == a && r.head? == some 61) := by
  unfold Lib.hasPrefix
  cases r with
  | nil => simp [List.isPrefixOf]
  | cons d r => simp [List.isPrefixOf, Bool.beq_comm]
theorem hp_one (c : UInt8) (r : List UInt8) (a : UInt8) : Lib.hasPrefix (c :: r) [a] = (c == a) := by
  unfold Lib.hasPrefix
  simp [List.isPrefixOf, Bool.beq_comm]
theorem mk_of (c : UInt8) (r : List UInt8) (h0 : hp c r 0 = false) (h1 : hp c r 1 = false) : mk c r = if sgl c = true then 1 else 0 := by
  have e0 : hp c r 0 = (c == 61 && r.head? == some 61) := hp_two c r 61
  have e1 : hp c r 1 = (c == 33 && r.head? == some 61) := hp_two c r 33
  rw [e0] at h0
  rw [e1] at h1
  unfold mk
  rw [if_neg]
  intro h
  rw [Bool.and_or_distrib_right, h0, h1] at h
  cases h
theorem hp_many (c : UInt8) (r : List UInt8) (k : Nat) (h2 : 2 ≤ k) (h : k < 18) (hk : hp c r k = true) : sgl c = true ∧ (mks k).size = 1 := by
  rcases (show k = 0 ∨ k = 1 ∨ k = 2 ∨ k = 3 ∨ k = 4 ∨ k = 5 ∨ k = 6 ∨ k = 7 ∨ k = 8 ∨ k = 9 ∨ k = 10 ∨ k = 11 ∨ k = 12 ∨ k = 13 ∨ k = 14 ∨ k = 15 ∨ k = 16 ∨ k = 17 by omega) with rfl | rfl | rfl | rfl | rfl | rfl | rfl | rfl | rfl | rfl | rfl | rfl | rfl | rfl | rfl | rfl | rfl | rfl
  · omega
  · omega
  · obtain rfl : c = 123 := by simpa [hp_one] using (show Lib.hasPrefix (c :: r) [123] = true from hk)
    exact ⟨by decide, rfl⟩
  · obtain rfl : c = 125 := by simpa [hp_one] using (show Lib.hasPrefix (c :: r) [125] = true from hk)
    exact ⟨by decide, rfl⟩
  · obtain rfl : c = 91 := by simpa [hp_one] using (show Lib.hasPrefix (c :: r) [91] = true from hk)
    exact ⟨by decide, rfl⟩
  · obtain rfl : c = 93 := by simpa [hp_one] using (show Lib.hasPrefix (c :: r) [93] = true from hk)
    exact ⟨by decide, rfl⟩
  · obtain rfl : c = 40 := by simpa [hp_one] using (show Lib.hasPrefix (c :: r) [40] = true from hk)
    exact ⟨by decide, rfl⟩
  · obtain rfl : c = 41 := by simpa [hp_one] using (show Lib.hasPrefix (c :: r) [41] = true from hk)
    exact ⟨by decide, rfl⟩
  · obtain rfl : c = 59 := by simpa [hp_one] using (show Lib.hasPrefix (c :: r) [59] = true from hk)
    exact ⟨by decide, rfl⟩
  · obtain rfl : c = 44 := by simpa [hp_one] using (show Lib.hasPrefix (c :: r) [44] = true from hk)
    exact ⟨by decide, rfl⟩
  · obtain rfl : c = 61 := by simpa [hp_one] using (show Lib.hasPrefix (c :: r) [61] = true from hk)
    exact ⟨by decide, rfl⟩
  · obtain rfl : c = 43 := by simpa [hp_one] using (show Lib.hasPrefix (c :: r) [43] = true from hk)
    exact ⟨by decide, rfl⟩
  · obtain rfl : c = 45 := by simpa [hp_one] using (show Lib.hasPrefix (c :: r) [45] = true from hk)
    exact ⟨by decide, rfl⟩
  · obtain rfl : c = 42 := by simpa [hp_one] using (show Lib.hasPrefix (c :: r) [42] = true from hk)
    exact ⟨by decide, rfl⟩
  · obtain rfl : c = 38 := by simpa [hp_one] using (show Lib.hasPrefix (c :: r) [38] = true from hk)
    exact ⟨by decide, rfl⟩
  · obtain rfl : c = 124 := by simpa [hp_one] using (show Lib.hasPrefix (c :: r) [124] = true from hk)
    exact ⟨by decide, rfl⟩
  · obtain rfl : c = 60 := by simpa [hp_one] using (show Lib.hasPrefix (c :: r) [60] = true from hk)
    exact ⟨by decide, rfl⟩
  · obtain rfl : c = 62 := by simpa [hp_one] using (show Lib.hasPrefix (c :: r) [62] = true from hk)
    exact ⟨by decide, rfl⟩
theorem mk_hit (c : UInt8) (r : List UInt8) (k : Nat) (h : k < 18) (hno : ∀ j, j < k → hp c r j = false) (hk : hp c r k = true) : mk c r = (mks k).size := by
  have e0 : hp c r 0 = (c == 61 && r.head? == some 61) := hp_two c r 61
  have e1 : hp c r 1 = (c == 33 && r.head? == some 61) := hp_two c r 33
  rcases (show k = 0 ∨ k = 1 ∨ 2 ≤ k by omega) with rfl | rfl | h2
  · unfold mk
    rw [if_pos (by rw [Bool.and_or_distrib_right, ← e0, hk]; rfl)]
    rfl
  · unfold mk
    rw [if_pos (by rw [Bool.and_or_distrib_right, ← e1, hk, Bool.or_true])]
    rfl
  · obtain ⟨a, b⟩ := hp_many c r k h2 h hk
    rw [mk_of c r (hno 0 (by omega)) (hno 1 (by omega)), if_pos a, b]
theorem mk_none (c : UInt8) (r : List UInt8) (hno : ∀ j, j < 18 → hp c r j = false) : mk c r = 0 := by
  rw [mk_of c r (hno 0 (by omega)) (hno 1 (by omega)), if_neg]
  intro h
  unfold sgl at h
  simp only [List.contains_eq_mem, List.mem_cons, List.not_mem_nil, or_false, decide_eq_true_eq] at h
  rcases h with rfl | rfl | rfl | rfl | rfl | rfl | rfl | rfl | rfl | rfl | rfl | rfl | rfl | rfl | rfl | rfl
  · exact absurd ((hp_one 123 r 123).symm.trans (hno 2 (by omega))) (by simp)
  · exact absurd ((hp_one 125 r 125).symm.trans (hno 3 (by omega))) (by simp)
  · exact absurd ((hp_one 91 r 91).symm.trans (hno 4 (by omega))) (by simp)
  · exact absurd ((hp_one 93 r 93).symm.trans (hno 5 (by omega))) (by simp)
  · exact absurd ((hp_one 40 r 40).symm.trans (hno 6 (by omega))) (by simp)
  · exact absurd ((hp_one 41 r 41).symm.trans (hno 7 (by omega))) (by simp)
  · exact absurd ((hp_one 59 r 59).symm.trans (hno 8 (by omega))) (by simp)
  · exact absurd ((hp_one 44 r 44).symm.trans (hno 9 (by omega))) (by simp)
  · exact absurd ((hp_one 61 r 61).symm.trans (hno 10 (by omega))) (by simp)
  · exact absurd ((hp_one 43 r 43).symm.trans (hno 11 (by omega))) (by simp)
  · exact absurd ((hp_one 45 r 45).symm.trans (hno 12 (by omega))) (by simp)
  · exact absurd ((hp_one 42 r 42).symm.trans (hno 13 (by omega))) (by simp)
  · exact absurd ((hp_one 38 r 38).symm.trans (hno 14 (by omega))) (by simp)
  · exact absurd ((hp_one 124 r 124).symm.trans (hno 15 (by omega))) (by simp)
  · exact absurd ((hp_one 60 r 60).symm.trans (hno 16 (by omega))) (by simp)
  · exact absurd ((hp_one 62 r 62).symm.trans (hno 17 (by omega))) (by simp)
theorem ix_mark (k : Nat) (h : k < 18) (w : World) : (Instr.index 151 (.agg #[.string ⟨#[61, 61]⟩, .string ⟨#[33, 61]⟩, .string ⟨#[123]⟩, .string ⟨#[125]⟩, .string ⟨#[91]⟩, .string ⟨#[93]⟩, .string ⟨#[40]⟩, .string ⟨#[41]⟩, .string ⟨#[59]⟩, .string ⟨#[44]⟩, .string ⟨#[61]⟩, .string ⟨#[43]⟩, .string ⟨#[45]⟩, .string ⟨#[42]⟩, .string ⟨#[38]⟩, .string ⟨#[124]⟩, .string ⟨#[60]⟩, .string ⟨#[62]⟩]) (.int .i64 k)).run Tryz.prog w = .ok (.string (mks k)) w := by
  rcases (show k = 0 ∨ k = 1 ∨ k = 2 ∨ k = 3 ∨ k = 4 ∨ k = 5 ∨ k = 6 ∨ k = 7 ∨ k = 8 ∨ k = 9 ∨ k = 10 ∨ k = 11 ∨ k = 12 ∨ k = 13 ∨ k = 14 ∨ k = 15 ∨ k = 16 ∨ k = 17 by omega) with rfl | rfl | rfl | rfl | rfl | rfl | rfl | rfl | rfl | rfl | rfl | rfl | rfl | rfl | rfl | rfl | rfl | rfl <;> kernel_rfl
theorem nx_word (c : UInt8) (r : List UInt8) (h : wch c = true) : nx (c :: r) = ((c :: r).takeWhile wch).length := by
  unfold nx
  simp only
  rw [if_pos h]
theorem nx_mark (c : UInt8) (r : List UInt8) (h : wch c = false) : nx (c :: r) = mk c r := by
  unfold nx
  simp only
  rw [if_neg (by rw [h]; decide)]
theorem tw_next (s : ByteArray) (k : Nat) (h : k < s.size) (hw : wch s[k] = true) : (((lst s).drop k).takeWhile wch).length = 1 + (((lst s).drop (k + 1)).takeWhile wch).length := by
  rw [lst_at s k h, List.takeWhile_cons, if_pos hw, List.length_cons]
  omega
theorem tw_end (s : ByteArray) (k : Nat) (h : k < s.size) (hw : wch s[k] = false) : (((lst s).drop k).takeWhile wch).length = 0 := by
  rw [lst_at s k h, List.takeWhile_cons, if_neg (by rw [hw]; decide)]
  rfl
theorem tw_out (s : ByteArray) (k : Nat) (h : s.size ≤ k) : (((lst s).drop k).takeWhile wch).length = 0 := by
  rw [List.drop_of_length_le (by rw [lst_len]; exact h)]
  rfl
set_option maxRecDepth 100000 in
set_option maxHeartbeats 1000000 in
theorem next_word (s : ByteArray) (h : 0 < s.size) (hs : s.size ≤ 4000) (hw : wch s[0] = true) (W : World) : Calls Tryz.prog 78 #[.string s] W fun e w' => e = .returned (.int .i64 (nx (lst s))) ∧ W = w' := by
  have hN : nx (lst s) = (((lst s).drop 0).takeWhile wch).length := by
    rw [List.drop_zero, lst_cons s h, nx_word _ _ hw]
  rw [hN]
  have L := letter_any s[0]
  have D := digit_any s[0]
  have hwd : (ltr s[0] || dgt s[0]) = true := hw
  generalize ltr s[0] = b1 at *
  generalize dgt s[0] = b2 at *
  have LH := Lib.hid L
  have DH := Lib.hid D
  generalize hT : (((lst s).drop 0).takeWhile wch).length = T
  have hT0 : Hid (T = 0 + (((lst s).drop 0).takeWhile wch).length) := Lib.hid (by rw [hT]; omega)
  clear L D hw hN hT
  go_enter Tryz.func78, Tryz.ntmps78
  go_upto_region 2 with (fail)
  go_cut [13] (fun s13 wx => s13 = .bool true ∧ wx = W)
  case first =>
    rcases b1 with _ | _
    · obtain rfl : b2 = true := by simpa using hwd
      clear hwd
      go_wp2_with fail
      refine (LH.out _).mono ?_; rintro e w' ⟨rfl, rfl⟩
      go_wp2_with fail
      refine (DH.out _).mono ?_; rintro e w' ⟨rfl, rfl⟩
      go_wp2_with fail
      go_meet
      exact ⟨rfl, rfl⟩
    · clear hwd
      go_wp2_with fail
      refine (LH.out _).mono ?_; rintro e w' ⟨rfl, rfl⟩
      go_wp2_with fail
      go_meet
      exact ⟨rfl, rfl⟩
  case rest =>
    obtain ⟨rfl, rfl⟩ := hcut
    clear LH DH hwd
    go_wp2_with fail
    go_loop [3] (fun n => ∃ k : Nat, k ≤ s.size ∧ n = .int .i64 k ∧ Hid (T = k + (((lst s).drop k).takeWhile wch).length)) (fun n => s.size - (intOf n).toNat)
    case atStart => exact ⟨0, Nat.zero_le _, rfl, hT0⟩
    case round =>
      obtain ⟨k, hk, rfl, hT⟩ := hrel
      by_cases hlt : k < s.size
      · have L := letter_any s[k]
        have D := digit_any s[k]
        have hYes : (ltr s[k] || dgt s[k]) = true → T = (k + 1) + (((lst s).drop (k + 1)).takeWhile wch).length := fun hw => by
          have := tw_next s k hlt hw
          have := hT.out
          omega
        have hNo : (ltr s[k] || dgt s[k]) = false → T = k := fun hw => by
          have := tw_end s k hlt hw
          have := hT.out
          omega
        generalize ltr s[k] = b3 at *
        generalize dgt s[k] = b4 at *
        have LH := Lib.hid L
        have DH := Lib.hid D
        have hYH := Lib.hid hYes
        have hNH := Lib.hid hNo
        clear L D hYes hNo hT
        have i1 : (0 : Int) ≤ (k : Int) := by omega
        have i2 : (k : Int) < (s.size : Int) := by omega
        rcases b3 with _ | _
        · rcases b4 with _ | _
          · have hE := hNH.out rfl
            subst hE
            go_wp2_with fail
            refine (LH.out _).mono ?_; rintro e w' ⟨rfl, rfl⟩
            go_wp2_with fail
            refine (DH.out _).mono ?_; rintro e w' ⟨rfl, rfl⟩
            go_wp2_with fail
            go_ret
            exact ⟨rfl, rfl⟩
          · have hE := Lib.hid (hYH.out rfl)
            go_wp2_with fail
            refine (LH.out _).mono ?_; rintro e w' ⟨rfl, rfl⟩
            go_wp2_with fail
            refine (DH.out _).mono ?_; rintro e w' ⟨rfl, rfl⟩
            go_wp2_with fail
            go_round
            case rel => exact ⟨k + 1, by omega, by go_num, hE⟩
            case measure => simp [intOf]; omega
        · have hE := Lib.hid (hYH.out (by simp))
          go_wp2_with fail
          refine (LH.out _).mono ?_; rintro e w' ⟨rfl, rfl⟩
          go_wp2_with fail
          go_round
          case rel => exact ⟨k + 1, by omega, by go_num, hE⟩
          case measure => simp [intOf]; omega
      · have hE : T = k := by
          have := tw_out s k (by omega)
          have := hT.out
          omega
        subst hE
        clear hT
        go_wp2_with fail
        go_ret
        exact ⟨rfl, rfl⟩
end Go.Proofs.YtofmheeiplagjaaGreatDoor.Lex
