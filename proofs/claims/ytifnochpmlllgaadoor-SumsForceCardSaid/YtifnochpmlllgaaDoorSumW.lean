/-
  PROVED HERE: the contract of the document's SumForced, and that the law SumsForce returns true. Conditions: as each theorem states.
-/
import Derived.Test.YtifnochpmlllgaaDoorSumV
import Derived.Test.YtifnochpmlllgaaDoorSumS
import Derived.Deep.RegionLaw
namespace Go.Proofs.YtifnochpmlllgaaDoor.Sum
open Go.RowKit
set_option maxRecDepth 100000 in
set_option maxHeartbeats 2000000 in
theorem forced_yes (w P : Nat) (t : Bool) (I O : Nat) (s : ByteArray) (q n N : Nat) (hN : w = 8 * N) (hw : w ≤ 32) (l : ByteArray) (hl : l.size = N) (hq : q ≤ s.size) (hs : s.size ≤ 1000)
    (D : ∀ W, Calls Tryd.prog 42 #[Sm w P t I O, .string (s.extract 0 q ++ l ++ s.extract q s.size)] W (DSP n 0 W)) (W : World) :
    Calls Tryd.prog 49 #[Sm w P t I O, .string s, .int .i64 q, .int .u32 n, .string l] W fun e w' => e = .returned (.bool true) ∧ Below W.heap.size W w' := by
  have C := Lib.hid D
  have e8 : (w : Int) / 8 = (N : Int) := by omega
  have i1 : (0 : Int) ≤ (q : Int) := by omega
  have i2 : (q : Int) ≤ (s.size : Int) := by omega
  have hlH := Lib.hid hl
  have hNn : N ≤ 4 := by omega
  have l1 : ¬ 9223372036854775807 < q + l.size := by omega
  have l2 : ¬ 9223372036854775807 < q + l.size + (s.size - q) := by omega
  clear D hl hN
  unfold Sm at C ⊢
  go_enter Tryd.func49, Tryd.ntmps49
  go_wp2_with fail
  go_region_law ((go_simp; go_at_call 42; refine (C.out _).mono ?_; rintro e w1 ⟨rfl, h1⟩))
  all_goals
    have hc0 : w1.cell? ⟨W.heap.size, 0, none⟩ = some (.int .i64 w) := keepCell h1 (by simp)
    have H1 := Lib.hid ((((Below.refl W.heap.size W).alloc (Nat.le_refl _) _).drew).trans (h1.mono (by simp)))
    clear h1
    have hl := hlH.out
    go_wp2_with fail
    go_ret
    exact ⟨rfl, H1.out⟩
set_option maxRecDepth 100000 in
set_option maxHeartbeats 2000000 in
theorem lawF_no (w : Int) (P : Nat) (t : Bool) (I O : Nat) (s : ByteArray) (hs : s.size ≤ 80) (q : Int) (n : Nat) (hgd : ¬ good w P I O) (hw : -9223372036854775808 ≤ w ∧ w ≤ 9223372036854775807) (hP : P < 4294967296) (hI : I < 4294967296) (hO : O < 4294967296) (W : World) (hg : Err.Home W) :
    Calls Tryd.prog 10 #[Sm w P t I O, .string s, .int .i64 q, .int .u32 n] W fun e w' => e = .returned (.bool true) ∧ Below W.heap.size W w' := by
  have HG := Lib.hid hg
  have C1 := Lib.hid (force_no w P t I O s q n hgd hw hP hI hO)
  have R2 := Lib.hid (docRight_any w P t I O hw hP hI hO)
  rw [decide_eq_false hgd] at R2
  clear hg hgd
  unfold Sm at C1 R2 ⊢
  go_enter Tryd.func10, Tryd.ntmps10
  go_wp2_with fail
  refine (C1.out _).mono ?_; rintro e w1 ⟨rfl, h1⟩
  have F1 : Hid (Fs W w P t I O w1) := Lib.hid (Fs.next ⟨⟨by simp, by simp, by simp, by simp, by simp⟩, (Below.refl _ _).alloc (Nat.le_refl _) _⟩ h1)
  obtain ⟨d0, d1, d2, d3, d4⟩ := F1.out.1
  clear h1
  go_wp2_with fail
  refine (R2.out _).mono ?_; rintro e w2 ⟨rfl, h2⟩
  have F2 : Hid (Fs W w P t I O w2) := Lib.hid (F1.out.next h2)
  clear h2 d0 d1 d2 d3 d4
  go_wp2_with fail
  refine (Err.bare_any _ 1 (-1) 1 _ (HG.out.below F2.out.2) (.inr (.inl ⟨rfl, rfl⟩))).mono ?_; rintro e w3 ⟨rfl, h3⟩
  have F3 : Hid (Fs W w P t I O w3) := Lib.hid (F2.out.next h3)
  clear h3
  go_wp2_with fail
  go_ret
  exact ⟨ret_bool (by simp), F3.out.2⟩
set_option maxRecDepth 100000 in
set_option maxHeartbeats 4000000 in
theorem lawF_far (w P : Nat) (t : Bool) (I O : Nat) (s : ByteArray) (hs : s.size ≤ 80) (q : Int) (n : Nat) (hw : w = 8 ∨ w = 16 ∨ w = 32) (hodd : P % 2 = 1) (hP : P < 2 ^ w) (hI : I < 2 ^ w) (hO : O < 2 ^ w) (hn : n < 4294967296) (hfar : q < 0 ∨ (s.size : Int) < q ∨ 2 ^ w ≤ n) (W : World) (hg : Err.Home W) :
    Calls Tryd.prog 10 #[Sm w P t I O, .string s, .int .i64 q, .int .u32 n] W fun e w' => e = .returned (.bool true) ∧ Below W.heap.size W w' := by
  have h32 : (2 : Nat) ^ w ≤ 4294967296 := by rcases hw with rfl | rfl | rfl <;> decide
  have HG := Lib.hid hg
  have C1 := Lib.hid (force_far w P t I O s q n hw hodd hP hI hO hn hfar)
  have R2 := Lib.hid (docRight_any w P t I O (by omega) (by omega) (by omega) (by omega))
  rw [decide_eq_true (show good w P I O from ⟨by omega, hodd, by simpa using hP, by simpa using hI, by simpa using hO⟩)] at R2
  clear hg h32 hodd hP hI hO
  unfold Sm at C1 R2 ⊢
  by_cases h1 : q < 0
  · clear hfar
    go_enter Tryd.func10, Tryd.ntmps10
    go_wp2_with fail
    refine (C1.out _).mono ?_; rintro e w1 ⟨rfl, h1⟩
    have F1 : Hid (Fs W w P t I O w1) := Lib.hid (Fs.next ⟨⟨by simp, by simp, by simp, by simp, by simp⟩, (Below.refl _ _).alloc (Nat.le_refl _) _⟩ h1)
    obtain ⟨d0, d1, d2, d3, d4⟩ := F1.out.1
    clear h1
    go_wp2_with fail
    refine (R2.out _).mono ?_; rintro e w2 ⟨rfl, h2⟩
    have F2 : Hid (Fs W w P t I O w2) := Lib.hid (F1.out.next h2)
    clear h2 d0 d1 d2 d3 d4
    go_wp2_with fail
    refine (Err.bare_any _ 2 (-1) 2 _ (HG.out.below F2.out.2) (.inr (.inl ⟨rfl, rfl⟩))).mono ?_; rintro e w3 ⟨rfl, h3⟩
    have F3 : Hid (Fs W w P t I O w3) := Lib.hid (F2.out.next h3)
    clear h3
    go_wp2_with fail
    go_ret
    exact ⟨ret_bool (by simp), F3.out.2⟩
  by_cases h2 : (s.size : Int) < q
  · clear hfar
    go_enter Tryd.func10, Tryd.ntmps10
    go_wp2_with fail
    refine (C1.out _).mono ?_; rintro e w1 ⟨rfl, h1⟩
    have F1 : Hid (Fs W w P t I O w1) := Lib.hid (Fs.next ⟨⟨by simp, by simp, by simp, by simp, by simp⟩, (Below.refl _ _).alloc (Nat.le_refl _) _⟩ h1)
    obtain ⟨d0, d1, d2, d3, d4⟩ := F1.out.1
    clear h1
    go_wp2_with fail
    refine (R2.out _).mono ?_; rintro e w2 ⟨rfl, h2⟩
    have F2 : Hid (Fs W w P t I O w2) := Lib.hid (F1.out.next h2)
    clear h2 d0 d1 d2 d3 d4
    go_wp2_with fail
    refine (Err.bare_any _ 2 (-1) 2 _ (HG.out.below F2.out.2) (.inr (.inl ⟨rfl, rfl⟩))).mono ?_; rintro e w3 ⟨rfl, h3⟩
    have F3 : Hid (Fs W w P t I O w3) := Lib.hid (F2.out.next h3)
    clear h3
    go_wp2_with fail
    go_ret
    exact ⟨ret_bool (by simp), F3.out.2⟩
  · have h3 : 2 ^ w ≤ n := by omega
    clear hfar
    rcases hw with rfl | rfl | rfl
    all_goals try (exfalso; simp at h3; omega)
    all_goals
      go_enter Tryd.func10, Tryd.ntmps10
      go_wp2_with fail
      refine (C1.out _).mono ?_; rintro e w1 ⟨rfl, h1⟩
      have F1 := Lib.hid (Fs.next ⟨⟨by simp; rfl, by simp; rfl, by simp; rfl, by simp; rfl, by simp; rfl⟩, (Below.refl _ _).alloc (Nat.le_refl _) _⟩ h1)
      obtain ⟨d0, d1, d2, d3, d4⟩ := F1.out.1
      clear h1
      go_wp2_with fail
      refine (R2.out _).mono ?_; rintro e w2 ⟨rfl, h2⟩
      have F2 := Lib.hid (F1.out.next h2)
      obtain ⟨e0, -, -, -, -⟩ := F2.out.1
      clear h2 d0 d1 d2 d3 d4
      go_wp2_with fail
      refine (Err.bare_any _ 2 (-1) 2 _ (HG.out.below F2.out.2) (.inr (.inl ⟨rfl, rfl⟩))).mono ?_; rintro e w3 ⟨rfl, h3⟩
      have F3 := Lib.hid (F2.out.next h3)
      clear h3
      go_wp2_with fail
      go_ret
      exact ⟨ret_bool (by simp), F3.out.2⟩
set_option maxRecDepth 100000 in
set_option maxHeartbeats 4000000 in
theorem lawF_yes (w P : Nat) (t : Bool) (I O : Nat) (s : ByteArray) (hs : s.size ≤ 80) (q n N : Nat) (hN : w = 8 * N) (hw : w = 8 ∨ w = 16 ∨ w = 32) (hodd : P % 2 = 1) (hP : P < 2 ^ w) (hI : I < 2 ^ w) (hO : O < 2 ^ w) (hn : n < 2 ^ w) (hq : q ≤ s.size) (W : World) :
    Calls Tryd.prog 10 #[Sm w P t I O, .string s, .int .i64 q, .int .u32 n] W fun e w' => e = .returned (.bool true) ∧ Below W.heap.size W w' := by
  have h32 : (2 : Nat) ^ w ≤ 4294967296 := by rcases hw with rfl | rfl | rfl <;> decide
  obtain ⟨d, hd⟩ : ∃ d, d = cr w P t I s q ^^^ bz w P (tb w P t s (inn w t n O) (s.size - q)) N := ⟨_, rfl⟩
  have C1 := Lib.hid (force_yes w P t I O s q n N hN hw (by omega) hodd hP hI hO hn hq d hd)
  have R2 := Lib.hid (docRight_any w P t I O (by omega) (by omega) (by omega) (by omega))
  rw [decide_eq_true (show good w P I O from ⟨by omega, hodd, by simpa using hP, by simpa using hI, by simpa using hO⟩)] at R2
  have hl : (⟨(fb w t d N N).toArray⟩ : ByteArray).size = N := by
    show ((fb w t d N N).toArray).size = N
    rw [List.size_toArray, fb_len]
  have hsz : (s.extract 0 q ++ ⟨(fb w t d N N).toArray⟩ ++ s.extract q s.size).size ≤ 200 := by
    rw [ByteArray.size_append, ByteArray.size_append, ByteArray.size_extract, ByteArray.size_extract, hl]
    omega
  have D := fun W => docOf_yes w P t I O _ hw hsz hodd hP hI hO W
  rw [forced w P t I O s q N n hN (by omega) hodd hP hI hO hn hq hw d hd _ rfl] at D
  have C2 := Lib.hid (forced_yes w P t I O s q n N hN (by omega) _ hl hq (by omega) D)
  clear D hsz hl hd
  generalize (⟨(fb w t d N N).toArray⟩ : ByteArray) = l at *
  clear hN h32 hodd hP hI hO
  unfold Sm at C1 C2 R2 ⊢
  rcases hw with rfl | rfl | rfl
  all_goals
    simp only [Nat.reducePow] at hn
    go_enter Tryd.func10, Tryd.ntmps10
    go_wp2_with fail
    refine (C1.out _).mono ?_; rintro e w1 ⟨rfl, h1⟩
    have F1 := Lib.hid (Fs.next ⟨⟨by simp; rfl, by simp; rfl, by simp; rfl, by simp; rfl, by simp; rfl⟩, (Below.refl _ _).alloc (Nat.le_refl _) _⟩ h1)
    obtain ⟨d0, d1, d2, d3, d4⟩ := F1.out.1
    clear h1
    go_wp2_with fail
    refine (R2.out _).mono ?_; rintro e w2 ⟨rfl, h2⟩
    have F2 := Lib.hid (F1.out.next h2)
    clear d0 d1 d2 d3 d4
    obtain ⟨d0, d1, d2, d3, d4⟩ := F2.out.1
    clear h2
    go_wp2_with fail
    refine (C2.out _).mono ?_; rintro e w3 ⟨rfl, h3⟩
    have F3 := Lib.hid (F2.out.next h3)
    clear h3
    go_wp2_with fail
    go_ret
    exact ⟨ret_bool (by simp), F3.out.2⟩
set_option maxRecDepth 100000 in
set_option maxHeartbeats 1000000 in
theorem sumsForce_walk (w P : Int) (t : Bool) (I O : Int) (s : ByteArray) (q n : Int) (w0 : (Lit.int .i64 w).wf = true) (w1 : (Lit.int .u32 P).wf = true) (w3 : (Lit.int .u32 I).wf = true) (w4 : (Lit.int .u32 O).wf = true) (w5 : (Lit.int .u32 n).wf = true) (W : World) (hg : Err.Home W) :
    Calls Tryd.prog 10 #[.agg #[.int .i64 w, .int .u32 P, .bool t, .int .u32 I, .int .u32 O], .string s, .int .i64 q, .int .u32 n] W fun e w' => e = .returned (.bool true) ∧ Below W.heap.size W w' := by
  have hw := bounds_i64 w0
  obtain ⟨p0, p1⟩ := bounds_u32 w1
  obtain ⟨i0, i1⟩ := bounds_u32 w3
  obtain ⟨o0, o1⟩ := bounds_u32 w4
  obtain ⟨n0, n1⟩ := bounds_u32 w5
  obtain ⟨P, rfl⟩ := Int.eq_ofNat_of_zero_le p0
  obtain ⟨I, rfl⟩ := Int.eq_ofNat_of_zero_le i0
  obtain ⟨O, rfl⟩ := Int.eq_ofNat_of_zero_le o0
  obtain ⟨n, rfl⟩ := Int.eq_ofNat_of_zero_le n0
  by_cases hs : s.size ≤ 80
  · by_cases hgd : good w P I O
    · obtain ⟨g1, g2, g3, g4, g5⟩ := hgd
      obtain ⟨w, rfl⟩ := Int.eq_ofNat_of_zero_le (show 0 ≤ w by omega)
      simp only [Int.toNat_natCast] at g3 g4 g5
      by_cases hfar : q < 0 ∨ (s.size : Int) < q ∨ 2 ^ w ≤ n
      · exact lawF_far w P t I O s hs q n (by omega) g2 g3 g4 g5 (by omega) hfar W hg
      · obtain ⟨q, rfl⟩ := Int.eq_ofNat_of_zero_le (show 0 ≤ q by omega)
        exact lawF_yes w P t I O s hs q n (w / 8) (by omega) (by omega) g2 g3 g4 g5 (by omega) (by omega) W
    · exact lawF_no w P t I O s hs q n hgd hw (by omega) (by omega) (by omega) W hg
  · have h2 : ¬ (s.size : Int) ≤ 80 := by omega
    clear hg hw w0 w1 w3 w4 w5
    go_enter Tryd.func10, Tryd.ntmps10
    go_wp2_with fail
    go_ret
    exact ⟨rfl, (Below.refl _ _).alloc (Nat.le_refl _) _⟩
end Go.Proofs.YtifnochpmlllgaaDoor.Sum
