/-
  PROVED HERE: that the law TextNarrows returns true. Conditions: as each theorem states.
-/
import Derived.Test.YtifnochpmlllgaaDoorNarB
import Derived.Test.YtifnochpmlllgaaDoorNarC
import Derived.Test.YtifnochpmlllgaaDoorSame
import Derived.Test.YtifnochpmlllgaaDoorShw
namespace Go.Proofs.YtifnochpmlllgaaDoor.Nar
open Go.RowKit Go.Proofs.YtifnochpmlllgaaDoor.Chr

/-- What both leave: numbers, an error's number, and its place. -/
def LPost (l : List Int) (c : Int) (W : World) (e : Ending) (w' : World) : Prop := ∃ v x, e = .returned (.tuple #[v, x]) ∧ Ints w' v l ∧ Err.ErrIs w' x c (-1) ∧ Below W.heap.size W w'
def MPost (l : List Int) (c : Int) (W : World) (e : Ending) (w' : World) : Prop := ∃ v, e = .returned (.tuple #[v, .agg #[.int .i64 c, .int .i64 (-1)]]) ∧ Ints w' v l ∧ Below W.heap.size W w'
theorem nd_len (s : ByteArray) (o : Nat) : ∀ (f j : Nat) (out : List Int), (nd s o f j out).length ≤ out.length + 1 + f
  | 0, _, out => by rw [nd]; omega
  | f + 1, j, out => by
    rw [nd]
    have h1 := nd_len s o f (j + 1) (out ++ [(hf s o (2 * j) : Int)])
    have h2 := nd_len s o f (j + 2) (out ++ [65536 + ((hf s o (2 * j) : Int) - 55296) * 1024 + ((hf s o (2 * j + 2) : Int) - 56320)])
    have h3 := nd_len s o f (j + 1) (out ++ [65533])
    simp only [List.length_append, List.length_cons, List.length_nil] at h1 h2 h3
    split
    · omega
    · split
      · simp
      · split
        · omega
        · split
          · omega
          · omega
theorem ints_nil (w : World) : Ints w (.slice none 0 0) [] := ⟨none, 0, rfl, fun j hj => absurd hj (Nat.not_lt_zero j)⟩
theorem narrow_arg (s : ByteArray) (o : Int) (ho : o ≠ 0 ∧ o ≠ 1) (W : World) : Calls Tryd.prog 29 #[.string s, .int .i64 o] W (LPost [] 1 W) := by
  have t0 : (o != 0) = true := by rw [bne_iff_ne]; exact ho.1
  have t1 : (o != 1) = true := by rw [bne_iff_ne]; exact ho.2
  clear ho
  go_enter Tryd.func29, Tryd.ntmps29
  go_wp2_with fail
  go_ret2
  exact ⟨_, _, rfl, ints_nil _, .inr (.inl ⟨rfl, rfl⟩), ((Below.refl _ _).alloc (Nat.le_refl _) _).alloc (by simp) _⟩
theorem docNarrow_arg (s : ByteArray) (o : Int) (ho : o ≠ 0 ∧ o ≠ 1) (W : World) : Calls Tryd.prog 28 #[.string s, .int .i64 o] W (MPost [] 1 W) := by
  have h : o < 0 ∨ 1 < o := by omega
  have H := Lib.hid h
  clear h ho
  go_enter Tryd.func28, Tryd.ntmps28
  go_wp2_with fail
  refine (Ref.within_no _ _ _ H.out _).mono ?_; rintro e w' ⟨rfl, rfl⟩
  go_wp2_with fail
  refine bodyPost_ret (v := .tuple #[.slice none 0 0, .agg #[.int .i64 1, .int .i64 (-1)]]) (by simp [results, Tryd.results28, go_sem]) rfl ⟨_, rfl, ints_nil _, ?_⟩
  exact (Below.refl _ _).alloc (Nat.le_refl _) _

set_option maxRecDepth 100000 in
set_option maxHeartbeats 800000 in
theorem textNarrows_walk (a0 : ByteArray) (a1 : Int) (W : World) (hg : Err.Home W) :
    Calls Tryd.prog 6 #[.string a0, .int .i64 a1] W fun e w' => e = .returned (.bool true) ∧ Below W.heap.size W w' := by
  by_cases hs : a0.size ≤ 200
  · have main : ∀ (l : List Int) (c : Int), l.length ≤ 1000000 →
        (∀ W', Calls Tryd.prog 28 #[.string a0, .int .i64 a1] W' (MPost l c W')) →
        (∀ W', Calls Tryd.prog 29 #[.string a0, .int .i64 a1] W' (LPost l c W')) →
        Calls Tryd.prog 6 #[.string a0, .int .i64 a1] W fun e w' => e = .returned (.bool true) ∧ Below W.heap.size W w' := by
      intro l c hl k1 k2
      have HG := Lib.hid hg
      have HL := Lib.hid hl
      have C1 := Lib.hid k1
      have C2 := Lib.hid k2
      have C3 := Lib.hid (fun W => Shw.shown_any a0 (by omega) W)
      have C4 := Lib.hid (fun W => Shw.docShown_any a0 (by omega) W)
      generalize Shw.shT a0 = t at *
      clear hg k1 k2 hl
      go_enter Tryd.func6, Tryd.ntmps6
      go_wp2_with fail
      refine (C1.out _).mono ?_; rintro e w1 ⟨v1, rfl, hI1, h1⟩
      obtain ⟨p1, q1, rfl, hc1⟩ := hI1
      have hI1 : Ints w1 (.slice p1 l.length q1) l := ⟨p1, q1, rfl, hc1⟩
      have H1 := Lib.hid h1
      have I1 := Lib.hid (hI1.below ((Below.refl _ _).alloc (Nat.le_refl _) (.cells #[.int .i64 c, .int .i64 (-1)] 34)))
      clear h1 hI1 hc1
      go_wp2_with fail
      refine (C2.out _).mono ?_; rintro e w2 ⟨v2, x, rfl, hI2, hE, h2⟩
      obtain ⟨p2, q2, rfl, hc2⟩ := hI2
      have I2 := Lib.hid (show Ints w2 (.slice p2 l.length q2) l from ⟨p2, q2, rfl, hc2⟩)
      have c20 : w2.cell? ⟨w1.heap.size, 0, none⟩ = some (.int .i64 c) := keepCell h2 (by simp)
      have c21 : w2.cell? ⟨w1.heap.size, 1, none⟩ = some (.int .i64 (-1)) := keepCell h2 (by simp)
      have I12 := Lib.hid (I1.out.below h2)
      have H2 := Lib.hid ((H1.out.alloc H1.out.size _).trans (h2.mono (le_alloc H1.out.size _)))
      have HE := Lib.hid hE
      clear h2 hE hc2
      go_wp2_with fail
      refine (placed_any x c (-1) c (-1) _ (HG.out.below H2.out) HE.out).mono ?_; rintro e w3 ⟨rfl, h3⟩
      have I13 := Lib.hid (I12.out.below h3)
      have I23 := Lib.hid (I2.out.below h3)
      have H3 := Lib.hid (H2.out.trans (h3.mono H2.out.size))
      clear h3 c20 c21
      go_wp2_with fail
      refine (sameInts_any _ _ l _ I23.out I13.out HL.out).mono ?_; rintro e w4 ⟨rfl, h4⟩
      have H4 := Lib.hid (H3.out.trans (h4.mono H3.out.size))
      clear h4
      go_wp2_with fail
      refine (C3.out _).mono ?_; rintro e w5 ⟨rfl, h5⟩
      have H5 := Lib.hid (H4.out.trans (h5.mono H4.out.size))
      clear h5
      go_wp2_with fail
      refine (C4.out _).mono ?_; rintro e w6 ⟨rfl, rfl⟩
      go_wp2_with fail
      go_ret
      exact ⟨ret_bool (by simp), H5.out⟩
    by_cases ho : a1 = 0 ∨ a1 = 1
    · obtain ⟨o, rfl⟩ := Int.eq_ofNat_of_zero_le (show 0 ≤ a1 by omega)
      exact main (nd a0 o a0.size 0 []) 0 (by have := nd_len a0 o a0.size 0 []; simp at this; omega)
        (fun W' => (docNarrow_any a0 o (by omega) (by omega) W').mono fun e w' ⟨v, h1, h2, h3⟩ => ⟨v, h1, h2, h3⟩)
        (fun W' => (narrow_any a0 o (by omega) (by omega) W').mono fun e w' ⟨v, h1, h2, h3⟩ => ⟨v, _, h1, h2.ints, .inl ⟨rfl, rfl, rfl⟩, h3⟩)
    · exact main [] 1 (by simp) (fun W' => docNarrow_arg a0 a1 (by omega) W') (fun W' => narrow_arg a0 a1 (by omega) W')
  · go_enter Tryd.func6, Tryd.ntmps6
    go_wp2_with fail
    go_ret
    exact ⟨rfl, Below.refl _ _⟩
end Go.Proofs.YtifnochpmlllgaaDoor.Nar
