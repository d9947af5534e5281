/-
  PROVED HERE: that the law SumsOf returns true. Conditions: as each theorem states.
-/
import Derived.Test.YtifnochpmlllgaaDoorSumR
import Derived.Deep.DrawnRows
import Derived.Test.YtifnochpmlllgaaDoorAgg
namespace Go.Proofs.YtifnochpmlllgaaDoor.Sum
open Go.RowKit
attribute [local go_sem ↓] Go.wp_at_zero Go.wp_at_succ
/-- The struct in its cells, and what was there before. -/
def Fs (W : World) (w : Int) (P : Nat) (t : Bool) (I O : Nat) (wr : World) : Prop := (wr.cell? ⟨W.heap.size, 0, none⟩ = some (.int .i64 w) ∧ wr.cell? ⟨W.heap.size, 1, none⟩ = some (.int .u32 P) ∧ wr.cell? ⟨W.heap.size, 2, none⟩ = some (.bool t) ∧ wr.cell? ⟨W.heap.size, 3, none⟩ = some (.int .u32 I) ∧ wr.cell? ⟨W.heap.size, 4, none⟩ = some (.int .u32 O)) ∧ Below W.heap.size W wr
theorem Fs.drew {W : World} {w : Int} {P : Nat} {t : Bool} {I O : Nat} {wr : World} (h : Fs W w P t I O wr) : Fs W w P t I O wr.drew := ⟨h.1, h.2.drew⟩
theorem Fs.next {W : World} {w : Int} {P : Nat} {t : Bool} {I O : Nat} {wr w' : World} (h : Fs W w P t I O wr) (hb : Below wr.heap.size wr w') : Fs W w P t I O w' :=
  ⟨⟨keepCell hb h.1.1, keepCell hb h.1.2.1, keepCell hb h.1.2.2.1, keepCell hb h.1.2.2.2.1, keepCell hb h.1.2.2.2.2⟩, h.2.trans (hb.mono h.2.size)⟩
theorem Fs.call {f : FuncId} {args : Array Value} {R : Ending} {W : World} {w : Int} {P : Nat} {t : Bool} {I O : Nat} {wr : World} (hF : Hid (Fs W w P t I O wr)) (h : Calls Tryd.prog f args wr fun e w' => e = R ∧ Below wr.heap.size wr w') :
    Calls Tryd.prog f args wr fun e w' => e = R ∧ Hid (Fs W w P t I O w') := h.mono fun _ _ ⟨a, b⟩ => ⟨a, Lib.hid (hF.out.next b)⟩
theorem hfs_drew {W : World} {w : Int} {P : Nat} {t : Bool} {I O : Nat} {wr : World} (h : Hid (Fs W w P t I O wr)) : Hid (Fs W w P t I O wr.drew) := Lib.hid h.out.drew
set_option maxRecDepth 100000 in
set_option maxHeartbeats 4000000 in
theorem law_main (w : Int) (P : Nat) (t : Bool) (I O : Nat) (s : ByteArray) (hs : s.size ≤ 120) (hw : -9223372036854775808 ≤ w ∧ w ≤ 9223372036854775807) (hP : P < 4294967296) (hI : I < 4294967296) (hO : O < 4294967296) (v : Nat) (c : Int) (W : World) (hg : Err.Home W)
    (hc1 : ∀ W', Calls Tryd.prog 42 #[Sm w P t I O, .string s] W' (DSP v c W')) (hc2 : ∀ W', Calls Tryd.prog 43 #[Sm w P t I O, .string s] W' (SPo v c W')) :
    Calls Tryd.prog 9 #[Sm w P t I O, .string s] W fun e w' => e = .returned (.bool true) ∧ Below W.heap.size W w' := by
  have HG := Lib.hid hg
  have C1 := Lib.hid hc1
  have C2 := Lib.hid hc2
  have R1 := Lib.hid (right_any w P t I O hw hP hI hO)
  have R2 := Lib.hid (docRight_any w P t I O hw hP hI hO)
  have K1 := Lib.hid (crc_any s (by omega))
  have K2 := Lib.hid (docCrc_of docOf_yes s (by omega))
  generalize crcOf s = k at *
  generalize decide (good w P I O) = gd at *
  clear hc1 hc2 hg
  unfold Sm at C1 C2 R1 R2 ⊢
  go_enter Tryd.func9, Tryd.ntmps9
  go_wp2_with fail
  refine (C1.out _).mono ?_; rintro e w1 ⟨rfl, h1⟩
  have F1 : Hid (Fs W w P t I O w1) := Lib.hid (Fs.next ⟨⟨by simp, by simp, by simp, by simp, by simp⟩, (Below.refl _ _).alloc (Nat.le_refl _) _⟩ h1)
  obtain ⟨d0, d1, d2, d3, d4⟩ := F1.out.1
  clear h1
  go_wp2_with fail
  refine (C2.out _).mono ?_; rintro e w2 ⟨x, rfl, hx, h2⟩
  have F2 : Hid (Fs W w P t I O w2) := Lib.hid (F1.out.next h2)
  have B2 := Lib.hid (Err.bare_any x c (-1) c w2.drew (HG.out.below F2.out.drew.2) hx)
  obtain ⟨e0, e1, e2, e3, e4⟩ := F2.out.1
  clear h2 d0 d1 d2 d3 d4 hx
  go_wp2_with fail
  go_region_with (first | (go_at_call 16; refine (Fs.call (hfs_drew F2) B2.out).mono ?_; rintro e w3 ⟨rfl, F3⟩; obtain ⟨g0, g1, g2, g3, g4⟩ := F3.out.1) | (go_at_call 44; refine (Fs.call (by assumption) (R1.out _)).mono ?_; rintro e w4 ⟨rfl, F4⟩; obtain ⟨h0, h1, h2, h3, h4⟩ := F4.out.1) | (go_at_call 45; refine (Fs.call (by assumption) (R2.out _)).mono ?_; rintro e w5 ⟨rfl, F5⟩; obtain ⟨i0, i1, i2, i3, i4⟩ := F5.out.1) | (go_at_call 46; refine (Fs.call (by assumption) (K1.out _)).mono ?_; rintro e w6 ⟨rfl, F6⟩) | (go_at_call 47; refine (Fs.call (by assumption) (K2.out _)).mono ?_; rintro e w7 ⟨rfl, F7⟩))
  all_goals
    go_wp2_with fail
    go_ret
    first | exact ⟨ret_bool (by simp), F7.out.2⟩ | exact ⟨ret_bool (by simp), F6.out.2⟩
set_option maxRecDepth 100000 in
set_option maxHeartbeats 1000000 in
theorem sumsOf_walk (w P : Int) (t : Bool) (I O : Int) (s : ByteArray) (w0 : (Lit.int .i64 w).wf = true) (w1 : (Lit.int .u32 P).wf = true) (w3 : (Lit.int .u32 I).wf = true) (w4 : (Lit.int .u32 O).wf = true) (W : World) (hg : Err.Home W) :
    Calls Tryd.prog 9 #[.agg #[.int .i64 w, .int .u32 P, .bool t, .int .u32 I, .int .u32 O], .string s] W fun e w' => e = .returned (.bool true) ∧ Below W.heap.size W w' := by
  have hw := bounds_i64 w0
  obtain ⟨p0, p1⟩ := bounds_u32 w1
  obtain ⟨i0, i1⟩ := bounds_u32 w3
  obtain ⟨o0, o1⟩ := bounds_u32 w4
  obtain ⟨P, rfl⟩ := Int.eq_ofNat_of_zero_le p0
  obtain ⟨I, rfl⟩ := Int.eq_ofNat_of_zero_le i0
  obtain ⟨O, rfl⟩ := Int.eq_ofNat_of_zero_le o0
  by_cases hs : s.size ≤ 120
  · by_cases hgd : good w P I O
    · obtain ⟨g1, g2, g3, g4, g5⟩ := hgd
      obtain ⟨w, rfl⟩ := Int.eq_ofNat_of_zero_le (show 0 ≤ w by omega)
      simp only [Int.toNat_natCast] at g3 g4 g5
      exact law_main w P t I O s hs hw (by omega) (by omega) (by omega) _ 0 W hg (fun W' => docOf_yes w P t I O s (by omega) (by omega) g2 g3 g4 g5 W') (fun W' => of_yes w P t I O s (by omega) (by omega) g2 g3 g4 g5 W')
    · exact law_main w P t I O s hs hw (by omega) (by omega) (by omega) 0 1 W hg (fun W' => docOf_no w P t I O s hgd hw (by omega) (by omega) (by omega) W') (fun W' => of_no w P t I O s hgd hw (by omega) (by omega) (by omega) W')
  · have h2 : ¬ (s.size : Int) ≤ 120 := by omega
    clear hg hw w0 w1 w3 w4
    go_enter Tryd.func9, Tryd.ntmps9
    go_wp2_with fail
    go_ret
    exact ⟨rfl, (Below.refl _ _).alloc (Nat.le_refl _) _⟩
end Go.Proofs.YtifnochpmlllgaaDoor.Sum
