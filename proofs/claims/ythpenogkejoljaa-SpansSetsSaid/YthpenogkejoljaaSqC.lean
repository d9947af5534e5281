/-
  PROVED HERE: the law SpansSets returns true. Conditions: as each theorem states.
-/
import Derived.Test.YthpenogkejoljaaSqA
import Derived.Test.YthpenogkejoljaaSqB
import Derived.Test.YthpenogkejoljaaSpO
import Derived.Test.YthpenogkejoljaaSpQ
import Derived.Test.YthpenogkejoljaaSpR
namespace Go.Proofs.Ythpenogkejoljaa.Sp
open Go.RowKit
theorem of_ex (w : World) (v : Value) (l : List Spn) (h : Sps w v l) (hb : ∀ x ∈ l, I64 x.1 ∧ I64 x.2) (hn : l.length ≤ 10000) : ∃ r, Same l r ∧ r.length ≤ l.length := by
  obtain ⟨e, w', fr, ⟨v', r, _, _, h1, h2, _⟩, _⟩ := of_any w v l h hb hn []
  exact ⟨r, h1, h2⟩
theorem bstep {a w w' : World} (h : Below a.heap.size a w) (hb : Below w.heap.size w w') : Below a.heap.size a w' := h.trans (hb.mono h.size)
theorem bstepD {a w w' : World} (h : Below a.heap.size a w) (hb : Below w.drew.heap.size w.drew w') : Below a.heap.size a w' := bstep h.drew hb
theorem three_cells (W : World) (x y z : Value) (E1 E2 E3 : TypeId) : (((W.alloc (.cells #[x] E1)).alloc (.cells #[y] E2)).alloc (.cells #[z] E3)).cell? ⟨W.heap.size, 0, none⟩ = some x ∧ (((W.alloc (.cells #[x] E1)).alloc (.cells #[y] E2)).alloc (.cells #[z] E3)).cell? ⟨W.heap.size + 1, 0, none⟩ = some y ∧ (((W.alloc (.cells #[x] E1)).alloc (.cells #[y] E2)).alloc (.cells #[z] E3)).cell? ⟨W.heap.size + 1 + 1, 0, none⟩ = some z := by
  have s1 : (W.alloc (.cells #[x] E1)).heap.size = W.heap.size + 1 := World.size_alloc _ _
  have s2 : ((W.alloc (.cells #[x] E1)).alloc (.cells #[y] E2)).heap.size = W.heap.size + 1 + 1 := by rw [World.size_alloc, s1]
  refine ⟨keepCell ((Below.refl _ _).alloc (Nat.le_refl _) _) (keepCell ((Below.refl _ _).alloc (Nat.le_refl _) _) (new_cell W x E1)), keepCell ((Below.refl _ _).alloc (Nat.le_refl _) _) ?_, ?_⟩
  · have := new_cell (W.alloc (.cells #[x] E1)) y E2
    rwa [s1] at this
  · have := new_cell ((W.alloc (.cells #[x] E1)).alloc (.cells #[y] E2)) z E3
    rwa [s2] at this
set_option maxRecDepth 100000 in
set_option maxHeartbeats 8000000 in
theorem sets_walk (va vb : Value) (la lb : List Spn) (at_ n : Int) (W : World) (ha : Sps W va la) (hb : Sps W vb lb) (ba : ∀ x ∈ la, I64 x.1 ∧ I64 x.2) (bb : ∀ x ∈ lb, I64 x.1 ∧ I64 x.2) (hi : I64 n) :
    Calls Try.prog 4 #[va, vb, .int .i64 at_, .int .i64 n] W fun e w' => e = .returned (.bool true) ∧ Below W.heap.size W w' := by
  have HA := Lib.hid ha
  have HB := Lib.hid hb
  have BA := Lib.hid ba
  have BB := Lib.hid bb
  obtain ⟨pa, ca, rfl, -⟩ := ha
  obtain ⟨pb, cb, rfl, -⟩ := hb
  clear ba bb
  have B3 : Hid (∀ x y z : Value, Below W.heap.size W (((W.alloc (.cells #[x] 22)).alloc (.cells #[y] 22)).alloc (.cells #[z] 3))) := Lib.hid (fun x y z => (((Below.refl _ _).alloc (Nat.le_refl _) _).alloc (by simp) _).alloc (by simp; omega) _)
  by_cases hm : (60 : Int) < (la.length : Int)
  · have C0 := Lib.hid (fun W => by have := many_any W pa la.length ca; rw [decide_eq_true hm] at this; exact this)
    go_enter Try.func4, Try.ntmps4
    go_wp2_with fail
    refine (C0.out _).mono ?_; rintro e w1 ⟨rfl, rfl⟩
    go_wp2_with fail
    go_ret
    exact ⟨rfl, B3.out _ _ _⟩
  have C0 := Lib.hid (fun W => by have := many_any W pa la.length ca; rw [decide_eq_false hm] at this; exact this)
  by_cases hm2 : (60 : Int) < (lb.length : Int)
  · have C1 := Lib.hid (fun W => by have := many_any W pb lb.length cb; rw [decide_eq_true hm2] at this; exact this)
    go_enter Try.func4, Try.ntmps4
    go_wp2_with fail
    refine (C0.out _).mono ?_; rintro e w1 ⟨rfl, rfl⟩
    go_wp2_with fail
    refine (C1.out _).mono ?_; rintro e w1 ⟨rfl, rfl⟩
    go_wp2_with fail
    go_ret
    exact ⟨rfl, B3.out _ _ _⟩
  have C1 := Lib.hid (fun W => by have := many_any W pb lb.length cb; rw [decide_eq_false hm2] at this; exact this)
  have la6 : la.length ≤ 60 := by omega
  have lb6 : lb.length ≤ 60 := by omega
  obtain ⟨a1, sa, na⟩ := of_ex W _ la HA.out BA.out (by omega)
  obtain ⟨b1, sb, nb⟩ := of_ex W _ lb HB.out BB.out (by omega)
  have SA := Lib.hid sa
  have SB := Lib.hid sb
  have na6 : a1.length ≤ 60 := by omega
  clear hm hm2 sa sb na nb
  go_enter Try.func4, Try.ntmps4
  go_wp2_with fail
  refine (C0.out _).mono ?_; rintro e w1 ⟨rfl, rfl⟩
  go_wp2_with fail
  refine (C1.out _).mono ?_; rintro e w1 ⟨rfl, rfl⟩
  clear C0 C1
  have HW3 := B3.out (.slice pa la.length ca) (.slice pb lb.length cb) (.int .i64 n)
  obtain ⟨c4, c5, c7⟩ := three_cells W (.slice pa la.length ca) (.slice pb lb.length cb) (.int .i64 n) 22 22 3
  generalize ((W.alloc (.cells #[.slice pa la.length ca] 22)).alloc (.cells #[.slice pb lb.length cb] 22)).alloc (.cells #[.int .i64 n] 3) = w3 at *
  have HV := Lib.hid HW3
  have HGL := Lib.hid HW3.size
  have HA3 := Lib.hid (HA.out.below HW3)
  have HB3 := Lib.hid (HB.out.below HW3)
  have KK := Lib.hid (fun W' (hW : Below w3.heap.size w3 W') => And.intro (keepCell hW c4) (And.intro (keepCell hW c5) (keepCell hW c7)))
  clear HA HB B3 HW3
  generalize hG : W.heap.size = G at *
  have HGE := Lib.hid hG
  clear hG
  -- or
  have P1 : Below w3.heap.size w3 (w3.alloc (.cells #[.slice pa la.length ca, .slice pb lb.length cb] 22)) := (Below.refl _ _).alloc (Nat.le_refl _) _
  have D1 := Lib.hid (cho1 (g := w3.heap.size) (HA3.out.below P1) (HB3.out.below P1) (by rw [World.cell?_alloc_new]; rfl) (by rw [World.cell?_alloc_new]; rfl) (KK.out _ P1).1 (KK.out _ P1).2.1 BA.out BB.out (by omega) (by omega))
  have Q1 := Lib.hid P1
  clear P1
  go_wp2_with fail
  refine D1.out.mono ?_; rintro e w4 ⟨v9, o1, rfl, h1, h2, n1, h3⟩
  have hB4 := Q1.out.trans (h3.mono Q1.out.size)
  have B4 := Lib.hid hB4
  have O1 := Lib.hid (And.intro h1 (show Same (la ++ lb) o1 from ⟨h2.1, fun a => by rw [h2.2 a, hs_append]⟩))
  have L1 := Lib.hid h2
  obtain ⟨p9, k9, rfl, -⟩ := h1
  obtain ⟨c4, c5, c7⟩ := KK.out _ hB4
  -- and
  have P2 : Below w4.heap.size w4 (w4.alloc (.cells #[.slice pa la.length ca, .slice pb lb.length cb] 22)) := (Below.refl _ _).alloc (Nat.le_refl _) _
  have P3 := hB4.trans (P2.mono hB4.size)
  have D2 := Lib.hid (cho2 (g := w4.heap.size) (HA3.out.below P3) (HB3.out.below P3) (by rw [World.cell?_alloc_new]; rfl) (by rw [World.cell?_alloc_new]; rfl) (KK.out _ P3).1 (KK.out _ P3).2.1 BA.out BB.out (by omega) (by omega))
  have Q2 := Lib.hid P3
  have Q3 := Lib.hid P2
  clear P2 P3 hB4 D1 Q1 h2 h3
  go_wp2_with fail
  refine D2.out.mono ?_; rintro e w5 ⟨v10, o2, rfl, h1, h2, n2, h3⟩
  have hB5 := Q2.out.trans (h3.mono Q2.out.size)
  have B5 := Lib.hid hB5
  have hB45 := Q3.out.trans (h3.mono Q3.out.size)
  have O2 := Lib.hid (And.intro h1 (show Same2 la lb o2 from h2))
  have O1 := Lib.hid (And.intro (O1.out.1.below hB45) O1.out.2)
  obtain ⟨p10, k10, rfl, -⟩ := h1
  obtain ⟨c4, c5, c7⟩ := KK.out _ hB5
  -- not
  have P2 : Below w5.heap.size w5 ((w5.alloc (.cells #[.int .i64 0, .int .i64 n] 26)).alloc (.cells #[.slice pa la.length ca, .slice (some ⟨w5.heap.size, 0, none⟩) 1 1] 22)) := ((Below.refl _ _).alloc (Nat.le_refl _) _).alloc (by simp) _
  have P3 := hB5.trans (P2.mono hB5.size)
  have SN : Sps ((w5.alloc (.cells #[.int .i64 0, .int .i64 n] 26)).alloc (.cells #[.slice pa la.length ca, .slice (some ⟨w5.heap.size, 0, none⟩) 1 1] 22)) (.slice (some ⟨w5.heap.size, 0, none⟩) 1 1) [(0, n)] := ⟨_, 1, rfl, fun j hj => by
    obtain rfl : j = 0 := by simpa using hj
    refine ⟨_, rfl, ?_, ?_⟩
    · rw [Addr.add_mid]; simp
    · rw [Addr.add_mid]; simp⟩
  have D3 := Lib.hid (cho3 (g := w5.heap.size + 1) (HA3.out.below P3) SN hi (by simp) (by simp) (KK.out _ P3).2.2 (KK.out _ P3).1 BA.out (by omega))
  have Q2 := Lib.hid P3
  have Q3 := Lib.hid P2
  clear P2 P3 SN hB5 D2 h2 h3 hB45
  go_wp2_with fail
  refine D3.out.mono ?_; rintro e w6 ⟨v11, o3, rfl, h1, h2, n3, h3⟩
  have hB6 := Q2.out.trans (h3.mono Q2.out.size)
  have B6 := Lib.hid hB6
  have hB56 := Q3.out.trans (h3.mono Q3.out.size)
  have O3 := Lib.hid (And.intro h1 (show SameN la n o3 from h2))
  have O1 := Lib.hid (And.intro (O1.out.1.below hB56) O1.out.2)
  have O2 := Lib.hid (And.intro (O2.out.1.below hB56) O2.out.2)
  obtain ⟨p11, k11, rfl, -⟩ := h1
  obtain ⟨c4, c5, c7⟩ := KK.out _ hB6
  have D4 := Lib.hid (spansOf_is w6 _ la a1 (HA3.out.below hB6) BA.out (by omega) SA.out)
  clear D3 h2 h3 hB56 hB6 Q2 Q3 L1
  go_wp2_with fail
  refine D4.out.mono ?_; rintro e w7 ⟨v39, rfl, h1, h2⟩
  have B7 := Lib.hid (B6.out.trans (h2.mono B6.out.size))
  have U := Lib.hid h1
  have O1 := Lib.hid (And.intro (O1.out.1.below h2) O1.out.2)
  have O2 := Lib.hid (And.intro (O2.out.1.below h2) O2.out.2)
  have O3 := Lib.hid (And.intro (O3.out.1.below h2) O3.out.2)
  obtain ⟨b, cp, rfl, -⟩ := h1
  clear D4 h2
  go_wp2_with fail
  go_loopw [12, 41] (fun u i wr => ∃ (k : Nat) (m : Int), k ≤ a1.length ∧ i = .int .i64 (k : Int) ∧ u = .int .i64 m ∧ Hid (sz m (a1.drop k) = sz 0 a1) ∧ Hid (Below w7.heap.size w7 wr)) (fun _ i _ => a1.length - (intOf i).toNat)
  case atStart => exact ⟨0, 0, Nat.zero_le _, rfl, rfl, Lib.hid rfl, Lib.hid (Below.refl _ _)⟩
  case round =>
    obtain ⟨k, m, hk, rfl, rfl, hF, hB⟩ := hrel
    by_cases hlt : k < a1.length
    · obtain ⟨ad, rfl, x0, x1⟩ := U.out.at_ k hlt
      have i1 : (0 : Int) ≤ (k : Int) := by omega
      have i2 : (k : Int) < (a1.length : Int) := by omega
      have y0 := keepCell hB.out x0
      have y1 := keepCell hB.out x1
      have hT := sz_at m a1 k hlt
      rw [hF.out] at hT
      clear x0 x1 hF
      generalize a1[k] = x at *
      obtain ⟨xf, xt⟩ := x
      simp only at y0 y1 hT
      have hT2 := Lib.hid hT.symm
      have hT3 : Hid (sz (wrap64 (m + wrap64 (xt - xf))) (a1.drop (k + 1)) = sz 0 a1) := Lib.hid (by
        have e : wrap64 (m + wrap64 (xt - xf)) = IntKind.i64.wrap (m + (xt - xf)) := by rw [IntKind.wrap_i64]; unfold wrap64; omega
        rw [e]; exact hT2.out)
      have hB2 := Lib.hid (hB.out.alloc hB.out.size (.cells #[.int .i64 xf, .int .i64 xt] 26))
      clear hT
      go_wp2_with fail
      go_roundw
      case rel => exact ⟨k + 1, _, by omega, by go_num, rfl, hT3, hB2⟩
      case measure => simp [intOf]; omega
    · have hk2 : k = a1.length := by omega
      obtain rfl : m = sz 0 a1 := by have := hF.out; rw [hk2, List.drop_length] at this; exact this
      have hB8 := B7.out.trans (hB.out.mono B7.out.size)
      have HX := Lib.hid hB8
      have O1 := Lib.hid (And.intro (O1.out.1.below hB.out) O1.out.2)
      have O2 := Lib.hid (And.intro (O2.out.1.below hB.out) O2.out.2)
      have O3 := Lib.hid (And.intro (O3.out.1.below hB.out) O3.out.2)
      have kd : decide ((k : Int) < (a1.length : Int)) = false := decide_eq_false (by omega)
      obtain ⟨q4, q5, q7⟩ := KK.out _ hB8
      have M1 := Lib.hid (fun W' (hW : Below w3.heap.size w3 W') => right_any W' _ la (HA3.out.below hW) (by omega))
      have M2 := Lib.hid (fun W' (hW : Below w3.heap.size w3 W') => docRight_any W' _ la (HA3.out.below hW) (by omega))
      have M3 := Lib.hid (fun W' (hW : Below w3.heap.size w3 W') => progHas_any W' _ la at_ (HA3.out.below hW) (by omega))
      have M4 := Lib.hid (fun W' (hW : Below w3.heap.size w3 W') => has_any W' _ la at_ (HA3.out.below hW) (by omega))
      have M5 := Lib.hid (fun W' (hW : Below w3.heap.size w3 W') => of_is W' _ la a1 (HA3.out.below hW) BA.out (by omega) SA.out)
      have M6 := Lib.hid (fun W' (hW : Below w3.heap.size w3 W') => spansOf_is W' _ la a1 (HA3.out.below hW) BA.out (by omega) SA.out)
      have M7 := Lib.hid (fun W' (hW : Below w3.heap.size w3 W') => or_is W' _ _ la lb o1 (HA3.out.below hW) (HB3.out.below hW) BA.out BB.out (by omega) (by omega) O1.out.2)
      have M8 := Lib.hid (fun W' (hW : Below w3.heap.size w3 W') => and_is W' _ _ la lb a1 b1 o2 (HA3.out.below hW) (HB3.out.below hW) BA.out BB.out (by omega) (by omega) SA.out SB.out O2.out.2)
      have M9 := Lib.hid (fun W' (hW : Below w3.heap.size w3 W') => not_is W' _ la a1 o3 n (HA3.out.below hW) BA.out (by omega) SA.out O3.out.2)
      have M10 := Lib.hid (fun W' (hW : Below w3.heap.size w3 W') => size_any W' _ la a1 (HA3.out.below hW) BA.out (by omega) SA.out)
      generalize rt (-1) la = Rb at *
      generalize hsb la at_ = Hb at *
      generalize sz 0 a1 = Sz at *
      have e1 : (Rb == Rb) = true := by simp
      have e2 : (Hb == Hb) = true := by simp
      have e3 : (Sz == Sz) = true := by simp
      clear hF
      go_wp2_with fail
      go_upto_region 12 with fail
      have HZ := Lib.hid (Below.refl wr.heap.size wr)
      clear B7
      go_region_held3 (fun w' => w'.cell? ⟨G, 0, none⟩ = some (.slice pa la.length ca) ∧ w'.cell? ⟨G + 1, 0, none⟩ = some (.slice pb lb.length cb) ∧ w'.cell? ⟨G + 1 + 1, 0, none⟩ = some (.int .i64 n))
        (first | exact KK.out _ HX.out | exact KK.out _ HX.out.drew)
        (first
          | (go_at_call 16; refine (M1.out _ (by first | exact HX.out | exact HX.out.drew)).mono ?_; rintro e W' ⟨rfl, hb⟩; have HX : Hid (Below w3.heap.size w3 W') := Lib.hid (by first | exact bstep HX.out hb | exact bstepD HX.out hb); have HZ : Hid (Below wr.heap.size wr W') := Lib.hid (by first | exact bstep HZ.out hb | exact bstepD HZ.out hb); clear hb)
          | (go_at_call 17; refine (M2.out _ (by first | exact HX.out | exact HX.out.drew)).mono ?_; rintro e W' ⟨rfl, hb⟩; have HX : Hid (Below w3.heap.size w3 W') := Lib.hid (by first | exact bstep HX.out hb | exact bstepD HX.out hb); have HZ : Hid (Below wr.heap.size wr W') := Lib.hid (by first | exact bstep HZ.out hb | exact bstepD HZ.out hb); clear hb)
          | (go_at_call 18; refine (M3.out _ (by first | exact HX.out | exact HX.out.drew)).mono ?_; rintro e W' ⟨rfl, hb⟩; have HX : Hid (Below w3.heap.size w3 W') := Lib.hid (by first | exact bstep HX.out hb | exact bstepD HX.out hb); have HZ : Hid (Below wr.heap.size wr W') := Lib.hid (by first | exact bstep HZ.out hb | exact bstepD HZ.out hb); clear hb)
          | (go_at_call 13; refine (M4.out _ (by first | exact HX.out | exact HX.out.drew)).mono ?_; rintro e W' ⟨rfl, hb⟩; have HX : Hid (Below w3.heap.size w3 W') := Lib.hid (by first | exact bstep HX.out hb | exact bstepD HX.out hb); have HZ : Hid (Below wr.heap.size wr W') := Lib.hid (by first | exact bstep HZ.out hb | exact bstepD HZ.out hb); clear hb)
          | (go_at_call 19; refine (M5.out _ (by first | exact HX.out | exact HX.out.drew)).mono ?_; rintro e W' ⟨v5, rfl, s5, hb⟩; have HX : Hid (Below w3.heap.size w3 W') := Lib.hid (by first | exact bstep HX.out hb | exact bstepD HX.out hb); have HZ : Hid (Below wr.heap.size wr W') := Lib.hid (by first | exact bstep HZ.out hb | exact bstepD HZ.out hb); have S5 := Lib.hid s5; clear hb s5)
          | (go_at_call 6; refine (M6.out _ (by first | exact HX.out | exact HX.out.drew)).mono ?_; rintro e W' ⟨v6, rfl, s6, hb⟩; have SAM := Lib.hid (same_any W' v5 v6 a1 (S5.out.below hb) s6 (by omega)); have HX : Hid (Below w3.heap.size w3 W') := Lib.hid (by first | exact bstep HX.out hb | exact bstepD HX.out hb); have HZ : Hid (Below wr.heap.size wr W') := Lib.hid (by first | exact bstep HZ.out hb | exact bstepD HZ.out hb); clear hb s6)
          | (go_at_call 20; refine (M7.out _ (by first | exact HX.out | exact HX.out.drew)).mono ?_; rintro e W' ⟨v7, rfl, s7, hb⟩; have HX : Hid (Below w3.heap.size w3 W') := Lib.hid (by first | exact bstep HX.out hb | exact bstepD HX.out hb); have HZ : Hid (Below wr.heap.size wr W') := Lib.hid (by first | exact bstep HZ.out hb | exact bstepD HZ.out hb); have SAM := Lib.hid (same_any W' v7 _ o1 s7 (O1.out.1.below HZ.out) (by omega)); clear hb s7)
          | (go_at_call 21; refine (M8.out _ (by first | exact HX.out | exact HX.out.drew)).mono ?_; rintro e W' ⟨v8, rfl, s7, hb⟩; have HX : Hid (Below w3.heap.size w3 W') := Lib.hid (by first | exact bstep HX.out hb | exact bstepD HX.out hb); have HZ : Hid (Below wr.heap.size wr W') := Lib.hid (by first | exact bstep HZ.out hb | exact bstepD HZ.out hb); have SAM := Lib.hid (same_any W' v8 _ o2 s7 (O2.out.1.below HZ.out) (by omega)); clear hb s7)
          | (go_at_call 22; refine (M9.out _ (by first | exact HX.out | exact HX.out.drew)).mono ?_; rintro e W' ⟨v9, rfl, s7, hb⟩; have HX : Hid (Below w3.heap.size w3 W') := Lib.hid (by first | exact bstep HX.out hb | exact bstepD HX.out hb); have HZ : Hid (Below wr.heap.size wr W') := Lib.hid (by first | exact bstep HZ.out hb | exact bstepD HZ.out hb); have SAM := Lib.hid (same_any W' v9 _ o3 s7 (O3.out.1.below HZ.out) (by omega)); clear hb s7)
          | (go_at_call 9; refine SAM.out.mono ?_; rintro e W' ⟨rfl, hb⟩; have HX : Hid (Below w3.heap.size w3 W') := Lib.hid (by first | exact bstep HX.out hb | exact bstepD HX.out hb); have HZ : Hid (Below wr.heap.size wr W') := Lib.hid (by first | exact bstep HZ.out hb | exact bstepD HZ.out hb); clear hb)
          | (go_at_call 23; refine (M10.out _ (by first | exact HX.out | exact HX.out.drew)).mono ?_; rintro e W' ⟨rfl, hb⟩; have HX : Hid (Below w3.heap.size w3 W') := Lib.hid (by first | exact bstep HX.out hb | exact bstepD HX.out hb); have HZ : Hid (Below wr.heap.size wr W') := Lib.hid (by first | exact bstep HZ.out hb | exact bstepD HZ.out hb); clear hb))
      have HF := Lib.hid (HV.out.trans (HX.out.mono HGL.out))
      go_wp2_with fail
      go_ret
      exact ⟨rfl, by rw [HGE.out]; exact HF.out⟩
end Go.Proofs.Ythpenogkejoljaa.Sp
