/-
  PROVED HERE: the contract of the document's TextWide, and that the law TextEncodes returns true. Conditions: as each theorem states.
-/
import Derived.Test.YtifnochpmlllgaaDoorEncD
import Derived.Test.YtifnochpmlllgaaDoorDocW
namespace Go.Proofs.YtifnochpmlllgaaDoor.Enc
open Go.RowKit Go.Proofs.YtifnochpmlllgaaDoor.Chr

theorem putS_two (h o : Nat) (ho : o ≤ 1) (hh : h < 65536) : DocW.putS h 2 o = ⟨(two o h).toArray⟩ := by
  rcases (show o = 0 ∨ o = 1 by omega) with rfl | rfl
  · apply ByteArray.ext
    simp [DocW.putS, DocW.loS, DocW.loB, DocW.byN, two, List.range_succ]
    all_goals first | done | skip
    rw [← UInt8.toNat_inj]; simp [UInt8.toNat_ofNat']
  · apply ByteArray.ext
    simp [DocW.putS, Ref.rev, DocW.loS, DocW.loB, DocW.byN, two, List.range_succ]
    all_goals first | done | skip
    rw [← UInt8.toNat_inj]; simp [UInt8.toNat_ofNat']
theorem docHalf (h o : Nat) (ho : o ≤ 1) (hh : h < 65536) (W : World) :
    Calls Tryd.prog 80 #[.int .u64 h, .int .i64 2, .int .i64 o] W fun e w' => e = .returned (.tuple #[.string ⟨(two o h).toArray⟩, .int .i64 0]) ∧ Below W.heap.size W w' := by
  rw [← putS_two h o ho hh]
  exact DocW.docPut_yes h 2 o (by omega) ho ⟨by omega, by omega⟩ (by omega) W

set_option maxRecDepth 100000 in
set_option maxHeartbeats 1000000 in
theorem docWide_any (v : Value) (l : List Int) (o : Nat) (ho : o ≤ 1) (W : World) (hi : Ints W v l) (hl : l.length ≤ 1000) (hw : ∀ x ∈ l, -9223372036854775808 ≤ x ∧ x ≤ 9223372036854775807) :
    Calls Tryd.prog 35 #[v, .int .i64 o] W fun e w' => e = .returned (.tuple #[.string (er (wb o) l 0 []).str, .agg #[.int .i64 (er (wb o) l 0 []).err, .int .i64 (er (wb o) l 0 []).at_]]) ∧ Below W.heap.size W w' := by
  obtain ⟨a, cap, rfl, hc⟩ := hi
  have hcH := Lib.hid hc
  have hwH := Lib.hid hw
  clear hc hw
  generalize hZ0 : er (wb o) l 0 [] = Z at *
  have hZ : Hid (er (wb o) (l.drop 0) 0 [] = Z) := Lib.hid hZ0
  clear hZ0
  go_enter Tryd.func35, Tryd.ntmps35
  go_wp2_with fail
  refine (Ref.within_yes _ _ _ (by omega) (by omega) _).mono ?_; rintro e w' ⟨rfl, rfl⟩
  go_wp2_with fail
  go_loopw [6, 20] (fun b i wr => ∃ (k : Nat) (out : List UInt8), k ≤ l.length ∧ i = .int .i64 k ∧ Hid (er (wb o) (l.drop k) k out = Z) ∧ out.length ≤ 4 * k ∧ b = .string ⟨out.toArray⟩ ∧ Hid (Fr W wr)) (fun _ i _ => l.length - (intOf i).toNat)
  case atStart => exact ⟨0, [], Nat.zero_le _, rfl, hZ, Nat.le_refl _, rfl, Lib.hid (fr_new _ _ _ _)⟩
  case round =>
    obtain ⟨k, out, hk, rfl, hu, hol, rfl, hF⟩ := hrel
    clear hZ
    by_cases hlt : k < l.length
    · obtain ⟨ad, rfl, hcell0⟩ := hcH.out k hlt
      have hcell := (hF.out.1.cell (p := ad.add k) (World.block_lt_of_cell? W _ hcell0)).trans hcell0
      have hx := hwH.out l[k] (List.getElem_mem hlt)
      have i1 : (0 : Int) ≤ (k : Int) := by omega
      have i2 : (k : Int) < (l.length : Int) := by omega
      by_cases hs : sgn l[k]
      · have hn := sgn_nat _ hs
        have hu2 := Lib.hid ((er_go (wb o) l k out hlt hs).symm.trans hu.out)
        obtain ⟨r, hr⟩ := Int.eq_ofNat_of_zero_le hn.1
        rw [hr] at hcell hs hu2 hn
        rw [Int.toNat_natCast] at hu2
        have hlen := Lib.hid (wb_len o r)
        have hz2 : (⟨out.toArray⟩ : ByteArray).size ≤ 4000 := by rw [size_list]; omega
        clear hcell0 hr hx
        by_cases hr6 : r < 65536
        · have e6 := Lib.hid (wb_small o r hr6)
          have t6 : decide ((65535 : Int) < (r : Int)) = false := decide_eq_false (by omega)
          have hSL := Lib.hid (snoc_list out (two o r))
          have hz3 : (⟨(two o r).toArray⟩ : ByteArray).size = 2 := by rw [size_list, two_len]
          have hz4 : (⟨(two o r).toArray⟩ : ByteArray).size ≤ 2 := by omega
          clear hz3
          go_wp2_with fail
          refine (isSign_yes _ hs _).mono ?_; rintro e w' ⟨rfl, rfl⟩
          go_wp2_with fail
          refine wp_loop_rounds 2 ?_
          rw [rounds_succ]
          go_wp2_with fail
          refine (docHalf r o ho hr6 _).mono ?_; rintro e w1 ⟨rfl, hb1⟩
          have hF1 := Lib.hid ((hF.out.below ((Below.refl _ _).alloc (Nat.le_refl _) _)).below hb1)
          clear hb1
          go_wp2_with fail
          rw [rounds_succ]
          go_wp2_with fail
          go_roundw
          case rel => exact ⟨k + 1, out ++ two o r, by omega, by go_num, by rw [← e6.out]; exact hu2, by simp [two_len]; omega, by rw [← hSL.out], hF1⟩
          case measure => simp [intOf]; omega
        · have e6 := Lib.hid (wb_great o r hr6 out)
          have t6 : decide ((65535 : Int) < (r : Int)) = true := decide_eq_true (by omega)
          have hSL := Lib.hid (snoc_list out (two o (55296 + (r - 65536) / 1024)))
          have hSL2 := Lib.hid (snoc_list (out ++ two o (55296 + (r - 65536) / 1024)) (two o (56320 + (r - 65536) % 1024)))
          have hz3 : ∀ h, (⟨(two o h).toArray⟩ : ByteArray).size = 2 := fun h => by rw [size_list, two_len]
          have hz4 : (⟨(two o (55296 + (r - 65536) / 1024)).toArray⟩ : ByteArray).size ≤ 2 := by rw [hz3]; omega
          have hz5 : (⟨(two o (56320 + (r - 65536) % 1024)).toArray⟩ : ByteArray).size ≤ 2 := by rw [hz3]; omega
          have c1 : 55296 + (r - 65536) / 1024 < 65536 := by omega
          have c2 : 56320 + (r - 65536) % 1024 < 65536 := by omega
          have x1 := Lib.hid (show (55296 : Int) + ((r : Int) - 65536) / 1024 = ((55296 + (r - 65536) / 1024 : Nat) : Int) by omega)
          have x2 := Lib.hid (show (56320 : Int) + ((r : Int) - 65536) % 1024 = ((56320 + (r - 65536) % 1024 : Nat) : Int) by omega)
          have hr7 : (65536 : Int) ≤ (r : Int) := by omega
          have C1 := Lib.hid c1
          have C2 := Lib.hid c2
          clear hz3 hr6 c1 c2
          go_wp2_with fail
          refine (isSign_yes _ hs _).mono ?_; rintro e w' ⟨rfl, rfl⟩
          go_wp2_with fail
          refine wp_loop_rounds 3 ?_
          rw [rounds_succ]
          go_wp2_with fail
          rw [x1.out]
          refine (docHalf _ o ho C1.out _).mono ?_; rintro e w1 ⟨rfl, hb1⟩
          have d1 : w1.cell? ⟨wr.heap.size + 1, 1, none⟩ = some (.int .i64 (56320 + ((r : Int) - 65536) % 1024)) := keepCell hb1 (by simp)
          have hF1 := Lib.hid (((hF.out.below ((Below.refl _ _).alloc (Nat.le_refl _) _)).below ((Below.refl _ _).alloc (Nat.le_refl _) _)).below hb1)
          clear hb1
          go_wp2_with fail
          rw [rounds_succ]
          go_wp2_with fail
          rw [x2.out]
          refine (docHalf _ o ho C2.out _).mono ?_; rintro e w2 ⟨rfl, hb2⟩
          have hF2 := Lib.hid (hF1.out.below hb2)
          clear hb2 d1
          rw [hSL.out]
          have hz6 : (⟨(out ++ two o (55296 + (r - 65536) / 1024)).toArray⟩ : ByteArray).size ≤ 4004 := by rw [size_list]; simp [two_len]; omega
          go_wp2_with fail
          rw [rounds_succ]
          go_wp2_with fail
          go_roundw
          case rel => exact ⟨k + 1, out ++ wb o r, by omega, by go_num, hu2, by have := hlen.out; simp; omega, by rw [hSL2.out, e6.out], hF2⟩
          case measure => simp [intOf]; omega
      · have hu2 := Lib.hid ((er_bad (wb o) l k out hlt hs).symm.trans hu.out)
        have hsH := Lib.hid hs
        obtain ⟨hB, ⟨x0, c0⟩, ⟨x1, c1⟩, f0, f1⟩ := hF.out
        clear hs hcell0 hB
        generalize l[k] = r at *
        go_wp2_with fail
        refine (isSign_no _ hsH.out _).mono ?_; rintro e w' ⟨rfl, rfl⟩
        go_wp2_with fail
        refine bodyPost_ret (v := .tuple #[.string ⟨#[]⟩, .agg #[.int .i64 1, .int .i64 k]]) (by simp [results, Tryd.results35, go_sem, c0, c1]) rfl ?_
        rw [← hu2.out]
        exact ⟨rfl, hF.out.stored _ _⟩
    · have hu2 := Lib.hid ((er_end (wb o) l k out (by omega)).symm.trans hu.out)
      go_wp2_with fail
      refine (good_any _).mono ?_; rintro e w1 ⟨rfl, hb1⟩
      have hF1 := Lib.hid (hF.out.below hb1)
      clear hb1
      obtain ⟨hB, ⟨x0, c0⟩, ⟨x1, c1⟩, f0, f1⟩ := hF1.out
      clear hB
      go_wp2_with fail
      refine bodyPost_ret (v := .tuple #[.string ⟨out.toArray⟩, .agg #[.int .i64 0, .int .i64 (-1)]]) (by simp [results, Tryd.results35, go_sem, c0, c1]) rfl ?_
      rw [← hu2.out]
      exact ⟨rfl, hF1.out.stored _ _⟩
theorem wide_arg (v : Value) (o : Int) (ho : o ≠ 0 ∧ o ≠ 1) (W : World) :
    Calls Tryd.prog 36 #[v, .int .i64 o] W (RPost (.bad 1 (-1)) W) := by
  have t0 : (o != 0) = true := by rw [bne_iff_ne]; exact ho.1
  have t1 : (o != 1) = true := by rw [bne_iff_ne]; exact ho.2
  clear ho
  go_enter Tryd.func36, Tryd.ntmps36
  go_wp2_with fail
  go_ret2
  exact ⟨_, rfl, .inr (.inl ⟨rfl, rfl⟩), (Below.refl _ _).alloc (Nat.le_refl _) _⟩
theorem docWide_arg (v : Value) (o : Int) (ho : o ≠ 0 ∧ o ≠ 1) (W : World) :
    Calls Tryd.prog 35 #[v, .int .i64 o] W fun e w' => e = .returned (.tuple #[.string (Res.bad 1 (-1)).str, .agg #[.int .i64 (Res.bad 1 (-1)).err, .int .i64 (Res.bad 1 (-1)).at_]]) ∧ Below W.heap.size W w' := by
  have h : o < 0 ∨ 1 < o := by omega
  have H := Lib.hid h
  clear h ho
  go_enter Tryd.func35, Tryd.ntmps35
  go_wp2_with fail
  refine (Ref.within_no _ _ _ H.out _).mono ?_; rintro e w' ⟨rfl, rfl⟩
  go_wp2_with fail
  refine bodyPost_ret (v := .tuple #[.string ⟨#[]⟩, .agg #[.int .i64 1, .int .i64 (-1)]]) (by simp [results, Tryd.results35, go_sem]) rfl ⟨rfl, ?_⟩
  exact (Below.refl _ _).alloc (Nat.le_refl _) _

set_option maxRecDepth 100000 in
set_option maxHeartbeats 800000 in
theorem textEncodes_walk (v : Value) (l : List Int) (a1 : Int) (W : World) (hg : Err.Home W) (hi : Ints W v l) (hw : ∀ x ∈ l, -9223372036854775808 ≤ x ∧ x ≤ 9223372036854775807) :
    Calls Tryd.prog 7 #[v, .int .i64 a1] W fun e w' => e = .returned (.bool true) ∧ Below W.heap.size W w' := by
  by_cases hs : l.length ≤ 60
  · have main : ∀ (Y : Res),
        (∀ W', Ints W' v l → Calls Tryd.prog 35 #[v, .int .i64 a1] W' fun e w' => e = .returned (.tuple #[.string Y.str, .agg #[.int .i64 Y.err, .int .i64 Y.at_]]) ∧ Below W'.heap.size W' w') →
        (∀ W', Ints W' v l → Calls Tryd.prog 36 #[v, .int .i64 a1] W' (RPost Y W')) →
        Calls Tryd.prog 7 #[v, .int .i64 a1] W fun e w' => e = .returned (.bool true) ∧ Below W.heap.size W w' := by
      intro Y k1 k2
      have HG := Lib.hid hg
      have HI := Lib.hid hi
      have C1 := Lib.hid (fun W h => docEncode_any v l W h (by omega) hw)
      have C2 := Lib.hid (fun W h => encode_any v l W h (by omega) hw)
      have C3 := Lib.hid k1
      have C4 := Lib.hid k2
      clear hg k1 k2 hw
      generalize er sb l 0 [] = Z at *
      obtain ⟨a, cap, rfl, hc⟩ := hi
      clear hc
      go_enter Tryd.func7, Tryd.ntmps7
      go_wp2_with fail
      refine (C1.out _ HI.out).mono ?_; rintro e w1 ⟨rfl, h1⟩
      have H1 := Lib.hid h1
      have I1 := Lib.hid ((HI.out.below h1).below ((Below.refl _ _).alloc (Nat.le_refl _) (.cells #[.int .i64 Z.err, .int .i64 Z.at_] 34)))
      clear h1
      go_wp2_with fail
      refine (C2.out _ I1.out).mono ?_; rintro e w2 ⟨v2, rfl, hE, h2⟩
      have c20 : w2.cell? ⟨w1.heap.size, 0, none⟩ = some (.int .i64 Z.err) := keepCell h2 (by simp)
      have c21 : w2.cell? ⟨w1.heap.size, 1, none⟩ = some (.int .i64 Z.at_) := keepCell h2 (by simp)
      have H2 := Lib.hid ((H1.out.alloc H1.out.size _).trans (h2.mono (le_alloc H1.out.size _)))
      have HE := Lib.hid hE
      have I2 := Lib.hid (I1.out.below h2)
      clear h2 hE
      go_wp2_with fail
      refine (C3.out _ I2.out).mono ?_; rintro e w3 ⟨rfl, h3⟩
      have hA := (Below.refl w3.heap.size w3).alloc (Nat.le_refl _) (.cells #[.int .i64 Y.err, .int .i64 Y.at_] 34)
      have c30 := keepCell hA (keepCell h3 c20)
      have c31 := keepCell hA (keepCell h3 c21)
      have HE3 := Lib.hid ((HE.out.below h3).below hA)
      have I3 := Lib.hid ((I2.out.below h3).below hA)
      have H3 := Lib.hid (H2.out.trans (h3.mono H2.out.size))
      clear h3 c20 c21 hA
      go_wp2_with fail
      refine (C4.out _ I3.out).mono ?_; rintro e w4 ⟨v4, rfl, hE, h4⟩
      have c40 := keepCell h4 c30
      have c41 := keepCell h4 c31
      have d40 : w4.cell? ⟨w3.heap.size, 0, none⟩ = some (.int .i64 Y.err) := keepCell h4 (by simp)
      have d41 : w4.cell? ⟨w3.heap.size, 1, none⟩ = some (.int .i64 Y.at_) := keepCell h4 (by simp)
      have HE4 := Lib.hid (HE3.out.below h4)
      have HF := Lib.hid hE
      have H4 := Lib.hid ((H3.out.alloc H3.out.size _).trans (h4.mono (le_alloc H3.out.size _)))
      clear h4 c30 c31 hE
      go_wp2_with fail
      refine (placed_any v2 Z.err Z.at_ Z.err Z.at_ _ (HG.out.below H4.out) HE4.out).mono ?_; rintro e w5 ⟨rfl, h5⟩
      have d50 := keepCell h5 d40
      have d51 := keepCell h5 d41
      have HF5 := Lib.hid (HF.out.below h5)
      have H5 := Lib.hid (H4.out.trans (h5.mono H4.out.size))
      clear h5 c40 c41 d40 d41
      go_wp2_with fail
      refine (placed_any v4 Y.err Y.at_ Y.err Y.at_ _ (HG.out.below H5.out) HF5.out).mono ?_; rintro e w6 ⟨rfl, h6⟩
      have H6 := Lib.hid (H5.out.trans (h6.mono H5.out.size))
      clear h6 d50 d51
      go_wp2_with fail
      go_ret
      exact ⟨ret_bool (by simp), H6.out⟩
    by_cases ho : a1 = 0 ∨ a1 = 1
    · obtain ⟨o, rfl⟩ := Int.eq_ofNat_of_zero_le (show 0 ≤ a1 by omega)
      exact main _ (fun W' h => docWide_any v l o (by omega) W' h (by omega) hw) (fun W' h => wide_any v l o (by omega) W' h (by omega) hw)
    · exact main (.bad 1 (-1)) (fun W' _ => docWide_arg v a1 (by omega) W') (fun W' _ => wide_arg v a1 (by omega) W')
  · obtain ⟨a, cap, rfl, hc⟩ := hi
    have hs2 : ¬ (l.length : Int) ≤ 60 := by omega
    clear hc hw
    go_enter Tryd.func7, Tryd.ntmps7
    go_wp2_with fail
    go_ret
    exact ⟨rfl, Below.refl _ _⟩
end Go.Proofs.YtifnochpmlllgaaDoor.Enc
