/-
  PROVED HERE: the contract of the document's RealNarrow at a real below 2^128. Conditions: as the theorem states.
-/
import Derived.Test.YtdlphcfmbhhfgaaRnP
import Derived.Test.YtdlphcfmbhhfgaaRnQ
import Derived.Deep.RegionWith
import Derived.Deep.RegionHeld3
import Derived.Deep.DeepCutAuto
import Derived.Deep.CutBlock
namespace Go.Proofs.Ytdlphcfmbhhfgaa.Rn
open Go.RowKit Real
attribute [local go_sem ↓] Go.wp_at_zero Go.wp_at_succ
theorem size_cells' (b : Nat) : ∀ (vs : List Value) (o : Nat) (w : World), (w.setCells b o vs).heap.size = w.heap.size
  | [], _, _ => rfl
  | v :: r, o, w => by
    rw [World.setCells, size_cells' b r]
    simp [World.setCell]
theorem wd_zero : wd 0 = 0 := by decide
theorem top_ph : ph 52 5183643171103440896 = ph 23 (255 * 2 ^ 23) * 2 ^ 925 := by
  have e1 := ph_hi 23 255 254 rfl
  have e2 := ph_hi 52 1151 1150 rfl
  have e3 := pow_eq5 23 254 925 52 1150 rfl
  have e0 : (5183643171103440896 : Nat) = 1151 * 2 ^ 52 := by decide
  rw [e0, e1, e2, e3]
theorem lt_of_eqs {x y p q r : Nat} (e1 : x = y) (h : y * p < q) (g : q = r) : x * p < r := by
  subst e1 g
  exact h
theorem top_bound : ph 23 (255 * 2 ^ 23) * 2 ^ 925 < B64 ^ 34 := by
  have e1 := ph_hi 23 255 254 rfl
  have h := pow_lt4 23 254 925 (64 * 34) (by decide)
  have g : (2 : Nat) ^ (64 * 34) = B64 ^ 34 := (Nat.pow_mul 2 64 34).trans (congrArg (fun n => n ^ 34) b64_pow.symm)
  exact lt_of_eqs e1 h g
theorem take_mid {P : Program} {ops : Array Oper} {Q : Exit → Act → World → Prop} {md : Region.Mode} {S : World → Prop} {fuel : Nat} {listed : Array Bool} {a : Act} {w : World} (i : Nat) {oi : Oper} (hi : ops[i]? = some oi)
    (hs : Region.noSelect ops = true) (hf : Region.free md ops listed i = true) (hr : (Region.ready md ops listed).contains i = true) (hw : Region.wanted oi (yielded ops a.tmps) = true) (ty : TypeId) (x : Operand) (ho : oi.op = .load ty x)
    (b o : Nat) (hx : a.eval x = .pointer (some ⟨b, o, none⟩)) (cs : List Value) (d : TypeDesc) (hS : ∀ w, S w → w.rangeAt b o cs) (hu : P.underlying ty = some d) (hd : d.isRow = true) (hz : (P.info? ty).map (·.size) = some cs.length) (hSw : S w)
    (hQ : ∀ c a w, Q (.panic c) (a.put oi.dst (.agg cs.toArray)) w → Q (.panic c) a w)
    (h : wpAnyH P md ops Q S fuel (listed.setIfInBounds i true) (a.put oi.dst (.agg cs.toArray)) w) : wpAnyH P md ops Q S (fuel + 1) listed a w :=
  wpAnyH_take hi hs hf hr hQ (yieldsIf_load_mid hw ty x ho b o hx cs d hS hu hd hz) hSw h
theorem wp_alloc_units {op : Oper} {a : Act} {w : World} {K : Act → World → Prop} {Q : Exit → Act → World → Prop} (ho : op.op = .alloc 42)
    (h : ∀ w', w'.there w.heap.size 0 34 → Below w.heap.size w w' → w'.heap.size = w.heap.size + 1 → K (a.put op.dst (.pointer (some ⟨w.heap.size, 0, none⟩))) w') : op.wp Try.prog a w K Q := by
  have h0 := new_range w zeros 42
  rw [zeros_size] at h0
  unfold Oper.wp execOp
  simp only [ho, Sem.run_bind, run_alloc_units, Result.andThen_ok, Sem.run_pure]
  exact (h _ h0.2 ((Below.refl _ _).alloc (Nat.le_refl _) _) (by rw [World.size_alloc]))
theorem two_cells {w : World} {p q a b : Nat} (h1 : w.rangeAt p 0 (arr a)) (h2 : w.there q 0 34) (hne : p ≠ q) : (w.setCells q 0 (arr b)).rangeAt p 0 (arr a) ∧ (w.setCells q 0 (arr b)).rangeAt q 0 (arr b) :=
  ⟨World.rangeAt_setCells_apart h1 _ _ _ (.inl hne), World.rangeAt_setCells_same _ _ _ _ (by rw [arr_len]; exact h2)⟩
set_option maxRecDepth 20000 in
set_option maxHeartbeats 4000000 in
theorem docNarrow_fin (b s k : Nat) (hb : b < 18446744073709551616) (hs : s = b / 9223372036854775808 * 2147483648) (hk : k = b % 9223372036854775808) (hfin : k < 1151 * 2 ^ 52) (W : World) :
    Calls Try.prog 5 #[.int .u64 (b : Int)] W (NaP ((s + nar k : Nat) : Int) W) := by
  have C1 := Lib.hid (fun W => docApart_64 (b : Int) (by omega) (by omega) W)
  have C2 := Lib.hid (fun W => docClass_64 (b : Int) (by omega) (by omega) W)
  have hc : (cls 2047 (exp64 (b : Int)) (frac64 (b : Int)) == 4) = false := by
    have he : exp64 (b : Int) < 1151 := by unfold exp64; omega
    rw [beq_eq_false_iff_ne]
    unfold cls
    rw [if_neg (by omega)]
    split
    · decide
    · split <;> decide
  have CP := Lib.hid (fun W => pow2_is 63 (by decide) (by decide) 9223372036854775808 (by decide) W)
  have CW := Lib.hid (fun x hx W => docWiden_any x hx W)
  have hkI : (b : Int) % 9223372036854775808 = ((k : Nat) : Int) := by omega
  obtain ⟨kI, hkk⟩ : ∃ kI : Int, ((k : Nat) : Int) = kI := ⟨_, rfl⟩
  have k0 : 0 ≤ kI := by omega
  have k1 : ¬ (5183643171103440896 : Int) ≤ kI := by omega
  have k2 : kI < 9223372036854775808 := by omega
  rw [hkk] at hkI
  obtain ⟨sI, hsI⟩ : ∃ sI : Int, ((s : Nat) : Int) = sI := ⟨_, rfl⟩
  have HK := Lib.hid hkk
  have HS := Lib.hid hsI
  have hN : neg64 (b : Int) = decide (s = 2147483648) := by
    unfold neg64
    rw [Bool.eq_iff_iff, beq_iff_eq, decide_eq_true_iff]
    omega
  have hs2 : s = 0 ∨ s = 2147483648 := by omega
  rw [hN] at C1
  generalize exp64 (b : Int) = E at *
  generalize frac64 (b : Int) = F at *
  generalize cls 2047 E F = cl at *
  have HF := Lib.hid hfin
  clear hfin hk hkk hN hs
  have one_s : ∀ W, Calls Try.prog 9 #[.bool (decide (s = 2147483648))] W fun e w' => e = .returned (.int .i64 (if s = 2147483648 then 1 else 0)) ∧ w' = W := fun W => by
    by_cases c : s = 2147483648
    · rw [decide_eq_true c, if_pos c]; exact one_t W
    · rw [decide_eq_false c, if_neg c]; exact one_f W
  have C3 := Lib.hid one_s
  obtain ⟨o, ho⟩ : ∃ o : Int, (if s = 2147483648 then (1 : Int) else 0) = o := ⟨_, rfl⟩
  rw [ho] at C3
  have ho2 : o * 2147483648 = sI := by
    rw [← ho, ← hsI]
    rcases hs2 with rfl | rfl
    · decide
    · decide
  have o1 : 0 ≤ o ∧ o ≤ 1 := by rw [← ho]; split <;> decide
  obtain ⟨o1, o2⟩ := o1
  generalize decide (s = 2147483648) = N at *
  clear ho hsI one_s
  go_enter Try.func5, Try.ntmps5
  go_wp2_with fail
  refine (C1.out _).mono ?_; rintro x w1 ⟨rfl, h1⟩
  have H1 := Lib.hid h1
  clear h1
  go_wp2_with fail
  refine (C2.out _).mono ?_; rintro x w2 ⟨rfl, h2⟩
  have a0 : w2.cell? ⟨w1.heap.size, 0, none⟩ = some (.bool N) := (h2.cell (p := ⟨w1.heap.size, 0, none⟩) (by simp)).trans (by simp)
  have H2 := Lib.hid ((H1.out.alloc H1.out.size _).trans (h2.mono (le_alloc H1.out.size _)))
  clear h2
  go_wp2_with fail
  refine (C3.out _).mono ?_; rintro x w' ⟨rfl, rfl⟩
  go_wp2_with fail
  refine (CP.out _).mono ?_; rintro x w4 ⟨rfl, rfl⟩
  go_wp2_with fail
  clear hkI
  go_loopw [9, 10, 11] (fun lo hi _ wr => ∃ lI hI : Int, lo = .int .i64 lI ∧ hi = .int .i64 hI ∧ 0 ≤ lI ∧ lI < hI ∧ hI ≤ 2139095040 ∧ Hid (wd lI.toNat ≤ k) ∧ Hid (hI < 2139095040 → k < wd hI.toNat) ∧ Hid (Below w4.heap.size w4 wr)) (fun lo hi _ _ => (intOf hi - intOf lo).toNat)
  case atStart => exact ⟨0, 2139095040, rfl, rfl, by decide, by decide, by decide, Lib.hid (by rw [show (0 : Int).toNat = 0 from rfl, wd_zero]; exact Nat.zero_le _), Lib.hid (fun h => absurd h (by decide)), Lib.hid (Below.refl _ _)⟩
  case round =>
    obtain ⟨lI, hI, rfl, rfl, l0, lh, h9, hl, hh, hB⟩ := hrel
    by_cases c : lI + 1 < hI
    · obtain ⟨mI, hm⟩ : ∃ mI : Int, (lI + hI) / 2 = mI := ⟨_, rfl⟩
      have m1 : lI < mI := by omega
      have m2 : mI < hI := by omega
      have m3 : IntKind.u32.wrap mI = mI := by
        have e : ∀ x : Int, IntKind.u32.wrap x = x % 4294967296 := fun x => by simp [IntKind.wrap, IntKind.bits, IntKind.signed]
        rw [e]; omega
      have CM := Lib.hid (fun W => CW.out mI.toNat (by omega) W)
      rw [show ((mI.toNat : Nat) : Int) = mI by omega] at CM
      have hwl := wd_lt mI.toNat (by omega)
      obtain ⟨v, hv⟩ : ∃ v : Int, ((wd mI.toNat : Nat) : Int) = v := ⟨_, rfl⟩
      have v0 : 0 ≤ v := by omega
      have v1 : v < 9223372036854775808 := by omega
      rw [hv] at CM
      have HV := Lib.hid hv
      clear hv hwl
      by_cases d : v ≤ kI
      · have hl2 : Hid (wd mI.toNat ≤ k) := Lib.hid (by have := HV.out; have := HK.out; omega)
        go_wp2_with fail
        refine (CM.out _).mono ?_; rintro x w3 ⟨rfl, h3⟩
        have hB3 := Lib.hid (hB.out.trans (h3.mono hB.out.size))
        clear h3
        go_wp2_with fail
        go_roundw
        case rel => first | exact ⟨mI, hI, rfl, rfl, by omega, m2, h9, hl2, hh, hB3⟩ | ((repeat apply Exists.intro); exact ⟨⟨mI, hI, rfl, rfl, by omega, m2, h9, hl2, hh, hB3⟩, rfl⟩)
        case measure => simp [intOf]; omega
      · have hh2 : Hid (mI < 2139095040 → k < wd mI.toNat) := Lib.hid (fun _ => by have := HV.out; have := HK.out; omega)
        go_wp2_with fail
        refine (CM.out _).mono ?_; rintro x w3 ⟨rfl, h3⟩
        have hB3 := Lib.hid (hB.out.trans (h3.mono hB.out.size))
        clear h3
        go_wp2_with fail
        go_roundw
        case rel => first | exact ⟨lI, mI, rfl, rfl, l0, m1, by omega, hl, hh2, hB3⟩ | ((repeat apply Exists.intro); exact ⟨⟨lI, mI, rfl, rfl, l0, m1, by omega, hl, hh2, hB3⟩, rfl⟩)
        case measure => simp [intOf]; omega
    · obtain rfl : hI = lI + 1 := by omega
      have m3 : ∀ x : Int, 0 ≤ x → x < 4294967296 → IntKind.u32.wrap x = x := fun x h1 h2 => by
        have e : ∀ x : Int, IntKind.u32.wrap x = x % 4294967296 := fun x => by simp [IntKind.wrap, IntKind.bits, IntKind.signed]
        rw [e]; omega
      have m4 := m3 lI (by omega) (by omega)
      have m5 := m3 (lI + 1) (by omega) (by omega)
      clear m3
      have CL := Lib.hid (fun W => CW.out lI.toNat (by omega) W)
      have CH := Lib.hid (fun W => CW.out (lI + 1).toNat (by omega) W)
      rw [show ((lI.toNat : Nat) : Int) = lI by omega] at CL
      rw [show (((lI + 1).toNat : Nat) : Int) = lI + 1 by omega] at CH
      have UL := Lib.hid (fun W => realUnits_any (wd lI.toNat) (wd_lt lI.toNat (by omega)) W)
      have UH := Lib.hid (fun W => realUnits_any (wd (lI + 1).toNat) (wd_lt (lI + 1).toNat (by omega)) W)
      have UK := Lib.hid (fun W => realUnits_any k (by have := HK.out; omega) W)
      rw [HK.out] at UK
      generalize ((wd lI.toNat : Nat) : Int) = vl at *
      generalize ((wd (lI + 1).toNat : Nat) : Int) = vh at *
      go_wp2_with fail
      refine (CL.out _).mono ?_; rintro x w5 ⟨rfl, h5⟩
      have H5 := Lib.hid (hB.out.trans (h5.mono hB.out.size))
      clear h5
      go_wp2_with fail
      refine (UL.out _).mono ?_; rintro x w6 ⟨rfl, h6⟩
      have H6 := Lib.hid (H5.out.trans (h6.mono H5.out.size))
      clear h6
      go_wp2_with fail
      refine (CH.out _).mono ?_; rintro x w7 ⟨rfl, h7⟩
      have H7 := Lib.hid (H6.out.trans (h7.mono H6.out.size))
      clear h7
      go_wp2_with fail
      refine (UH.out _).mono ?_; rintro x w8 ⟨rfl, h8⟩
      have H8 := Lib.hid (H7.out.trans (h8.mono H7.out.size))
      clear h8
      have AL : ∀ n, Hid ((Try.prog.info? 42).map (·.size) = some (arr n).toArray.size) := fun n => Lib.hid (by rw [arr_size]; exact infoU)
      generalize hUL : arr (ph 52 (wd lI.toNat)) = XL at *
      generalize hUH : arr (ph 52 (wd (lI + 1).toNat)) = XH at *
      have sL : XL.toArray.size = 34 := by rw [← hUL]; exact arr_size _
      have sH : XH.toArray.size = 34 := by rw [← hUH]; exact arr_size _
      have oL : XL.toArray.all (·.oneCell') = true := by rw [← hUL]; exact arr_one _
      have oH : XH.toArray.all (·.oneCell') = true := by rw [← hUH]; exact arr_one _
      have HL := Lib.hid (show _ ∧ _ ∧ _ ∧ _ ∧ _ ∧ _ from ⟨hUL, hUH, sL, sH, oL, oH⟩)
      clear hUL hUH sL sH oL oH AL
      go_wp2_with (first
        | (refine wpList_alloc_units rfl rfl w8.heap.size rfl ?_; intro w9 r9 t9 b9 z9; have T9 := Lib.hid t9; have B9 := Lib.hid b9; have Z9 := Lib.hid z9; clear r9 t9 b9 z9)
        | (refine wpList_alloc_units rfl rfl w9.heap.size rfl ?_; intro w10 r10 t10 b10 z10; have T10 := Lib.hid t10; have B10 := Lib.hid b10; have Z10 := Lib.hid z10; clear r10 t10 b10 z10)
        | (refine wpList_store_stage rfl 42 _ _ rfl ?_))
      refine ⟨w8.heap.size, 0, XL.toArray, rfl, rfl, ?_, ?_, HL.out.2.2.2.2.1, ?_⟩
      · rw [HL.out.2.2.1]; exact there_below T9.out B10.out
      · rw [HL.out.2.2.1]; exact infoU
      go_wp2_with (refine wpList_store_stage rfl 42 _ _ rfl ?_)
      refine ⟨w9.heap.size, 0, XH.toArray, rfl, rfl, ?_, ?_, HL.out.2.2.2.2.2, ?_⟩
      · rw [HL.out.2.2.2.1]; exact World.there_setCells T10.out _ _ _
      · rw [HL.out.2.2.2.1]; exact infoU
      have TT : w10.there w8.heap.size 0 XL.length := by rw [← List.size_toArray, HL.out.2.2.1]; exact there_below T9.out B10.out
      have TU : w10.there w9.heap.size 0 XH.length := by rw [← List.size_toArray, HL.out.2.2.2.1]; exact T10.out
      have R1 : ((w10.setCells w8.heap.size 0 XL).setCells w9.heap.size 0 XH).rangeAt w8.heap.size 0 XL := World.rangeAt_setCells_apart (World.rangeAt_setCells_same w10 w8.heap.size 0 XL TT) _ _ _ (.inl (by have := Z9.out; omega))
      have R2 : ((w10.setCells w8.heap.size 0 XL).setCells w9.heap.size 0 XH).rangeAt w9.heap.size 0 XH := World.rangeAt_setCells_same _ _ _ _ (World.there_setCells TU _ _ _)
      have R3 : ((w10.setCells w8.heap.size 0 XL).setCells w9.heap.size 0 XH).there w9.heap.size 0 XH.length := World.there_setCells (World.there_setCells TU _ _ _) _ _ _
      have R4 : Below w8.heap.size w8 ((w10.setCells w8.heap.size 0 XL).setCells w9.heap.size 0 XH) := below_cells' (below_cells' (B9.out.trans (B10.out.mono (by have := Z9.out; omega))) (Nat.le_refl _) _ _) (by have := Z9.out; omega) _ _
      have R5 : w9.heap.size + 1 ≤ ((w10.setCells w8.heap.size 0 XL).setCells w9.heap.size 0 XH).heap.size := by
        have h1 : (w10.setCells w8.heap.size 0 XL).heap.size = w10.heap.size := size_cells' _ _ _ _
        have h2 : ((w10.setCells w8.heap.size 0 XL).setCells w9.heap.size 0 XH).heap.size = (w10.setCells w8.heap.size 0 XL).heap.size := size_cells' _ _ _ _
        have := Z10.out
        omega
      have HR := Lib.hid (show _ ∧ _ ∧ _ ∧ _ ∧ _ from ⟨R1, R2, R3, R4, R5⟩)
      clear TT TU R1 R2 R3 R4 R5
      generalize (w10.setCells w8.heap.size 0 XL).setCells w9.heap.size 0 XH = w11 at *
      have HWB : Hid (Below W.heap.size W w8) := Lib.hid (H2.out.trans (H8.out.mono H2.out.size))
      have HL0 : Hid (arr (ph 52 (wd lI.toNat)) = XL ∧ arr (ph 52 (wd (lI + 1).toNat)) = XH) := Lib.hid ⟨HL.out.1, HL.out.2.1⟩
      go_upto_if 77 with fail
      go_cut [] (fun wx => ∃ y : Nat, Hid (y = ph 23 (lI.toNat + 1) * 2 ^ 925) ∧ Hid (wx.rangeAt w8.heap.size 0 XL) ∧ Hid (wx.rangeAt w9.heap.size 0 (arr y)) ∧ Hid (Below w8.heap.size w8 wx) ∧ Hid (w9.heap.size + 1 ≤ wx.heap.size))
      case first =>
        by_cases hx : lI + 1 = 2139095040
        · have hx1 : (lI + 1 == 2139095040) = true := by rw [beq_iff_eq]; exact hx
          have UT := Lib.hid (fun W => realUnits_any 5183643171103440896 (by decide) W)
          have HX := Lib.hid hx
          clear hx
          go_wp2_with fail
          refine (UT.out _).mono ?_; rintro x w12 ⟨rfl, h12⟩
          have H12 := Lib.hid h12
          clear h12
          go_wp2_with (refine wpList_store_stage rfl 42 _ _ rfl ?_)
          have T9' : w12.there w9.heap.size 0 34 := by have h := there_below HR.out.2.2.1 H12.out; have e := HL.out.2.2.2.1; simp only [List.size_toArray] at e; rw [e] at h; exact h
          have HT9 := Lib.hid T9'
          clear T9'
          refine ⟨w9.heap.size, 0, (arr (ph 52 5183643171103440896)).toArray, rfl, rfl, ?_, ?_, arr_one _, ?_⟩
          · rw [arr_size]; exact HT9.out
          · rw [arr_size]; exact infoU
          go_wp2_with fail
          go_meet
          have hz9 := Z9.out
          have hz11 := HR.out.2.2.2.2
          have hz12 := H12.out.size
          refine ⟨ph 52 5183643171103440896, Lib.hid ?_, Lib.hid ?_, Lib.hid ?_, Lib.hid ?_, Lib.hid ?_⟩
          · rw [top_ph]; have := HX.out; congr 2; omega
          · try rw [List.toList_toArray]
            exact World.rangeAt_setCells_apart (range_below HR.out.1 H12.out) _ _ _ (.inl (by omega))
          · try rw [List.toList_toArray]
            exact World.rangeAt_setCells_same _ _ _ _ (by rw [arr_len]; exact HT9.out)
          · exact below_cells' (HR.out.2.2.2.1.trans (H12.out.mono HR.out.2.2.2.1.size)) (by omega) _ _
          · rw [size_cells']; omega
        · have hx1 : (lI + 1 == 2139095040) = false := by rw [beq_eq_false_iff_ne]; exact hx
          have HX := Lib.hid hx
          clear hx
          go_wp2_with fail
          go_meet
          refine ⟨ph 52 (wd (lI + 1).toNat), Lib.hid ?_, Lib.hid HR.out.1, Lib.hid ?_, Lib.hid HR.out.2.2.2.1, Lib.hid HR.out.2.2.2.2⟩
          · have hx := HX.out
            rw [(wd_units (lI + 1).toNat (by omega)).2]; congr 2; omega
          · rw [HL0.out.2]; exact HR.out.2.1
      case rest =>
        obtain ⟨y, HY, RX0, RY0, HBx, HZx⟩ := hcut
        go_wp2_with fail
        refine (UK.out _).mono ?_; rintro x w13 ⟨rfl, hn⟩
        have HN := Lib.hid hn
        clear hn
        go_wp2_with (first
          | (refine wpList_alloc_units rfl rfl w13.heap.size rfl ?_; intro w14 r14 t14 b14 z14; have T14 := Lib.hid t14; have B14 := Lib.hid b14; have Z14 := Lib.hid z14; clear r14 t14 b14 z14)
          | (refine wpList_store_stage rfl 42 _ _ rfl ?_))
        refine ⟨w13.heap.size, 0, (arr (ph 52 k)).toArray, rfl, rfl, ?_, ?_, arr_one _, ?_⟩
        · rw [arr_size]; exact T14.out
        · rw [arr_size]; exact infoU
        try rw [List.toList_toArray]
        obtain ⟨z, hz⟩ : ∃ z, ph 52 k = z := ⟨_, rfl⟩
        rw [hz]
        have RZ0 : (w14.setCells w13.heap.size 0 (arr z)).rangeAt w13.heap.size 0 (arr z) := World.rangeAt_setCells_same _ _ _ _ (by rw [arr_len]; exact T14.out)
        have RL0 := range_below (range_below RX0.out HN.out) B14.out
        have RH0 := range_below (range_below RY0.out HN.out) B14.out
        have hz13 : wc.heap.size ≤ w13.heap.size := HN.out.size
        have hz11 := HZx.out
        have hz9 := Z9.out
        have RX : Hid ((w14.setCells w13.heap.size 0 (arr z)).rangeAt w8.heap.size 0 XL) := Lib.hid (World.rangeAt_setCells_apart RL0 _ _ _ (.inl (by omega)))
        have RY : Hid ((w14.setCells w13.heap.size 0 (arr z)).rangeAt w9.heap.size 0 (arr y)) := Lib.hid (World.rangeAt_setCells_apart RH0 _ _ _ (.inl (by omega)))
        have RZ := Lib.hid RZ0
        have HB14 : Hid (Below w8.heap.size w8 (w14.setCells w13.heap.size 0 (arr z))) := Lib.hid (below_cells' (HBx.out.trans ((HN.out.trans (B14.out.mono HN.out.size)).mono HBx.out.size)) (by have := HBx.out.size; omega) _ _)
        have HBW : Hid (Below W.heap.size W (w14.setCells w13.heap.size 0 (arr z))) := Lib.hid (HWB.out.trans (HB14.out.mono HWB.out.size))
        clear RL0 RH0 RZ0 hz13 hz11 hz9 HB14
        generalize w14.setCells w13.heap.size 0 (arr z) = w15 at *
        obtain ⟨x, hx⟩ : ∃ x, ph 52 (wd lI.toNat) = x := ⟨_, rfl⟩
        have hXL : XL = arr x := by rw [← hx]; exact HL0.out.1.symm
        rw [hXL] at RX
        have hxu : x = ph 23 lI.toNat * 2 ^ 925 := by rw [← hx]; exact (wd_units lI.toNat (by omega)).2
        have hhal := halved k lI.toNat HF.out (by omega) hl.out (fun h => by have := hh.out (by omega); rw [show (lI + 1).toNat = lI.toNat + 1 by omega] at this; exact this)
        rw [hz, ← hxu, ← HY.out] at hhal
        obtain ⟨xz, zy⟩ := hhal
        have hnar := nar_is (2 ^ 925) hD925 k lI.toNat HF.out (by rw [← hxu, hz]; exact xz) (by rw [← HY.out, hz]; exact zy)
        unfold near at hnar
        rw [hz, ← hxu, ← HY.out] at hnar
        have HNar := Lib.hid hnar
        have hyb : y < B64 ^ 34 := by
          rw [HY.out]
          refine Nat.lt_of_le_of_lt (Nat.mul_le_mul_right _ (ph_le 23 (show lI.toNat + 1 ≤ 255 * 2 ^ 23 by omega))) top_bound
        have CA := Lib.hid (fun W => unitsLess_any z x xz W)
        have CB := Lib.hid (fun W => unitsLess_any y z (Nat.le_of_lt zy) W)
        have CC := Lib.hid (fun W => unitsCmp_any (z - x) (y - z) (Nat.lt_of_le_of_lt (Nat.sub_le _ _) (Nat.lt_trans zy hyb)) (Nat.lt_of_le_of_lt (Nat.sub_le _ _) hyb) W)
        have HZ0 : Hid (0 < y - z) := Lib.hid (by omega)
        clear hnar hyb hx hxu hXL hz xz zy
        have hu := Try.underlying42
        have hIx : (Try.prog.info? 42).map (·.size) = some (arr x).length := by rw [arr_len]; exact infoU
        have hIy : (Try.prog.info? 42).map (·.size) = some (arr y).length := by rw [arr_len]; exact infoU
        have hIz : (Try.prog.info? 42).map (·.size) = some (arr z).length := by rw [arr_len]; exact infoU
        go_wp2_with fail
        simp only [Act.put, List.setIfInBounds_toArray, List.set_cons_zero, List.set_cons_succ]
        go_cut [15, 16] (fun s15 s16 wx => ∃ p q : Nat, s15 = .pointer (some ⟨p, 0, none⟩) ∧ s16 = .pointer (some ⟨q, 0, none⟩) ∧ Hid (wx.rangeAt p 0 (arr (z - x)) ∧ wx.rangeAt q 0 (arr (y - z))) ∧ Hid (Below w15.heap.size w15 wx))
        case first =>
          refine wp_region_noPanic ?_
          refine wp_region_held_drew (S := fun w' => Below w15.heap.size w15 w') (by kernel_rfl) ((Below.refl _ _).drew) (fun hHeld => ?_)
          have hs20 : w15.heap.size ≤ w15.drew.heap.size := Nat.le_refl _
          generalize w15.drew = w20d at *
          refine take_mid 0 (oi := { dst := some 82, op := Op.load 42 (Operand.tmp 14), type := 42, pos := "low.go:380", after := #[], guard := none }) rfl (by kernel_rfl) (by kernel_rfl) (by kernel_rfl) (by rfl) _ _ rfl w13.heap.size 0 rfl (arr z) _ (fun w h => range_below RZ.out h) hu rfl hIz hHeld (fun _ _ _ h => h) ?_
          try simp only [Act.put, List.setIfInBounds_toArray, List.set_cons_zero, List.set_cons_succ]
          refine take_mid 1 (oi := { dst := some 83, op := Op.load 42 (Operand.tmp 12), type := 42, pos := "low.go:380", after := #[], guard := none }) rfl (by kernel_rfl) (by kernel_rfl) (by kernel_rfl) (by rfl) _ _ rfl w8.heap.size 0 rfl (arr x) _ (fun w h => range_below RX.out h) hu rfl hIx hHeld (fun _ _ _ h => h) ?_
          try simp only [Act.put, List.setIfInBounds_toArray, List.set_cons_zero, List.set_cons_succ]
          refine take_mid 3 (oi := { dst := some 85, op := Op.load 42 (Operand.tmp 13), type := 42, pos := "low.go:380", after := #[], guard := none }) rfl (by kernel_rfl) (by kernel_rfl) (by kernel_rfl) (by rfl) _ _ rfl w9.heap.size 0 rfl (arr y) _ (fun w h => range_below RY.out h) hu rfl hIy hHeld (fun _ _ _ h => h) ?_
          try simp only [Act.put, List.setIfInBounds_toArray, List.set_cons_zero, List.set_cons_succ]
          refine take_mid 4 (oi := { dst := some 86, op := Op.load 42 (Operand.tmp 14), type := 42, pos := "low.go:380", after := #[], guard := none }) rfl (by kernel_rfl) (by kernel_rfl) (by kernel_rfl) (by rfl) _ _ rfl w13.heap.size 0 rfl (arr z) _ (fun w h => range_below RZ.out h) hu rfl hIz hHeld (fun _ _ _ h => h) ?_
          try simp only [Act.put, List.setIfInBounds_toArray, List.set_cons_zero, List.set_cons_succ]
          refine wpAnyH_ready (rs := [2, 6, 7]) (by kernel_rfl) (by simp) ?_
          refine AllReadyH.cons (o := { dst := some 84, op := Op.call { callee := Callee.value (Operand.func 13), args := #[Operand.tmp 82, Operand.tmp 83], argTypes := #[42, 42] }, type := 42, pos := "low.go:380", after := #[{ on := 0, ground := Ground.data }, { on := 1, ground := Ground.data }], guard := none }) rfl (fun K hK => ?_) ?_
          · skip
            go_simp
            go_at_call 13
            refine (CA.out _).mono ?_; rintro x w20 ⟨rfl, hbw20⟩
            go_wp2_with fail
            have Bw20 := Lib.hid hbw20; clear hbw20
            refine hK.out _ _ (hHeld.trans (Bw20.out.mono hHeld.size)) (fun hHeld => ?_)
            clear hK K
            try simp only [Act.put, List.setIfInBounds_toArray, List.set_cons_zero, List.set_cons_succ]
            refine wpAnyH_ready (rs := [5, 6, 7]) (by kernel_rfl) (by simp) ?_
            refine AllReadyH.cons (o := { dst := some 87, op := Op.call { callee := Callee.value (Operand.func 13), args := #[Operand.tmp 85, Operand.tmp 86], argTypes := #[42, 42] }, type := 42, pos := "low.go:380", after := #[{ on := 3, ground := Ground.data }, { on := 4, ground := Ground.data }, { on := 2, ground := Ground.chain }], guard := none }) rfl (fun K hK => ?_) ?_
            · skip
              go_simp
              go_at_call 13
              refine (CB.out _).mono ?_; rintro x w21 ⟨rfl, hbw21⟩
              go_wp2_with fail
              have Bw21 := Lib.hid hbw21; clear hbw21
              refine hK.out _ _ (hHeld.trans (Bw21.out.mono hHeld.size)) (fun hHeld => ?_)
              clear hK K
              try simp only [Act.put, List.setIfInBounds_toArray, List.set_cons_zero, List.set_cons_succ]
              refine wpAnyH_ready (rs := [6, 7]) (by kernel_rfl) (by simp) ?_
              refine AllReadyH.cons (o := { dst := some 15, op := Op.alloc 42, type := 0, pos := "low.go:380", after := #[], guard := none }) rfl (fun K hK => ?_) ?_
              · rw [if_pos (by rfl)]
                refine wp_alloc_units rfl ?_; intro w22 htw22 hbw22 hzw22
                have Tw22 := Lib.hid htw22; have Zw22 := Lib.hid hzw22; clear htw22 hzw22
                have Bw22 := Lib.hid hbw22; clear hbw22
                refine hK.out _ _ (hHeld.trans (Bw22.out.mono hHeld.size)) (fun hHeld => ?_)
                clear hK K
                try simp only [Act.put, List.setIfInBounds_toArray, List.set_cons_zero, List.set_cons_succ]
                refine wpAnyH_ready (rs := [7]) (by kernel_rfl) (by simp) ?_
                refine AllReadyH.cons (o := { dst := some 16, op := Op.alloc 42, type := 0, pos := "low.go:380", after := #[], guard := none }) rfl (fun K hK => ?_) ?_
                · rw [if_pos (by rfl)]
                  refine wp_alloc_units rfl ?_; intro w23 htw23 hbw23 hzw23
                  have Tw23 := Lib.hid htw23; have Zw23 := Lib.hid hzw23; clear htw23 hzw23
                  have Bw23 := Lib.hid hbw23; clear hbw23
                  refine hK.out _ _ (hHeld.trans (Bw23.out.mono hHeld.size)) (fun hHeld => ?_)
                  clear hK K
                  try simp only [Act.put, List.setIfInBounds_toArray, List.set_cons_zero, List.set_cons_succ]
                  have X6 : w23.there w21.heap.size 0 34 := (there_below Tw22.out Bw23.out)
                  have X7 : w23.there w22.heap.size 0 34 := Tw23.out
                  have hne : w21.heap.size ≠ w22.heap.size := by
                    have z6 := Zw22.out; have z7 := Zw23.out; have lw20 := Bw20.out.size; have lw21 := Bw21.out.size; have lw22 := Bw22.out.size; have lw23 := Bw23.out.size
                    omega
                  have hg6 : w15.heap.size ≤ w21.heap.size := by
                    have lw20 := Bw20.out.size; have lw21 := Bw21.out.size; have lw22 := Bw22.out.size; have lw23 := Bw23.out.size; omega
                  have hg7 : w15.heap.size ≤ w22.heap.size := by
                    have lw20 := Bw20.out.size; have lw21 := Bw21.out.size; have lw22 := Bw22.out.size; have lw23 := Bw23.out.size; omega
                  refine wpAnyH_ready (rs := [8]) (by kernel_rfl) (by simp) ?_
                  refine AllReadyH.cons (o := { dst := none, op := Op.store 42 (Operand.tmp 15) (Operand.tmp 84), type := 0, pos := "low.go:380", after := #[{ on := 6, ground := Ground.data }, { on := 2, ground := Ground.data }, { on := 5, ground := Ground.chain }, { on := 0, ground := Ground.phase }, { on := 1, ground := Ground.phase }, { on := 2, ground := Ground.phase }, { on := 3, ground := Ground.textOnly Departure.lateStores }, { on := 4, ground := Ground.textOnly Departure.lateStores }, { on := 5, ground := Ground.textOnly Departure.lateStoresUnsure }, { on := 6, ground := Ground.phase }, { on := 7, ground := Ground.phase }], guard := none }) rfl (fun K hK => ?_) AllReadyH.nil
                  rw [if_pos (by rfl)]
                  refine wp_store_mid _ _ _ rfl _ _ (arr (z - x)).toArray rfl rfl (by rw [arr_size]; exact X6) (by rw [arr_size]; exact infoU) (arr_one _) ?_
                  refine hK.out _ _ (below_cells' hHeld hg6 _ _) (fun hHeld => ?_)
                  clear hK K
                  try simp only [Act.put, List.setIfInBounds_toArray, List.set_cons_zero, List.set_cons_succ]
                  have X7' := World.there_setCells X7 w21.heap.size 0 (arr (z - x))
                  have RP := World.rangeAt_setCells_same w23 w21.heap.size 0 (arr (z - x)) (by rw [arr_len]; exact X6)
                  clear X6 X7
                  generalize w23.setCells w21.heap.size 0 (arr (z - x)) = w30 at *
                  refine wpAnyH_ready (rs := [9]) (by kernel_rfl) (by simp) ?_
                  refine AllReadyH.cons (o := { dst := none, op := Op.store 42 (Operand.tmp 16) (Operand.tmp 87), type := 0, pos := "low.go:380", after := #[{ on := 7, ground := Ground.data }, { on := 5, ground := Ground.data }, { on := 8, ground := Ground.chain }, { on := 0, ground := Ground.phase }, { on := 1, ground := Ground.phase }, { on := 2, ground := Ground.phase }, { on := 3, ground := Ground.phase }, { on := 4, ground := Ground.phase }, { on := 5, ground := Ground.phase }, { on := 6, ground := Ground.phase }, { on := 7, ground := Ground.phase }, { on := 8, ground := Ground.phase }], guard := none }) rfl (fun K hK => ?_) AllReadyH.nil
                  rw [if_pos (by rfl)]
                  refine wp_store_mid _ _ _ rfl _ _ (arr (y - z)).toArray rfl rfl (by rw [arr_size]; exact X7') (by rw [arr_size]; exact infoU) (arr_one _) ?_
                  refine hK.out _ _ (below_cells' hHeld hg7 _ _) (fun hHeld => ?_)
                  clear hK K
                  try simp only [Act.put, List.setIfInBounds_toArray, List.set_cons_zero, List.set_cons_succ]
                  refine wpAnyH_done (by kernel_rfl) (NoPanic.normal ?_) _
                  go_wp2_with fail
                  go_meet
                  exact ⟨_, _, rfl, rfl, Lib.hid (two_cells RP X7' hne), Lib.hid hHeld⟩
                exact AllReadyH.nil
              refine AllReadyH.cons (o := { dst := some 16, op := Op.alloc 42, type := 0, pos := "low.go:380", after := #[], guard := none }) rfl (fun K hK => ?_) ?_
              · rw [if_pos (by rfl)]
                refine wp_alloc_units rfl ?_; intro w22 htw22 hbw22 hzw22
                have Tw22 := Lib.hid htw22; have Zw22 := Lib.hid hzw22; clear htw22 hzw22
                have Bw22 := Lib.hid hbw22; clear hbw22
                refine hK.out _ _ (hHeld.trans (Bw22.out.mono hHeld.size)) (fun hHeld => ?_)
                clear hK K
                try simp only [Act.put, List.setIfInBounds_toArray, List.set_cons_zero, List.set_cons_succ]
                refine wpAnyH_ready (rs := [6]) (by kernel_rfl) (by simp) ?_
                refine AllReadyH.cons (o := { dst := some 15, op := Op.alloc 42, type := 0, pos := "low.go:380", after := #[], guard := none }) rfl (fun K hK => ?_) ?_
                · rw [if_pos (by rfl)]
                  refine wp_alloc_units rfl ?_; intro w23 htw23 hbw23 hzw23
                  have Tw23 := Lib.hid htw23; have Zw23 := Lib.hid hzw23; clear htw23 hzw23
                  have Bw23 := Lib.hid hbw23; clear hbw23
                  refine hK.out _ _ (hHeld.trans (Bw23.out.mono hHeld.size)) (fun hHeld => ?_)
                  clear hK K
                  try simp only [Act.put, List.setIfInBounds_toArray, List.set_cons_zero, List.set_cons_succ]
                  have X6 : w23.there w22.heap.size 0 34 := Tw23.out
                  have X7 : w23.there w21.heap.size 0 34 := (there_below Tw22.out Bw23.out)
                  have hne : w22.heap.size ≠ w21.heap.size := by
                    have z6 := Zw23.out; have z7 := Zw22.out; have lw20 := Bw20.out.size; have lw21 := Bw21.out.size; have lw22 := Bw22.out.size; have lw23 := Bw23.out.size
                    omega
                  have hg6 : w15.heap.size ≤ w22.heap.size := by
                    have lw20 := Bw20.out.size; have lw21 := Bw21.out.size; have lw22 := Bw22.out.size; have lw23 := Bw23.out.size; omega
                  have hg7 : w15.heap.size ≤ w21.heap.size := by
                    have lw20 := Bw20.out.size; have lw21 := Bw21.out.size; have lw22 := Bw22.out.size; have lw23 := Bw23.out.size; omega
                  refine wpAnyH_ready (rs := [8]) (by kernel_rfl) (by simp) ?_
                  refine AllReadyH.cons (o := { dst := none, op := Op.store 42 (Operand.tmp 15) (Operand.tmp 84), type := 0, pos := "low.go:380", after := #[{ on := 6, ground := Ground.data }, { on := 2, ground := Ground.data }, { on := 5, ground := Ground.chain }, { on := 0, ground := Ground.phase }, { on := 1, ground := Ground.phase }, { on := 2, ground := Ground.phase }, { on := 3, ground := Ground.textOnly Departure.lateStores }, { on := 4, ground := Ground.textOnly Departure.lateStores }, { on := 5, ground := Ground.textOnly Departure.lateStoresUnsure }, { on := 6, ground := Ground.phase }, { on := 7, ground := Ground.phase }], guard := none }) rfl (fun K hK => ?_) AllReadyH.nil
                  rw [if_pos (by rfl)]
                  refine wp_store_mid _ _ _ rfl _ _ (arr (z - x)).toArray rfl rfl (by rw [arr_size]; exact X6) (by rw [arr_size]; exact infoU) (arr_one _) ?_
                  refine hK.out _ _ (below_cells' hHeld hg6 _ _) (fun hHeld => ?_)
                  clear hK K
                  try simp only [Act.put, List.setIfInBounds_toArray, List.set_cons_zero, List.set_cons_succ]
                  have X7' := World.there_setCells X7 w22.heap.size 0 (arr (z - x))
                  have RP := World.rangeAt_setCells_same w23 w22.heap.size 0 (arr (z - x)) (by rw [arr_len]; exact X6)
                  clear X6 X7
                  generalize w23.setCells w22.heap.size 0 (arr (z - x)) = w30 at *
                  refine wpAnyH_ready (rs := [9]) (by kernel_rfl) (by simp) ?_
                  refine AllReadyH.cons (o := { dst := none, op := Op.store 42 (Operand.tmp 16) (Operand.tmp 87), type := 0, pos := "low.go:380", after := #[{ on := 7, ground := Ground.data }, { on := 5, ground := Ground.data }, { on := 8, ground := Ground.chain }, { on := 0, ground := Ground.phase }, { on := 1, ground := Ground.phase }, { on := 2, ground := Ground.phase }, { on := 3, ground := Ground.phase }, { on := 4, ground := Ground.phase }, { on := 5, ground := Ground.phase }, { on := 6, ground := Ground.phase }, { on := 7, ground := Ground.phase }, { on := 8, ground := Ground.phase }], guard := none }) rfl (fun K hK => ?_) AllReadyH.nil
                  rw [if_pos (by rfl)]
                  refine wp_store_mid _ _ _ rfl _ _ (arr (y - z)).toArray rfl rfl (by rw [arr_size]; exact X7') (by rw [arr_size]; exact infoU) (arr_one _) ?_
                  refine hK.out _ _ (below_cells' hHeld hg7 _ _) (fun hHeld => ?_)
                  clear hK K
                  try simp only [Act.put, List.setIfInBounds_toArray, List.set_cons_zero, List.set_cons_succ]
                  refine wpAnyH_done (by kernel_rfl) (NoPanic.normal ?_) _
                  go_wp2_with fail
                  go_meet
                  exact ⟨_, _, rfl, rfl, Lib.hid (two_cells RP X7' hne), Lib.hid hHeld⟩
                exact AllReadyH.nil
              exact AllReadyH.nil
            refine AllReadyH.cons (o := { dst := some 15, op := Op.alloc 42, type := 0, pos := "low.go:380", after := #[], guard := none }) rfl (fun K hK => ?_) ?_
            · rw [if_pos (by rfl)]
              refine wp_alloc_units rfl ?_; intro w21 htw21 hbw21 hzw21
              have Tw21 := Lib.hid htw21; have Zw21 := Lib.hid hzw21; clear htw21 hzw21
              have Bw21 := Lib.hid hbw21; clear hbw21
              refine hK.out _ _ (hHeld.trans (Bw21.out.mono hHeld.size)) (fun hHeld => ?_)
              clear hK K
              try simp only [Act.put, List.setIfInBounds_toArray, List.set_cons_zero, List.set_cons_succ]
              refine wpAnyH_ready (rs := [5, 7]) (by kernel_rfl) (by simp) ?_
              refine AllReadyH.cons (o := { dst := some 87, op := Op.call { callee := Callee.value (Operand.func 13), args := #[Operand.tmp 85, Operand.tmp 86], argTypes := #[42, 42] }, type := 42, pos := "low.go:380", after := #[{ on := 3, ground := Ground.data }, { on := 4, ground := Ground.data }, { on := 2, ground := Ground.chain }], guard := none }) rfl (fun K hK => ?_) ?_
              · skip
                go_simp
                go_at_call 13
                refine (CB.out _).mono ?_; rintro x w22 ⟨rfl, hbw22⟩
                go_wp2_with fail
                have Bw22 := Lib.hid hbw22; clear hbw22
                refine hK.out _ _ (hHeld.trans (Bw22.out.mono hHeld.size)) (fun hHeld => ?_)
                clear hK K
                try simp only [Act.put, List.setIfInBounds_toArray, List.set_cons_zero, List.set_cons_succ]
                refine wpAnyH_ready (rs := [7]) (by kernel_rfl) (by simp) ?_
                refine AllReadyH.cons (o := { dst := some 16, op := Op.alloc 42, type := 0, pos := "low.go:380", after := #[], guard := none }) rfl (fun K hK => ?_) ?_
                · rw [if_pos (by rfl)]
                  refine wp_alloc_units rfl ?_; intro w23 htw23 hbw23 hzw23
                  have Tw23 := Lib.hid htw23; have Zw23 := Lib.hid hzw23; clear htw23 hzw23
                  have Bw23 := Lib.hid hbw23; clear hbw23
                  refine hK.out _ _ (hHeld.trans (Bw23.out.mono hHeld.size)) (fun hHeld => ?_)
                  clear hK K
                  try simp only [Act.put, List.setIfInBounds_toArray, List.set_cons_zero, List.set_cons_succ]
                  have X6 : w23.there w20.heap.size 0 34 := (there_below (there_below Tw21.out Bw22.out) Bw23.out)
                  have X7 : w23.there w22.heap.size 0 34 := Tw23.out
                  have hne : w20.heap.size ≠ w22.heap.size := by
                    have z6 := Zw21.out; have z7 := Zw23.out; have lw20 := Bw20.out.size; have lw21 := Bw21.out.size; have lw22 := Bw22.out.size; have lw23 := Bw23.out.size
                    omega
                  have hg6 : w15.heap.size ≤ w20.heap.size := by
                    have lw20 := Bw20.out.size; have lw21 := Bw21.out.size; have lw22 := Bw22.out.size; have lw23 := Bw23.out.size; omega
                  have hg7 : w15.heap.size ≤ w22.heap.size := by
                    have lw20 := Bw20.out.size; have lw21 := Bw21.out.size; have lw22 := Bw22.out.size; have lw23 := Bw23.out.size; omega
                  refine wpAnyH_ready (rs := [8]) (by kernel_rfl) (by simp) ?_
                  refine AllReadyH.cons (o := { dst := none, op := Op.store 42 (Operand.tmp 15) (Operand.tmp 84), type := 0, pos := "low.go:380", after := #[{ on := 6, ground := Ground.data }, { on := 2, ground := Ground.data }, { on := 5, ground := Ground.chain }, { on := 0, ground := Ground.phase }, { on := 1, ground := Ground.phase }, { on := 2, ground := Ground.phase }, { on := 3, ground := Ground.textOnly Departure.lateStores }, { on := 4, ground := Ground.textOnly Departure.lateStores }, { on := 5, ground := Ground.textOnly Departure.lateStoresUnsure }, { on := 6, ground := Ground.phase }, { on := 7, ground := Ground.phase }], guard := none }) rfl (fun K hK => ?_) AllReadyH.nil
                  rw [if_pos (by rfl)]
                  refine wp_store_mid _ _ _ rfl _ _ (arr (z - x)).toArray rfl rfl (by rw [arr_size]; exact X6) (by rw [arr_size]; exact infoU) (arr_one _) ?_
                  refine hK.out _ _ (below_cells' hHeld hg6 _ _) (fun hHeld => ?_)
                  clear hK K
                  try simp only [Act.put, List.setIfInBounds_toArray, List.set_cons_zero, List.set_cons_succ]
                  have X7' := World.there_setCells X7 w20.heap.size 0 (arr (z - x))
                  have RP := World.rangeAt_setCells_same w23 w20.heap.size 0 (arr (z - x)) (by rw [arr_len]; exact X6)
                  clear X6 X7
                  generalize w23.setCells w20.heap.size 0 (arr (z - x)) = w30 at *
                  refine wpAnyH_ready (rs := [9]) (by kernel_rfl) (by simp) ?_
                  refine AllReadyH.cons (o := { dst := none, op := Op.store 42 (Operand.tmp 16) (Operand.tmp 87), type := 0, pos := "low.go:380", after := #[{ on := 7, ground := Ground.data }, { on := 5, ground := Ground.data }, { on := 8, ground := Ground.chain }, { on := 0, ground := Ground.phase }, { on := 1, ground := Ground.phase }, { on := 2, ground := Ground.phase }, { on := 3, ground := Ground.phase }, { on := 4, ground := Ground.phase }, { on := 5, ground := Ground.phase }, { on := 6, ground := Ground.phase }, { on := 7, ground := Ground.phase }, { on := 8, ground := Ground.phase }], guard := none }) rfl (fun K hK => ?_) AllReadyH.nil
                  rw [if_pos (by rfl)]
                  refine wp_store_mid _ _ _ rfl _ _ (arr (y - z)).toArray rfl rfl (by rw [arr_size]; exact X7') (by rw [arr_size]; exact infoU) (arr_one _) ?_
                  refine hK.out _ _ (below_cells' hHeld hg7 _ _) (fun hHeld => ?_)
                  clear hK K
                  try simp only [Act.put, List.setIfInBounds_toArray, List.set_cons_zero, List.set_cons_succ]
                  refine wpAnyH_done (by kernel_rfl) (NoPanic.normal ?_) _
                  go_wp2_with fail
                  go_meet
                  exact ⟨_, _, rfl, rfl, Lib.hid (two_cells RP X7' hne), Lib.hid hHeld⟩
                exact AllReadyH.nil
              refine AllReadyH.cons (o := { dst := some 16, op := Op.alloc 42, type := 0, pos := "low.go:380", after := #[], guard := none }) rfl (fun K hK => ?_) ?_
              · rw [if_pos (by rfl)]
                refine wp_alloc_units rfl ?_; intro w22 htw22 hbw22 hzw22
                have Tw22 := Lib.hid htw22; have Zw22 := Lib.hid hzw22; clear htw22 hzw22
                have Bw22 := Lib.hid hbw22; clear hbw22
                refine hK.out _ _ (hHeld.trans (Bw22.out.mono hHeld.size)) (fun hHeld => ?_)
                clear hK K
                try simp only [Act.put, List.setIfInBounds_toArray, List.set_cons_zero, List.set_cons_succ]
                refine wpAnyH_ready (rs := [5]) (by kernel_rfl) (by simp) ?_
                refine AllReadyH.cons (o := { dst := some 87, op := Op.call { callee := Callee.value (Operand.func 13), args := #[Operand.tmp 85, Operand.tmp 86], argTypes := #[42, 42] }, type := 42, pos := "low.go:380", after := #[{ on := 3, ground := Ground.data }, { on := 4, ground := Ground.data }, { on := 2, ground := Ground.chain }], guard := none }) rfl (fun K hK => ?_) ?_
                · skip
                  go_simp
                  go_at_call 13
                  refine (CB.out _).mono ?_; rintro x w23 ⟨rfl, hbw23⟩
                  go_wp2_with fail
                  have Bw23 := Lib.hid hbw23; clear hbw23
                  refine hK.out _ _ (hHeld.trans (Bw23.out.mono hHeld.size)) (fun hHeld => ?_)
                  clear hK K
                  try simp only [Act.put, List.setIfInBounds_toArray, List.set_cons_zero, List.set_cons_succ]
                  have X6 : w23.there w20.heap.size 0 34 := (there_below (there_below Tw21.out Bw22.out) Bw23.out)
                  have X7 : w23.there w21.heap.size 0 34 := (there_below Tw22.out Bw23.out)
                  have hne : w20.heap.size ≠ w21.heap.size := by
                    have z6 := Zw21.out; have z7 := Zw22.out; have lw20 := Bw20.out.size; have lw21 := Bw21.out.size; have lw22 := Bw22.out.size; have lw23 := Bw23.out.size
                    omega
                  have hg6 : w15.heap.size ≤ w20.heap.size := by
                    have lw20 := Bw20.out.size; have lw21 := Bw21.out.size; have lw22 := Bw22.out.size; have lw23 := Bw23.out.size; omega
                  have hg7 : w15.heap.size ≤ w21.heap.size := by
                    have lw20 := Bw20.out.size; have lw21 := Bw21.out.size; have lw22 := Bw22.out.size; have lw23 := Bw23.out.size; omega
                  refine wpAnyH_ready (rs := [8]) (by kernel_rfl) (by simp) ?_
                  refine AllReadyH.cons (o := { dst := none, op := Op.store 42 (Operand.tmp 15) (Operand.tmp 84), type := 0, pos := "low.go:380", after := #[{ on := 6, ground := Ground.data }, { on := 2, ground := Ground.data }, { on := 5, ground := Ground.chain }, { on := 0, ground := Ground.phase }, { on := 1, ground := Ground.phase }, { on := 2, ground := Ground.phase }, { on := 3, ground := Ground.textOnly Departure.lateStores }, { on := 4, ground := Ground.textOnly Departure.lateStores }, { on := 5, ground := Ground.textOnly Departure.lateStoresUnsure }, { on := 6, ground := Ground.phase }, { on := 7, ground := Ground.phase }], guard := none }) rfl (fun K hK => ?_) AllReadyH.nil
                  rw [if_pos (by rfl)]
                  refine wp_store_mid _ _ _ rfl _ _ (arr (z - x)).toArray rfl rfl (by rw [arr_size]; exact X6) (by rw [arr_size]; exact infoU) (arr_one _) ?_
                  refine hK.out _ _ (below_cells' hHeld hg6 _ _) (fun hHeld => ?_)
                  clear hK K
                  try simp only [Act.put, List.setIfInBounds_toArray, List.set_cons_zero, List.set_cons_succ]
                  have X7' := World.there_setCells X7 w20.heap.size 0 (arr (z - x))
                  have RP := World.rangeAt_setCells_same w23 w20.heap.size 0 (arr (z - x)) (by rw [arr_len]; exact X6)
                  clear X6 X7
                  generalize w23.setCells w20.heap.size 0 (arr (z - x)) = w30 at *
                  refine wpAnyH_ready (rs := [9]) (by kernel_rfl) (by simp) ?_
                  refine AllReadyH.cons (o := { dst := none, op := Op.store 42 (Operand.tmp 16) (Operand.tmp 87), type := 0, pos := "low.go:380", after := #[{ on := 7, ground := Ground.data }, { on := 5, ground := Ground.data }, { on := 8, ground := Ground.chain }, { on := 0, ground := Ground.phase }, { on := 1, ground := Ground.phase }, { on := 2, ground := Ground.phase }, { on := 3, ground := Ground.phase }, { on := 4, ground := Ground.phase }, { on := 5, ground := Ground.phase }, { on := 6, ground := Ground.phase }, { on := 7, ground := Ground.phase }, { on := 8, ground := Ground.phase }], guard := none }) rfl (fun K hK => ?_) AllReadyH.nil
                  rw [if_pos (by rfl)]
                  refine wp_store_mid _ _ _ rfl _ _ (arr (y - z)).toArray rfl rfl (by rw [arr_size]; exact X7') (by rw [arr_size]; exact infoU) (arr_one _) ?_
                  refine hK.out _ _ (below_cells' hHeld hg7 _ _) (fun hHeld => ?_)
                  clear hK K
                  try simp only [Act.put, List.setIfInBounds_toArray, List.set_cons_zero, List.set_cons_succ]
                  refine wpAnyH_done (by kernel_rfl) (NoPanic.normal ?_) _
                  go_wp2_with fail
                  go_meet
                  exact ⟨_, _, rfl, rfl, Lib.hid (two_cells RP X7' hne), Lib.hid hHeld⟩
                exact AllReadyH.nil
              exact AllReadyH.nil
            refine AllReadyH.cons (o := { dst := some 16, op := Op.alloc 42, type := 0, pos := "low.go:380", after := #[], guard := none }) rfl (fun K hK => ?_) ?_
            · rw [if_pos (by rfl)]
              refine wp_alloc_units rfl ?_; intro w21 htw21 hbw21 hzw21
              have Tw21 := Lib.hid htw21; have Zw21 := Lib.hid hzw21; clear htw21 hzw21
              have Bw21 := Lib.hid hbw21; clear hbw21
              refine hK.out _ _ (hHeld.trans (Bw21.out.mono hHeld.size)) (fun hHeld => ?_)
              clear hK K
              try simp only [Act.put, List.setIfInBounds_toArray, List.set_cons_zero, List.set_cons_succ]
              refine wpAnyH_ready (rs := [5, 6]) (by kernel_rfl) (by simp) ?_
              refine AllReadyH.cons (o := { dst := some 87, op := Op.call { callee := Callee.value (Operand.func 13), args := #[Operand.tmp 85, Operand.tmp 86], argTypes := #[42, 42] }, type := 42, pos := "low.go:380", after := #[{ on := 3, ground := Ground.data }, { on := 4, ground := Ground.data }, { on := 2, ground := Ground.chain }], guard := none }) rfl (fun K hK => ?_) ?_
              · skip
                go_simp
                go_at_call 13
                refine (CB.out _).mono ?_; rintro x w22 ⟨rfl, hbw22⟩
                go_wp2_with fail
                have Bw22 := Lib.hid hbw22; clear hbw22
                refine hK.out _ _ (hHeld.trans (Bw22.out.mono hHeld.size)) (fun hHeld => ?_)
                clear hK K
                try simp only [Act.put, List.setIfInBounds_toArray, List.set_cons_zero, List.set_cons_succ]
                refine wpAnyH_ready (rs := [6]) (by kernel_rfl) (by simp) ?_
                refine AllReadyH.cons (o := { dst := some 15, op := Op.alloc 42, type := 0, pos := "low.go:380", after := #[], guard := none }) rfl (fun K hK => ?_) ?_
                · rw [if_pos (by rfl)]
                  refine wp_alloc_units rfl ?_; intro w23 htw23 hbw23 hzw23
                  have Tw23 := Lib.hid htw23; have Zw23 := Lib.hid hzw23; clear htw23 hzw23
                  have Bw23 := Lib.hid hbw23; clear hbw23
                  refine hK.out _ _ (hHeld.trans (Bw23.out.mono hHeld.size)) (fun hHeld => ?_)
                  clear hK K
                  try simp only [Act.put, List.setIfInBounds_toArray, List.set_cons_zero, List.set_cons_succ]
                  have X6 : w23.there w22.heap.size 0 34 := Tw23.out
                  have X7 : w23.there w20.heap.size 0 34 := (there_below (there_below Tw21.out Bw22.out) Bw23.out)
                  have hne : w22.heap.size ≠ w20.heap.size := by
                    have z6 := Zw23.out; have z7 := Zw21.out; have lw20 := Bw20.out.size; have lw21 := Bw21.out.size; have lw22 := Bw22.out.size; have lw23 := Bw23.out.size
                    omega
                  have hg6 : w15.heap.size ≤ w22.heap.size := by
                    have lw20 := Bw20.out.size; have lw21 := Bw21.out.size; have lw22 := Bw22.out.size; have lw23 := Bw23.out.size; omega
                  have hg7 : w15.heap.size ≤ w20.heap.size := by
                    have lw20 := Bw20.out.size; have lw21 := Bw21.out.size; have lw22 := Bw22.out.size; have lw23 := Bw23.out.size; omega
                  refine wpAnyH_ready (rs := [8]) (by kernel_rfl) (by simp) ?_
                  refine AllReadyH.cons (o := { dst := none, op := Op.store 42 (Operand.tmp 15) (Operand.tmp 84), type := 0, pos := "low.go:380", after := #[{ on := 6, ground := Ground.data }, { on := 2, ground := Ground.data }, { on := 5, ground := Ground.chain }, { on := 0, ground := Ground.phase }, { on := 1, ground := Ground.phase }, { on := 2, ground := Ground.phase }, { on := 3, ground := Ground.textOnly Departure.lateStores }, { on := 4, ground := Ground.textOnly Departure.lateStores }, { on := 5, ground := Ground.textOnly Departure.lateStoresUnsure }, { on := 6, ground := Ground.phase }, { on := 7, ground := Ground.phase }], guard := none }) rfl (fun K hK => ?_) AllReadyH.nil
                  rw [if_pos (by rfl)]
                  refine wp_store_mid _ _ _ rfl _ _ (arr (z - x)).toArray rfl rfl (by rw [arr_size]; exact X6) (by rw [arr_size]; exact infoU) (arr_one _) ?_
                  refine hK.out _ _ (below_cells' hHeld hg6 _ _) (fun hHeld => ?_)
                  clear hK K
                  try simp only [Act.put, List.setIfInBounds_toArray, List.set_cons_zero, List.set_cons_succ]
                  have X7' := World.there_setCells X7 w22.heap.size 0 (arr (z - x))
                  have RP := World.rangeAt_setCells_same w23 w22.heap.size 0 (arr (z - x)) (by rw [arr_len]; exact X6)
                  clear X6 X7
                  generalize w23.setCells w22.heap.size 0 (arr (z - x)) = w30 at *
                  refine wpAnyH_ready (rs := [9]) (by kernel_rfl) (by simp) ?_
                  refine AllReadyH.cons (o := { dst := none, op := Op.store 42 (Operand.tmp 16) (Operand.tmp 87), type := 0, pos := "low.go:380", after := #[{ on := 7, ground := Ground.data }, { on := 5, ground := Ground.data }, { on := 8, ground := Ground.chain }, { on := 0, ground := Ground.phase }, { on := 1, ground := Ground.phase }, { on := 2, ground := Ground.phase }, { on := 3, ground := Ground.phase }, { on := 4, ground := Ground.phase }, { on := 5, ground := Ground.phase }, { on := 6, ground := Ground.phase }, { on := 7, ground := Ground.phase }, { on := 8, ground := Ground.phase }], guard := none }) rfl (fun K hK => ?_) AllReadyH.nil
                  rw [if_pos (by rfl)]
                  refine wp_store_mid _ _ _ rfl _ _ (arr (y - z)).toArray rfl rfl (by rw [arr_size]; exact X7') (by rw [arr_size]; exact infoU) (arr_one _) ?_
                  refine hK.out _ _ (below_cells' hHeld hg7 _ _) (fun hHeld => ?_)
                  clear hK K
                  try simp only [Act.put, List.setIfInBounds_toArray, List.set_cons_zero, List.set_cons_succ]
                  refine wpAnyH_done (by kernel_rfl) (NoPanic.normal ?_) _
                  go_wp2_with fail
                  go_meet
                  exact ⟨_, _, rfl, rfl, Lib.hid (two_cells RP X7' hne), Lib.hid hHeld⟩
                exact AllReadyH.nil
              refine AllReadyH.cons (o := { dst := some 15, op := Op.alloc 42, type := 0, pos := "low.go:380", after := #[], guard := none }) rfl (fun K hK => ?_) ?_
              · rw [if_pos (by rfl)]
                refine wp_alloc_units rfl ?_; intro w22 htw22 hbw22 hzw22
                have Tw22 := Lib.hid htw22; have Zw22 := Lib.hid hzw22; clear htw22 hzw22
                have Bw22 := Lib.hid hbw22; clear hbw22
                refine hK.out _ _ (hHeld.trans (Bw22.out.mono hHeld.size)) (fun hHeld => ?_)
                clear hK K
                try simp only [Act.put, List.setIfInBounds_toArray, List.set_cons_zero, List.set_cons_succ]
                refine wpAnyH_ready (rs := [5]) (by kernel_rfl) (by simp) ?_
                refine AllReadyH.cons (o := { dst := some 87, op := Op.call { callee := Callee.value (Operand.func 13), args := #[Operand.tmp 85, Operand.tmp 86], argTypes := #[42, 42] }, type := 42, pos := "low.go:380", after := #[{ on := 3, ground := Ground.data }, { on := 4, ground := Ground.data }, { on := 2, ground := Ground.chain }], guard := none }) rfl (fun K hK => ?_) ?_
                · skip
                  go_simp
                  go_at_call 13
                  refine (CB.out _).mono ?_; rintro x w23 ⟨rfl, hbw23⟩
                  go_wp2_with fail
                  have Bw23 := Lib.hid hbw23; clear hbw23
                  refine hK.out _ _ (hHeld.trans (Bw23.out.mono hHeld.size)) (fun hHeld => ?_)
                  clear hK K
                  try simp only [Act.put, List.setIfInBounds_toArray, List.set_cons_zero, List.set_cons_succ]
                  have X6 : w23.there w21.heap.size 0 34 := (there_below Tw22.out Bw23.out)
                  have X7 : w23.there w20.heap.size 0 34 := (there_below (there_below Tw21.out Bw22.out) Bw23.out)
                  have hne : w21.heap.size ≠ w20.heap.size := by
                    have z6 := Zw22.out; have z7 := Zw21.out; have lw20 := Bw20.out.size; have lw21 := Bw21.out.size; have lw22 := Bw22.out.size; have lw23 := Bw23.out.size
                    omega
                  have hg6 : w15.heap.size ≤ w21.heap.size := by
                    have lw20 := Bw20.out.size; have lw21 := Bw21.out.size; have lw22 := Bw22.out.size; have lw23 := Bw23.out.size; omega
                  have hg7 : w15.heap.size ≤ w20.heap.size := by
                    have lw20 := Bw20.out.size; have lw21 := Bw21.out.size; have lw22 := Bw22.out.size; have lw23 := Bw23.out.size; omega
                  refine wpAnyH_ready (rs := [8]) (by kernel_rfl) (by simp) ?_
                  refine AllReadyH.cons (o := { dst := none, op := Op.store 42 (Operand.tmp 15) (Operand.tmp 84), type := 0, pos := "low.go:380", after := #[{ on := 6, ground := Ground.data }, { on := 2, ground := Ground.data }, { on := 5, ground := Ground.chain }, { on := 0, ground := Ground.phase }, { on := 1, ground := Ground.phase }, { on := 2, ground := Ground.phase }, { on := 3, ground := Ground.textOnly Departure.lateStores }, { on := 4, ground := Ground.textOnly Departure.lateStores }, { on := 5, ground := Ground.textOnly Departure.lateStoresUnsure }, { on := 6, ground := Ground.phase }, { on := 7, ground := Ground.phase }], guard := none }) rfl (fun K hK => ?_) AllReadyH.nil
                  rw [if_pos (by rfl)]
                  refine wp_store_mid _ _ _ rfl _ _ (arr (z - x)).toArray rfl rfl (by rw [arr_size]; exact X6) (by rw [arr_size]; exact infoU) (arr_one _) ?_
                  refine hK.out _ _ (below_cells' hHeld hg6 _ _) (fun hHeld => ?_)
                  clear hK K
                  try simp only [Act.put, List.setIfInBounds_toArray, List.set_cons_zero, List.set_cons_succ]
                  have X7' := World.there_setCells X7 w21.heap.size 0 (arr (z - x))
                  have RP := World.rangeAt_setCells_same w23 w21.heap.size 0 (arr (z - x)) (by rw [arr_len]; exact X6)
                  clear X6 X7
                  generalize w23.setCells w21.heap.size 0 (arr (z - x)) = w30 at *
                  refine wpAnyH_ready (rs := [9]) (by kernel_rfl) (by simp) ?_
                  refine AllReadyH.cons (o := { dst := none, op := Op.store 42 (Operand.tmp 16) (Operand.tmp 87), type := 0, pos := "low.go:380", after := #[{ on := 7, ground := Ground.data }, { on := 5, ground := Ground.data }, { on := 8, ground := Ground.chain }, { on := 0, ground := Ground.phase }, { on := 1, ground := Ground.phase }, { on := 2, ground := Ground.phase }, { on := 3, ground := Ground.phase }, { on := 4, ground := Ground.phase }, { on := 5, ground := Ground.phase }, { on := 6, ground := Ground.phase }, { on := 7, ground := Ground.phase }, { on := 8, ground := Ground.phase }], guard := none }) rfl (fun K hK => ?_) AllReadyH.nil
                  rw [if_pos (by rfl)]
                  refine wp_store_mid _ _ _ rfl _ _ (arr (y - z)).toArray rfl rfl (by rw [arr_size]; exact X7') (by rw [arr_size]; exact infoU) (arr_one _) ?_
                  refine hK.out _ _ (below_cells' hHeld hg7 _ _) (fun hHeld => ?_)
                  clear hK K
                  try simp only [Act.put, List.setIfInBounds_toArray, List.set_cons_zero, List.set_cons_succ]
                  refine wpAnyH_done (by kernel_rfl) (NoPanic.normal ?_) _
                  go_wp2_with fail
                  go_meet
                  exact ⟨_, _, rfl, rfl, Lib.hid (two_cells RP X7' hne), Lib.hid hHeld⟩
                exact AllReadyH.nil
              exact AllReadyH.nil
            exact AllReadyH.nil
          refine AllReadyH.cons (o := { dst := some 15, op := Op.alloc 42, type := 0, pos := "low.go:380", after := #[], guard := none }) rfl (fun K hK => ?_) ?_
          · rw [if_pos (by rfl)]
            refine wp_alloc_units rfl ?_; intro w20 htw20 hbw20 hzw20
            have Tw20 := Lib.hid htw20; have Zw20 := Lib.hid hzw20; clear htw20 hzw20
            have Bw20 := Lib.hid hbw20; clear hbw20
            refine hK.out _ _ (hHeld.trans (Bw20.out.mono hHeld.size)) (fun hHeld => ?_)
            clear hK K
            try simp only [Act.put, List.setIfInBounds_toArray, List.set_cons_zero, List.set_cons_succ]
            refine wpAnyH_ready (rs := [2, 7]) (by kernel_rfl) (by simp) ?_
            refine AllReadyH.cons (o := { dst := some 84, op := Op.call { callee := Callee.value (Operand.func 13), args := #[Operand.tmp 82, Operand.tmp 83], argTypes := #[42, 42] }, type := 42, pos := "low.go:380", after := #[{ on := 0, ground := Ground.data }, { on := 1, ground := Ground.data }], guard := none }) rfl (fun K hK => ?_) ?_
            · skip
              go_simp
              go_at_call 13
              refine (CA.out _).mono ?_; rintro x w21 ⟨rfl, hbw21⟩
              go_wp2_with fail
              have Bw21 := Lib.hid hbw21; clear hbw21
              refine hK.out _ _ (hHeld.trans (Bw21.out.mono hHeld.size)) (fun hHeld => ?_)
              clear hK K
              try simp only [Act.put, List.setIfInBounds_toArray, List.set_cons_zero, List.set_cons_succ]
              refine wpAnyH_ready (rs := [5, 7]) (by kernel_rfl) (by simp) ?_
              refine AllReadyH.cons (o := { dst := some 87, op := Op.call { callee := Callee.value (Operand.func 13), args := #[Operand.tmp 85, Operand.tmp 86], argTypes := #[42, 42] }, type := 42, pos := "low.go:380", after := #[{ on := 3, ground := Ground.data }, { on := 4, ground := Ground.data }, { on := 2, ground := Ground.chain }], guard := none }) rfl (fun K hK => ?_) ?_
              · skip
                go_simp
                go_at_call 13
                refine (CB.out _).mono ?_; rintro x w22 ⟨rfl, hbw22⟩
                go_wp2_with fail
                have Bw22 := Lib.hid hbw22; clear hbw22
                refine hK.out _ _ (hHeld.trans (Bw22.out.mono hHeld.size)) (fun hHeld => ?_)
                clear hK K
                try simp only [Act.put, List.setIfInBounds_toArray, List.set_cons_zero, List.set_cons_succ]
                refine wpAnyH_ready (rs := [7]) (by kernel_rfl) (by simp) ?_
                refine AllReadyH.cons (o := { dst := some 16, op := Op.alloc 42, type := 0, pos := "low.go:380", after := #[], guard := none }) rfl (fun K hK => ?_) ?_
                · rw [if_pos (by rfl)]
                  refine wp_alloc_units rfl ?_; intro w23 htw23 hbw23 hzw23
                  have Tw23 := Lib.hid htw23; have Zw23 := Lib.hid hzw23; clear htw23 hzw23
                  have Bw23 := Lib.hid hbw23; clear hbw23
                  refine hK.out _ _ (hHeld.trans (Bw23.out.mono hHeld.size)) (fun hHeld => ?_)
                  clear hK K
                  try simp only [Act.put, List.setIfInBounds_toArray, List.set_cons_zero, List.set_cons_succ]
                  have X6 : w23.there w20d.heap.size 0 34 := (there_below (there_below (there_below Tw20.out Bw21.out) Bw22.out) Bw23.out)
                  have X7 : w23.there w22.heap.size 0 34 := Tw23.out
                  have hne : w20d.heap.size ≠ w22.heap.size := by
                    have z6 := Zw20.out; have z7 := Zw23.out; have lw20 := Bw20.out.size; have lw21 := Bw21.out.size; have lw22 := Bw22.out.size; have lw23 := Bw23.out.size
                    omega
                  have hg6 : w15.heap.size ≤ w20d.heap.size := by
                    have lw20 := Bw20.out.size; have lw21 := Bw21.out.size; have lw22 := Bw22.out.size; have lw23 := Bw23.out.size; omega
                  have hg7 : w15.heap.size ≤ w22.heap.size := by
                    have lw20 := Bw20.out.size; have lw21 := Bw21.out.size; have lw22 := Bw22.out.size; have lw23 := Bw23.out.size; omega
                  refine wpAnyH_ready (rs := [8]) (by kernel_rfl) (by simp) ?_
                  refine AllReadyH.cons (o := { dst := none, op := Op.store 42 (Operand.tmp 15) (Operand.tmp 84), type := 0, pos := "low.go:380", after := #[{ on := 6, ground := Ground.data }, { on := 2, ground := Ground.data }, { on := 5, ground := Ground.chain }, { on := 0, ground := Ground.phase }, { on := 1, ground := Ground.phase }, { on := 2, ground := Ground.phase }, { on := 3, ground := Ground.textOnly Departure.lateStores }, { on := 4, ground := Ground.textOnly Departure.lateStores }, { on := 5, ground := Ground.textOnly Departure.lateStoresUnsure }, { on := 6, ground := Ground.phase }, { on := 7, ground := Ground.phase }], guard := none }) rfl (fun K hK => ?_) AllReadyH.nil
                  rw [if_pos (by rfl)]
                  refine wp_store_mid _ _ _ rfl _ _ (arr (z - x)).toArray rfl rfl (by rw [arr_size]; exact X6) (by rw [arr_size]; exact infoU) (arr_one _) ?_
                  refine hK.out _ _ (below_cells' hHeld hg6 _ _) (fun hHeld => ?_)
                  clear hK K
                  try simp only [Act.put, List.setIfInBounds_toArray, List.set_cons_zero, List.set_cons_succ]
                  have X7' := World.there_setCells X7 w20d.heap.size 0 (arr (z - x))
                  have RP := World.rangeAt_setCells_same w23 w20d.heap.size 0 (arr (z - x)) (by rw [arr_len]; exact X6)
                  clear X6 X7
                  generalize w23.setCells w20d.heap.size 0 (arr (z - x)) = w30 at *
                  refine wpAnyH_ready (rs := [9]) (by kernel_rfl) (by simp) ?_
                  refine AllReadyH.cons (o := { dst := none, op := Op.store 42 (Operand.tmp 16) (Operand.tmp 87), type := 0, pos := "low.go:380", after := #[{ on := 7, ground := Ground.data }, { on := 5, ground := Ground.data }, { on := 8, ground := Ground.chain }, { on := 0, ground := Ground.phase }, { on := 1, ground := Ground.phase }, { on := 2, ground := Ground.phase }, { on := 3, ground := Ground.phase }, { on := 4, ground := Ground.phase }, { on := 5, ground := Ground.phase }, { on := 6, ground := Ground.phase }, { on := 7, ground := Ground.phase }, { on := 8, ground := Ground.phase }], guard := none }) rfl (fun K hK => ?_) AllReadyH.nil
                  rw [if_pos (by rfl)]
                  refine wp_store_mid _ _ _ rfl _ _ (arr (y - z)).toArray rfl rfl (by rw [arr_size]; exact X7') (by rw [arr_size]; exact infoU) (arr_one _) ?_
                  refine hK.out _ _ (below_cells' hHeld hg7 _ _) (fun hHeld => ?_)
                  clear hK K
                  try simp only [Act.put, List.setIfInBounds_toArray, List.set_cons_zero, List.set_cons_succ]
                  refine wpAnyH_done (by kernel_rfl) (NoPanic.normal ?_) _
                  go_wp2_with fail
                  go_meet
                  exact ⟨_, _, rfl, rfl, Lib.hid (two_cells RP X7' hne), Lib.hid hHeld⟩
                exact AllReadyH.nil
              refine AllReadyH.cons (o := { dst := some 16, op := Op.alloc 42, type := 0, pos := "low.go:380", after := #[], guard := none }) rfl (fun K hK => ?_) ?_
              · rw [if_pos (by rfl)]
                refine wp_alloc_units rfl ?_; intro w22 htw22 hbw22 hzw22
                have Tw22 := Lib.hid htw22; have Zw22 := Lib.hid hzw22; clear htw22 hzw22
                have Bw22 := Lib.hid hbw22; clear hbw22
                refine hK.out _ _ (hHeld.trans (Bw22.out.mono hHeld.size)) (fun hHeld => ?_)
                clear hK K
                try simp only [Act.put, List.setIfInBounds_toArray, List.set_cons_zero, List.set_cons_succ]
                refine wpAnyH_ready (rs := [5]) (by kernel_rfl) (by simp) ?_
                refine AllReadyH.cons (o := { dst := some 87, op := Op.call { callee := Callee.value (Operand.func 13), args := #[Operand.tmp 85, Operand.tmp 86], argTypes := #[42, 42] }, type := 42, pos := "low.go:380", after := #[{ on := 3, ground := Ground.data }, { on := 4, ground := Ground.data }, { on := 2, ground := Ground.chain }], guard := none }) rfl (fun K hK => ?_) ?_
                · skip
                  go_simp
                  go_at_call 13
                  refine (CB.out _).mono ?_; rintro x w23 ⟨rfl, hbw23⟩
                  go_wp2_with fail
                  have Bw23 := Lib.hid hbw23; clear hbw23
                  refine hK.out _ _ (hHeld.trans (Bw23.out.mono hHeld.size)) (fun hHeld => ?_)
                  clear hK K
                  try simp only [Act.put, List.setIfInBounds_toArray, List.set_cons_zero, List.set_cons_succ]
                  have X6 : w23.there w20d.heap.size 0 34 := (there_below (there_below (there_below Tw20.out Bw21.out) Bw22.out) Bw23.out)
                  have X7 : w23.there w21.heap.size 0 34 := (there_below Tw22.out Bw23.out)
                  have hne : w20d.heap.size ≠ w21.heap.size := by
                    have z6 := Zw20.out; have z7 := Zw22.out; have lw20 := Bw20.out.size; have lw21 := Bw21.out.size; have lw22 := Bw22.out.size; have lw23 := Bw23.out.size
                    omega
                  have hg6 : w15.heap.size ≤ w20d.heap.size := by
                    have lw20 := Bw20.out.size; have lw21 := Bw21.out.size; have lw22 := Bw22.out.size; have lw23 := Bw23.out.size; omega
                  have hg7 : w15.heap.size ≤ w21.heap.size := by
                    have lw20 := Bw20.out.size; have lw21 := Bw21.out.size; have lw22 := Bw22.out.size; have lw23 := Bw23.out.size; omega
                  refine wpAnyH_ready (rs := [8]) (by kernel_rfl) (by simp) ?_
                  refine AllReadyH.cons (o := { dst := none, op := Op.store 42 (Operand.tmp 15) (Operand.tmp 84), type := 0, pos := "low.go:380", after := #[{ on := 6, ground := Ground.data }, { on := 2, ground := Ground.data }, { on := 5, ground := Ground.chain }, { on := 0, ground := Ground.phase }, { on := 1, ground := Ground.phase }, { on := 2, ground := Ground.phase }, { on := 3, ground := Ground.textOnly Departure.lateStores }, { on := 4, ground := Ground.textOnly Departure.lateStores }, { on := 5, ground := Ground.textOnly Departure.lateStoresUnsure }, { on := 6, ground := Ground.phase }, { on := 7, ground := Ground.phase }], guard := none }) rfl (fun K hK => ?_) AllReadyH.nil
                  rw [if_pos (by rfl)]
                  refine wp_store_mid _ _ _ rfl _ _ (arr (z - x)).toArray rfl rfl (by rw [arr_size]; exact X6) (by rw [arr_size]; exact infoU) (arr_one _) ?_
                  refine hK.out _ _ (below_cells' hHeld hg6 _ _) (fun hHeld => ?_)
                  clear hK K
                  try simp only [Act.put, List.setIfInBounds_toArray, List.set_cons_zero, List.set_cons_succ]
                  have X7' := World.there_setCells X7 w20d.heap.size 0 (arr (z - x))
                  have RP := World.rangeAt_setCells_same w23 w20d.heap.size 0 (arr (z - x)) (by rw [arr_len]; exact X6)
                  clear X6 X7
                  generalize w23.setCells w20d.heap.size 0 (arr (z - x)) = w30 at *
                  refine wpAnyH_ready (rs := [9]) (by kernel_rfl) (by simp) ?_
                  refine AllReadyH.cons (o := { dst := none, op := Op.store 42 (Operand.tmp 16) (Operand.tmp 87), type := 0, pos := "low.go:380", after := #[{ on := 7, ground := Ground.data }, { on := 5, ground := Ground.data }, { on := 8, ground := Ground.chain }, { on := 0, ground := Ground.phase }, { on := 1, ground := Ground.phase }, { on := 2, ground := Ground.phase }, { on := 3, ground := Ground.phase }, { on := 4, ground := Ground.phase }, { on := 5, ground := Ground.phase }, { on := 6, ground := Ground.phase }, { on := 7, ground := Ground.phase }, { on := 8, ground := Ground.phase }], guard := none }) rfl (fun K hK => ?_) AllReadyH.nil
                  rw [if_pos (by rfl)]
                  refine wp_store_mid _ _ _ rfl _ _ (arr (y - z)).toArray rfl rfl (by rw [arr_size]; exact X7') (by rw [arr_size]; exact infoU) (arr_one _) ?_
                  refine hK.out _ _ (below_cells' hHeld hg7 _ _) (fun hHeld => ?_)
                  clear hK K
                  try simp only [Act.put, List.setIfInBounds_toArray, List.set_cons_zero, List.set_cons_succ]
                  refine wpAnyH_done (by kernel_rfl) (NoPanic.normal ?_) _
                  go_wp2_with fail
                  go_meet
                  exact ⟨_, _, rfl, rfl, Lib.hid (two_cells RP X7' hne), Lib.hid hHeld⟩
                exact AllReadyH.nil
              exact AllReadyH.nil
            refine AllReadyH.cons (o := { dst := some 16, op := Op.alloc 42, type := 0, pos := "low.go:380", after := #[], guard := none }) rfl (fun K hK => ?_) ?_
            · rw [if_pos (by rfl)]
              refine wp_alloc_units rfl ?_; intro w21 htw21 hbw21 hzw21
              have Tw21 := Lib.hid htw21; have Zw21 := Lib.hid hzw21; clear htw21 hzw21
              have Bw21 := Lib.hid hbw21; clear hbw21
              refine hK.out _ _ (hHeld.trans (Bw21.out.mono hHeld.size)) (fun hHeld => ?_)
              clear hK K
              try simp only [Act.put, List.setIfInBounds_toArray, List.set_cons_zero, List.set_cons_succ]
              refine wpAnyH_ready (rs := [2]) (by kernel_rfl) (by simp) ?_
              refine AllReadyH.cons (o := { dst := some 84, op := Op.call { callee := Callee.value (Operand.func 13), args := #[Operand.tmp 82, Operand.tmp 83], argTypes := #[42, 42] }, type := 42, pos := "low.go:380", after := #[{ on := 0, ground := Ground.data }, { on := 1, ground := Ground.data }], guard := none }) rfl (fun K hK => ?_) ?_
              · skip
                go_simp
                go_at_call 13
                refine (CA.out _).mono ?_; rintro x w22 ⟨rfl, hbw22⟩
                go_wp2_with fail
                have Bw22 := Lib.hid hbw22; clear hbw22
                refine hK.out _ _ (hHeld.trans (Bw22.out.mono hHeld.size)) (fun hHeld => ?_)
                clear hK K
                try simp only [Act.put, List.setIfInBounds_toArray, List.set_cons_zero, List.set_cons_succ]
                refine wpAnyH_ready (rs := [5]) (by kernel_rfl) (by simp) ?_
                refine AllReadyH.cons (o := { dst := some 87, op := Op.call { callee := Callee.value (Operand.func 13), args := #[Operand.tmp 85, Operand.tmp 86], argTypes := #[42, 42] }, type := 42, pos := "low.go:380", after := #[{ on := 3, ground := Ground.data }, { on := 4, ground := Ground.data }, { on := 2, ground := Ground.chain }], guard := none }) rfl (fun K hK => ?_) ?_
                · skip
                  go_simp
                  go_at_call 13
                  refine (CB.out _).mono ?_; rintro x w23 ⟨rfl, hbw23⟩
                  go_wp2_with fail
                  have Bw23 := Lib.hid hbw23; clear hbw23
                  refine hK.out _ _ (hHeld.trans (Bw23.out.mono hHeld.size)) (fun hHeld => ?_)
                  clear hK K
                  try simp only [Act.put, List.setIfInBounds_toArray, List.set_cons_zero, List.set_cons_succ]
                  have X6 : w23.there w20d.heap.size 0 34 := (there_below (there_below (there_below Tw20.out Bw21.out) Bw22.out) Bw23.out)
                  have X7 : w23.there w20.heap.size 0 34 := (there_below (there_below Tw21.out Bw22.out) Bw23.out)
                  have hne : w20d.heap.size ≠ w20.heap.size := by
                    have z6 := Zw20.out; have z7 := Zw21.out; have lw20 := Bw20.out.size; have lw21 := Bw21.out.size; have lw22 := Bw22.out.size; have lw23 := Bw23.out.size
                    omega
                  have hg6 : w15.heap.size ≤ w20d.heap.size := by
                    have lw20 := Bw20.out.size; have lw21 := Bw21.out.size; have lw22 := Bw22.out.size; have lw23 := Bw23.out.size; omega
                  have hg7 : w15.heap.size ≤ w20.heap.size := by
                    have lw20 := Bw20.out.size; have lw21 := Bw21.out.size; have lw22 := Bw22.out.size; have lw23 := Bw23.out.size; omega
                  refine wpAnyH_ready (rs := [8]) (by kernel_rfl) (by simp) ?_
                  refine AllReadyH.cons (o := { dst := none, op := Op.store 42 (Operand.tmp 15) (Operand.tmp 84), type := 0, pos := "low.go:380", after := #[{ on := 6, ground := Ground.data }, { on := 2, ground := Ground.data }, { on := 5, ground := Ground.chain }, { on := 0, ground := Ground.phase }, { on := 1, ground := Ground.phase }, { on := 2, ground := Ground.phase }, { on := 3, ground := Ground.textOnly Departure.lateStores }, { on := 4, ground := Ground.textOnly Departure.lateStores }, { on := 5, ground := Ground.textOnly Departure.lateStoresUnsure }, { on := 6, ground := Ground.phase }, { on := 7, ground := Ground.phase }], guard := none }) rfl (fun K hK => ?_) AllReadyH.nil
                  rw [if_pos (by rfl)]
                  refine wp_store_mid _ _ _ rfl _ _ (arr (z - x)).toArray rfl rfl (by rw [arr_size]; exact X6) (by rw [arr_size]; exact infoU) (arr_one _) ?_
                  refine hK.out _ _ (below_cells' hHeld hg6 _ _) (fun hHeld => ?_)
                  clear hK K
                  try simp only [Act.put, List.setIfInBounds_toArray, List.set_cons_zero, List.set_cons_succ]
                  have X7' := World.there_setCells X7 w20d.heap.size 0 (arr (z - x))
                  have RP := World.rangeAt_setCells_same w23 w20d.heap.size 0 (arr (z - x)) (by rw [arr_len]; exact X6)
                  clear X6 X7
                  generalize w23.setCells w20d.heap.size 0 (arr (z - x)) = w30 at *
                  refine wpAnyH_ready (rs := [9]) (by kernel_rfl) (by simp) ?_
                  refine AllReadyH.cons (o := { dst := none, op := Op.store 42 (Operand.tmp 16) (Operand.tmp 87), type := 0, pos := "low.go:380", after := #[{ on := 7, ground := Ground.data }, { on := 5, ground := Ground.data }, { on := 8, ground := Ground.chain }, { on := 0, ground := Ground.phase }, { on := 1, ground := Ground.phase }, { on := 2, ground := Ground.phase }, { on := 3, ground := Ground.phase }, { on := 4, ground := Ground.phase }, { on := 5, ground := Ground.phase }, { on := 6, ground := Ground.phase }, { on := 7, ground := Ground.phase }, { on := 8, ground := Ground.phase }], guard := none }) rfl (fun K hK => ?_) AllReadyH.nil
                  rw [if_pos (by rfl)]
                  refine wp_store_mid _ _ _ rfl _ _ (arr (y - z)).toArray rfl rfl (by rw [arr_size]; exact X7') (by rw [arr_size]; exact infoU) (arr_one _) ?_
                  refine hK.out _ _ (below_cells' hHeld hg7 _ _) (fun hHeld => ?_)
                  clear hK K
                  try simp only [Act.put, List.setIfInBounds_toArray, List.set_cons_zero, List.set_cons_succ]
                  refine wpAnyH_done (by kernel_rfl) (NoPanic.normal ?_) _
                  go_wp2_with fail
                  go_meet
                  exact ⟨_, _, rfl, rfl, Lib.hid (two_cells RP X7' hne), Lib.hid hHeld⟩
                exact AllReadyH.nil
              exact AllReadyH.nil
            exact AllReadyH.nil
          refine AllReadyH.cons (o := { dst := some 16, op := Op.alloc 42, type := 0, pos := "low.go:380", after := #[], guard := none }) rfl (fun K hK => ?_) ?_
          · rw [if_pos (by rfl)]
            refine wp_alloc_units rfl ?_; intro w20 htw20 hbw20 hzw20
            have Tw20 := Lib.hid htw20; have Zw20 := Lib.hid hzw20; clear htw20 hzw20
            have Bw20 := Lib.hid hbw20; clear hbw20
            refine hK.out _ _ (hHeld.trans (Bw20.out.mono hHeld.size)) (fun hHeld => ?_)
            clear hK K
            try simp only [Act.put, List.setIfInBounds_toArray, List.set_cons_zero, List.set_cons_succ]
            refine wpAnyH_ready (rs := [2, 6]) (by kernel_rfl) (by simp) ?_
            refine AllReadyH.cons (o := { dst := some 84, op := Op.call { callee := Callee.value (Operand.func 13), args := #[Operand.tmp 82, Operand.tmp 83], argTypes := #[42, 42] }, type := 42, pos := "low.go:380", after := #[{ on := 0, ground := Ground.data }, { on := 1, ground := Ground.data }], guard := none }) rfl (fun K hK => ?_) ?_
            · skip
              go_simp
              go_at_call 13
              refine (CA.out _).mono ?_; rintro x w21 ⟨rfl, hbw21⟩
              go_wp2_with fail
              have Bw21 := Lib.hid hbw21; clear hbw21
              refine hK.out _ _ (hHeld.trans (Bw21.out.mono hHeld.size)) (fun hHeld => ?_)
              clear hK K
              try simp only [Act.put, List.setIfInBounds_toArray, List.set_cons_zero, List.set_cons_succ]
              refine wpAnyH_ready (rs := [5, 6]) (by kernel_rfl) (by simp) ?_
              refine AllReadyH.cons (o := { dst := some 87, op := Op.call { callee := Callee.value (Operand.func 13), args := #[Operand.tmp 85, Operand.tmp 86], argTypes := #[42, 42] }, type := 42, pos := "low.go:380", after := #[{ on := 3, ground := Ground.data }, { on := 4, ground := Ground.data }, { on := 2, ground := Ground.chain }], guard := none }) rfl (fun K hK => ?_) ?_
              · skip
                go_simp
                go_at_call 13
                refine (CB.out _).mono ?_; rintro x w22 ⟨rfl, hbw22⟩
                go_wp2_with fail
                have Bw22 := Lib.hid hbw22; clear hbw22
                refine hK.out _ _ (hHeld.trans (Bw22.out.mono hHeld.size)) (fun hHeld => ?_)
                clear hK K
                try simp only [Act.put, List.setIfInBounds_toArray, List.set_cons_zero, List.set_cons_succ]
                refine wpAnyH_ready (rs := [6]) (by kernel_rfl) (by simp) ?_
                refine AllReadyH.cons (o := { dst := some 15, op := Op.alloc 42, type := 0, pos := "low.go:380", after := #[], guard := none }) rfl (fun K hK => ?_) ?_
                · rw [if_pos (by rfl)]
                  refine wp_alloc_units rfl ?_; intro w23 htw23 hbw23 hzw23
                  have Tw23 := Lib.hid htw23; have Zw23 := Lib.hid hzw23; clear htw23 hzw23
                  have Bw23 := Lib.hid hbw23; clear hbw23
                  refine hK.out _ _ (hHeld.trans (Bw23.out.mono hHeld.size)) (fun hHeld => ?_)
                  clear hK K
                  try simp only [Act.put, List.setIfInBounds_toArray, List.set_cons_zero, List.set_cons_succ]
                  have X6 : w23.there w22.heap.size 0 34 := Tw23.out
                  have X7 : w23.there w20d.heap.size 0 34 := (there_below (there_below (there_below Tw20.out Bw21.out) Bw22.out) Bw23.out)
                  have hne : w22.heap.size ≠ w20d.heap.size := by
                    have z6 := Zw23.out; have z7 := Zw20.out; have lw20 := Bw20.out.size; have lw21 := Bw21.out.size; have lw22 := Bw22.out.size; have lw23 := Bw23.out.size
                    omega
                  have hg6 : w15.heap.size ≤ w22.heap.size := by
                    have lw20 := Bw20.out.size; have lw21 := Bw21.out.size; have lw22 := Bw22.out.size; have lw23 := Bw23.out.size; omega
                  have hg7 : w15.heap.size ≤ w20d.heap.size := by
                    have lw20 := Bw20.out.size; have lw21 := Bw21.out.size; have lw22 := Bw22.out.size; have lw23 := Bw23.out.size; omega
                  refine wpAnyH_ready (rs := [8]) (by kernel_rfl) (by simp) ?_
                  refine AllReadyH.cons (o := { dst := none, op := Op.store 42 (Operand.tmp 15) (Operand.tmp 84), type := 0, pos := "low.go:380", after := #[{ on := 6, ground := Ground.data }, { on := 2, ground := Ground.data }, { on := 5, ground := Ground.chain }, { on := 0, ground := Ground.phase }, { on := 1, ground := Ground.phase }, { on := 2, ground := Ground.phase }, { on := 3, ground := Ground.textOnly Departure.lateStores }, { on := 4, ground := Ground.textOnly Departure.lateStores }, { on := 5, ground := Ground.textOnly Departure.lateStoresUnsure }, { on := 6, ground := Ground.phase }, { on := 7, ground := Ground.phase }], guard := none }) rfl (fun K hK => ?_) AllReadyH.nil
                  rw [if_pos (by rfl)]
                  refine wp_store_mid _ _ _ rfl _ _ (arr (z - x)).toArray rfl rfl (by rw [arr_size]; exact X6) (by rw [arr_size]; exact infoU) (arr_one _) ?_
                  refine hK.out _ _ (below_cells' hHeld hg6 _ _) (fun hHeld => ?_)
                  clear hK K
                  try simp only [Act.put, List.setIfInBounds_toArray, List.set_cons_zero, List.set_cons_succ]
                  have X7' := World.there_setCells X7 w22.heap.size 0 (arr (z - x))
                  have RP := World.rangeAt_setCells_same w23 w22.heap.size 0 (arr (z - x)) (by rw [arr_len]; exact X6)
                  clear X6 X7
                  generalize w23.setCells w22.heap.size 0 (arr (z - x)) = w30 at *
                  refine wpAnyH_ready (rs := [9]) (by kernel_rfl) (by simp) ?_
                  refine AllReadyH.cons (o := { dst := none, op := Op.store 42 (Operand.tmp 16) (Operand.tmp 87), type := 0, pos := "low.go:380", after := #[{ on := 7, ground := Ground.data }, { on := 5, ground := Ground.data }, { on := 8, ground := Ground.chain }, { on := 0, ground := Ground.phase }, { on := 1, ground := Ground.phase }, { on := 2, ground := Ground.phase }, { on := 3, ground := Ground.phase }, { on := 4, ground := Ground.phase }, { on := 5, ground := Ground.phase }, { on := 6, ground := Ground.phase }, { on := 7, ground := Ground.phase }, { on := 8, ground := Ground.phase }], guard := none }) rfl (fun K hK => ?_) AllReadyH.nil
                  rw [if_pos (by rfl)]
                  refine wp_store_mid _ _ _ rfl _ _ (arr (y - z)).toArray rfl rfl (by rw [arr_size]; exact X7') (by rw [arr_size]; exact infoU) (arr_one _) ?_
                  refine hK.out _ _ (below_cells' hHeld hg7 _ _) (fun hHeld => ?_)
                  clear hK K
                  try simp only [Act.put, List.setIfInBounds_toArray, List.set_cons_zero, List.set_cons_succ]
                  refine wpAnyH_done (by kernel_rfl) (NoPanic.normal ?_) _
                  go_wp2_with fail
                  go_meet
                  exact ⟨_, _, rfl, rfl, Lib.hid (two_cells RP X7' hne), Lib.hid hHeld⟩
                exact AllReadyH.nil
              refine AllReadyH.cons (o := { dst := some 15, op := Op.alloc 42, type := 0, pos := "low.go:380", after := #[], guard := none }) rfl (fun K hK => ?_) ?_
              · rw [if_pos (by rfl)]
                refine wp_alloc_units rfl ?_; intro w22 htw22 hbw22 hzw22
                have Tw22 := Lib.hid htw22; have Zw22 := Lib.hid hzw22; clear htw22 hzw22
                have Bw22 := Lib.hid hbw22; clear hbw22
                refine hK.out _ _ (hHeld.trans (Bw22.out.mono hHeld.size)) (fun hHeld => ?_)
                clear hK K
                try simp only [Act.put, List.setIfInBounds_toArray, List.set_cons_zero, List.set_cons_succ]
                refine wpAnyH_ready (rs := [5]) (by kernel_rfl) (by simp) ?_
                refine AllReadyH.cons (o := { dst := some 87, op := Op.call { callee := Callee.value (Operand.func 13), args := #[Operand.tmp 85, Operand.tmp 86], argTypes := #[42, 42] }, type := 42, pos := "low.go:380", after := #[{ on := 3, ground := Ground.data }, { on := 4, ground := Ground.data }, { on := 2, ground := Ground.chain }], guard := none }) rfl (fun K hK => ?_) ?_
                · skip
                  go_simp
                  go_at_call 13
                  refine (CB.out _).mono ?_; rintro x w23 ⟨rfl, hbw23⟩
                  go_wp2_with fail
                  have Bw23 := Lib.hid hbw23; clear hbw23
                  refine hK.out _ _ (hHeld.trans (Bw23.out.mono hHeld.size)) (fun hHeld => ?_)
                  clear hK K
                  try simp only [Act.put, List.setIfInBounds_toArray, List.set_cons_zero, List.set_cons_succ]
                  have X6 : w23.there w21.heap.size 0 34 := (there_below Tw22.out Bw23.out)
                  have X7 : w23.there w20d.heap.size 0 34 := (there_below (there_below (there_below Tw20.out Bw21.out) Bw22.out) Bw23.out)
                  have hne : w21.heap.size ≠ w20d.heap.size := by
                    have z6 := Zw22.out; have z7 := Zw20.out; have lw20 := Bw20.out.size; have lw21 := Bw21.out.size; have lw22 := Bw22.out.size; have lw23 := Bw23.out.size
                    omega
                  have hg6 : w15.heap.size ≤ w21.heap.size := by
                    have lw20 := Bw20.out.size; have lw21 := Bw21.out.size; have lw22 := Bw22.out.size; have lw23 := Bw23.out.size; omega
                  have hg7 : w15.heap.size ≤ w20d.heap.size := by
                    have lw20 := Bw20.out.size; have lw21 := Bw21.out.size; have lw22 := Bw22.out.size; have lw23 := Bw23.out.size; omega
                  refine wpAnyH_ready (rs := [8]) (by kernel_rfl) (by simp) ?_
                  refine AllReadyH.cons (o := { dst := none, op := Op.store 42 (Operand.tmp 15) (Operand.tmp 84), type := 0, pos := "low.go:380", after := #[{ on := 6, ground := Ground.data }, { on := 2, ground := Ground.data }, { on := 5, ground := Ground.chain }, { on := 0, ground := Ground.phase }, { on := 1, ground := Ground.phase }, { on := 2, ground := Ground.phase }, { on := 3, ground := Ground.textOnly Departure.lateStores }, { on := 4, ground := Ground.textOnly Departure.lateStores }, { on := 5, ground := Ground.textOnly Departure.lateStoresUnsure }, { on := 6, ground := Ground.phase }, { on := 7, ground := Ground.phase }], guard := none }) rfl (fun K hK => ?_) AllReadyH.nil
                  rw [if_pos (by rfl)]
                  refine wp_store_mid _ _ _ rfl _ _ (arr (z - x)).toArray rfl rfl (by rw [arr_size]; exact X6) (by rw [arr_size]; exact infoU) (arr_one _) ?_
                  refine hK.out _ _ (below_cells' hHeld hg6 _ _) (fun hHeld => ?_)
                  clear hK K
                  try simp only [Act.put, List.setIfInBounds_toArray, List.set_cons_zero, List.set_cons_succ]
                  have X7' := World.there_setCells X7 w21.heap.size 0 (arr (z - x))
                  have RP := World.rangeAt_setCells_same w23 w21.heap.size 0 (arr (z - x)) (by rw [arr_len]; exact X6)
                  clear X6 X7
                  generalize w23.setCells w21.heap.size 0 (arr (z - x)) = w30 at *
                  refine wpAnyH_ready (rs := [9]) (by kernel_rfl) (by simp) ?_
                  refine AllReadyH.cons (o := { dst := none, op := Op.store 42 (Operand.tmp 16) (Operand.tmp 87), type := 0, pos := "low.go:380", after := #[{ on := 7, ground := Ground.data }, { on := 5, ground := Ground.data }, { on := 8, ground := Ground.chain }, { on := 0, ground := Ground.phase }, { on := 1, ground := Ground.phase }, { on := 2, ground := Ground.phase }, { on := 3, ground := Ground.phase }, { on := 4, ground := Ground.phase }, { on := 5, ground := Ground.phase }, { on := 6, ground := Ground.phase }, { on := 7, ground := Ground.phase }, { on := 8, ground := Ground.phase }], guard := none }) rfl (fun K hK => ?_) AllReadyH.nil
                  rw [if_pos (by rfl)]
                  refine wp_store_mid _ _ _ rfl _ _ (arr (y - z)).toArray rfl rfl (by rw [arr_size]; exact X7') (by rw [arr_size]; exact infoU) (arr_one _) ?_
                  refine hK.out _ _ (below_cells' hHeld hg7 _ _) (fun hHeld => ?_)
                  clear hK K
                  try simp only [Act.put, List.setIfInBounds_toArray, List.set_cons_zero, List.set_cons_succ]
                  refine wpAnyH_done (by kernel_rfl) (NoPanic.normal ?_) _
                  go_wp2_with fail
                  go_meet
                  exact ⟨_, _, rfl, rfl, Lib.hid (two_cells RP X7' hne), Lib.hid hHeld⟩
                exact AllReadyH.nil
              exact AllReadyH.nil
            refine AllReadyH.cons (o := { dst := some 15, op := Op.alloc 42, type := 0, pos := "low.go:380", after := #[], guard := none }) rfl (fun K hK => ?_) ?_
            · rw [if_pos (by rfl)]
              refine wp_alloc_units rfl ?_; intro w21 htw21 hbw21 hzw21
              have Tw21 := Lib.hid htw21; have Zw21 := Lib.hid hzw21; clear htw21 hzw21
              have Bw21 := Lib.hid hbw21; clear hbw21
              refine hK.out _ _ (hHeld.trans (Bw21.out.mono hHeld.size)) (fun hHeld => ?_)
              clear hK K
              try simp only [Act.put, List.setIfInBounds_toArray, List.set_cons_zero, List.set_cons_succ]
              refine wpAnyH_ready (rs := [2]) (by kernel_rfl) (by simp) ?_
              refine AllReadyH.cons (o := { dst := some 84, op := Op.call { callee := Callee.value (Operand.func 13), args := #[Operand.tmp 82, Operand.tmp 83], argTypes := #[42, 42] }, type := 42, pos := "low.go:380", after := #[{ on := 0, ground := Ground.data }, { on := 1, ground := Ground.data }], guard := none }) rfl (fun K hK => ?_) ?_
              · skip
                go_simp
                go_at_call 13
                refine (CA.out _).mono ?_; rintro x w22 ⟨rfl, hbw22⟩
                go_wp2_with fail
                have Bw22 := Lib.hid hbw22; clear hbw22
                refine hK.out _ _ (hHeld.trans (Bw22.out.mono hHeld.size)) (fun hHeld => ?_)
                clear hK K
                try simp only [Act.put, List.setIfInBounds_toArray, List.set_cons_zero, List.set_cons_succ]
                refine wpAnyH_ready (rs := [5]) (by kernel_rfl) (by simp) ?_
                refine AllReadyH.cons (o := { dst := some 87, op := Op.call { callee := Callee.value (Operand.func 13), args := #[Operand.tmp 85, Operand.tmp 86], argTypes := #[42, 42] }, type := 42, pos := "low.go:380", after := #[{ on := 3, ground := Ground.data }, { on := 4, ground := Ground.data }, { on := 2, ground := Ground.chain }], guard := none }) rfl (fun K hK => ?_) ?_
                · skip
                  go_simp
                  go_at_call 13
                  refine (CB.out _).mono ?_; rintro x w23 ⟨rfl, hbw23⟩
                  go_wp2_with fail
                  have Bw23 := Lib.hid hbw23; clear hbw23
                  refine hK.out _ _ (hHeld.trans (Bw23.out.mono hHeld.size)) (fun hHeld => ?_)
                  clear hK K
                  try simp only [Act.put, List.setIfInBounds_toArray, List.set_cons_zero, List.set_cons_succ]
                  have X6 : w23.there w20.heap.size 0 34 := (there_below (there_below Tw21.out Bw22.out) Bw23.out)
                  have X7 : w23.there w20d.heap.size 0 34 := (there_below (there_below (there_below Tw20.out Bw21.out) Bw22.out) Bw23.out)
                  have hne : w20.heap.size ≠ w20d.heap.size := by
                    have z6 := Zw21.out; have z7 := Zw20.out; have lw20 := Bw20.out.size; have lw21 := Bw21.out.size; have lw22 := Bw22.out.size; have lw23 := Bw23.out.size
                    omega
                  have hg6 : w15.heap.size ≤ w20.heap.size := by
                    have lw20 := Bw20.out.size; have lw21 := Bw21.out.size; have lw22 := Bw22.out.size; have lw23 := Bw23.out.size; omega
                  have hg7 : w15.heap.size ≤ w20d.heap.size := by
                    have lw20 := Bw20.out.size; have lw21 := Bw21.out.size; have lw22 := Bw22.out.size; have lw23 := Bw23.out.size; omega
                  refine wpAnyH_ready (rs := [8]) (by kernel_rfl) (by simp) ?_
                  refine AllReadyH.cons (o := { dst := none, op := Op.store 42 (Operand.tmp 15) (Operand.tmp 84), type := 0, pos := "low.go:380", after := #[{ on := 6, ground := Ground.data }, { on := 2, ground := Ground.data }, { on := 5, ground := Ground.chain }, { on := 0, ground := Ground.phase }, { on := 1, ground := Ground.phase }, { on := 2, ground := Ground.phase }, { on := 3, ground := Ground.textOnly Departure.lateStores }, { on := 4, ground := Ground.textOnly Departure.lateStores }, { on := 5, ground := Ground.textOnly Departure.lateStoresUnsure }, { on := 6, ground := Ground.phase }, { on := 7, ground := Ground.phase }], guard := none }) rfl (fun K hK => ?_) AllReadyH.nil
                  rw [if_pos (by rfl)]
                  refine wp_store_mid _ _ _ rfl _ _ (arr (z - x)).toArray rfl rfl (by rw [arr_size]; exact X6) (by rw [arr_size]; exact infoU) (arr_one _) ?_
                  refine hK.out _ _ (below_cells' hHeld hg6 _ _) (fun hHeld => ?_)
                  clear hK K
                  try simp only [Act.put, List.setIfInBounds_toArray, List.set_cons_zero, List.set_cons_succ]
                  have X7' := World.there_setCells X7 w20.heap.size 0 (arr (z - x))
                  have RP := World.rangeAt_setCells_same w23 w20.heap.size 0 (arr (z - x)) (by rw [arr_len]; exact X6)
                  clear X6 X7
                  generalize w23.setCells w20.heap.size 0 (arr (z - x)) = w30 at *
                  refine wpAnyH_ready (rs := [9]) (by kernel_rfl) (by simp) ?_
                  refine AllReadyH.cons (o := { dst := none, op := Op.store 42 (Operand.tmp 16) (Operand.tmp 87), type := 0, pos := "low.go:380", after := #[{ on := 7, ground := Ground.data }, { on := 5, ground := Ground.data }, { on := 8, ground := Ground.chain }, { on := 0, ground := Ground.phase }, { on := 1, ground := Ground.phase }, { on := 2, ground := Ground.phase }, { on := 3, ground := Ground.phase }, { on := 4, ground := Ground.phase }, { on := 5, ground := Ground.phase }, { on := 6, ground := Ground.phase }, { on := 7, ground := Ground.phase }, { on := 8, ground := Ground.phase }], guard := none }) rfl (fun K hK => ?_) AllReadyH.nil
                  rw [if_pos (by rfl)]
                  refine wp_store_mid _ _ _ rfl _ _ (arr (y - z)).toArray rfl rfl (by rw [arr_size]; exact X7') (by rw [arr_size]; exact infoU) (arr_one _) ?_
                  refine hK.out _ _ (below_cells' hHeld hg7 _ _) (fun hHeld => ?_)
                  clear hK K
                  try simp only [Act.put, List.setIfInBounds_toArray, List.set_cons_zero, List.set_cons_succ]
                  refine wpAnyH_done (by kernel_rfl) (NoPanic.normal ?_) _
                  go_wp2_with fail
                  go_meet
                  exact ⟨_, _, rfl, rfl, Lib.hid (two_cells RP X7' hne), Lib.hid hHeld⟩
                exact AllReadyH.nil
              exact AllReadyH.nil
            exact AllReadyH.nil
          exact AllReadyH.nil
        case rest =>
          obtain ⟨p, q, rfl, rfl, HPQ, HBc⟩ := hcut
          have hld : (Try.prog.info? 42).map (·.size) = some 34 := infoU
          go_wp2_with (refine wpList_load_stage rfl 42 _ rfl ?_)
          refine ⟨p, 0, arr (z - x), _, rfl, HPQ.out.1, hu, rfl, by rw [arr_len]; exact infoU, ?_⟩
          go_wp2_with (refine wpList_load_stage rfl 42 _ rfl ?_)
          refine ⟨q, 0, arr (y - z), _, rfl, HPQ.out.2, hu, rfl, by rw [arr_len]; exact infoU, ?_⟩
          go_wp2_with fail
          refine (CC.out _).mono ?_; rintro x w16 ⟨rfl, hc⟩
          have HC : Hid (Below W.heap.size W w16) := Lib.hid ((HBW.out.trans (HBc.out.mono HBW.out.size)).trans (hc.mono (by have := HBW.out.size; have := HBc.out.size; omega)))
          clear hc
          have hsb : 0 ≤ sI ∧ sI ≤ 2147483648 := by have := HS.out; omega
          obtain ⟨hs0, hs1⟩ := hsb
          have hnv := HNar.out
          have w6 : IntKind.u32.wrap (sI + lI) = sI + lI := by
            have e : ∀ x : Int, IntKind.u32.wrap x = x % 4294967296 := fun x => by simp [IntKind.wrap, IntKind.bits, IntKind.signed]
            rw [e]; omega
          have w7 : IntKind.u32.wrap (sI + (lI + 1)) = sI + (lI + 1) := by
            have e : ∀ x : Int, IntKind.u32.wrap x = x % 4294967296 := fun x => by simp [IntKind.wrap, IntKind.bits, IntKind.signed]
            rw [e]; omega
          obtain ⟨cv, hcv⟩ : ∃ cv, cmpv (z - x) (y - z) = cv := ⟨_, rfl⟩
          rw [hcv]
          unfold cmpv at hcv
          have low_is : nar k = lI.toNat → ((s + nar k : Nat) : Int) = sI + lI := fun h => by rw [h, Int.natCast_add, HS.out]; omega
          have high_is : nar k = lI.toNat + 1 → ((s + nar k : Nat) : Int) = sI + (lI + 1) := fun h => by rw [h, Int.natCast_add, HS.out]; omega
          by_cases c1 : z - x < y - z
          · rw [if_pos c1] at hcv
            rw [if_pos (.inl c1)] at hnv
            subst hcv
            have HE := Lib.hid (low_is hnv.symm)
            clear hnv low_is high_is c1
            go_wp2_with fail
            go_ret
            exact ⟨congrArg (fun v => Ending.returned (Value.int .u32 v)) HE.out.symm, HC.out⟩
          · rw [if_neg c1] at hcv
            by_cases c2 : z - x = y - z
            · rw [if_pos c2] at hcv
              subst hcv
              by_cases c3 : lI.toNat % 2 = 0
              · rw [if_pos (.inr ⟨c2, c3⟩)] at hnv
                have HE := Lib.hid (low_is hnv.symm)
                have t2 : lI.tmod 2 = 0 := by rw [Int.tmod_eq_emod_of_nonneg l0]; omega
                have t3 : lI % 2 = 0 := by omega
                clear hnv low_is high_is c1 c2 c3
                go_wp2_with fail
                go_ret
                exact ⟨congrArg (fun v => Ending.returned (Value.int .u32 v)) HE.out.symm, HC.out⟩
              · rw [if_neg (by rintro (h | h); exact c1 h; exact c3 h.2)] at hnv
                have HE := Lib.hid (high_is hnv.symm)
                have t2 : lI.tmod 2 = 1 := by rw [Int.tmod_eq_emod_of_nonneg l0]; omega
                have t3 : lI % 2 = 1 := by omega
                clear hnv low_is high_is c1 c2 c3
                go_wp2_with fail
                go_ret
                exact ⟨congrArg (fun v => Ending.returned (Value.int .u32 v)) HE.out.symm, HC.out⟩
            · rw [if_neg c2] at hcv
              subst hcv
              rw [if_neg (by rintro (h | h); exact c1 h; exact c2 h.1)] at hnv
              have HE := Lib.hid (high_is hnv.symm)
              clear hnv low_is high_is c1 c2
              go_wp2_with fail
              go_ret
              exact ⟨congrArg (fun v => Ending.returned (Value.int .u32 v)) HE.out.symm, HC.out⟩
end Go.Proofs.Ytdlphcfmbhhfgaa.Rn
