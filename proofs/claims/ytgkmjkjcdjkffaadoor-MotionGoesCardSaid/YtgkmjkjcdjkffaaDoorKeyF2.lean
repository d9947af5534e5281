/-
  PROVED HERE: the contract of the document's fullCmd, for keys of one class (2). Conditions: as each theorem states.
-/
import Derived.Test.YtgkmjkjcdjkffaaDoorKeyFa
import Derived.Deep.RegionLaw
import Derived.Deep.RegionWith
import Derived.StillTailTactics
import Derived.Deep.RegionHeld3
import Derived.Deep.DeepCutAuto
namespace Go.Proofs.YtgkmjkjcdjkffaaDoor.Key
open Go.RowKit
set_option maxRecDepth 100000 in
set_option maxHeartbeats 8000000 in
theorem fullCmd_2 (s : ByteArray) (hs : s.size ≤ 1000) (hk : cls s = 2) (W : World) : Calls Tryd.prog 11 #[.string s] W (FP s W) := by
  have KK : Hid (clsL (ct 0 (plist s)).2 = 2) := Lib.hid hk
  clear hk
  go_enter Tryd.func11, Tryd.ntmps11
  go_upto_region 2 with (fail)
  go_cut [13] (fun s13 wx => ∃ b : Bool, s13 = .bool b ∧ wx = Fw W 0 ∧ Hid (b = true → ∃ h : 1 < s.size, s[0].toNat = 34) ∧ Hid (b = false → fc (lst s) = dbody 0 (lst s) ∧ lst s = plist s))
  case first =>
    by_cases h1 : s.size ≤ 1
    · have F := Lib.hid (fc_short s h1)
      have PL := Lib.hid (pl_short s h1)
      go_wp2_with fail
      go_meet
      exact ⟨false, rfl, rfl, Lib.hid (fun h => by cases h), Lib.hid (fun _ => ⟨F.out, PL.out⟩)⟩
    have h1' : 1 < s.size := by omega
    have i0 : 0 < s.size := by omega
    by_cases hq : s[0].toNat = 34
    · have b34 := byte_eq s[0].toNat 34 (by omega)
      have hQ := Lib.hid hq
      clear hq h1
      go_wp2_with fail
      go_meet
      exact ⟨true, rfl, rfl, Lib.hid (fun _ => ⟨h1', hQ.out⟩), Lib.hid (fun h => by cases h)⟩
    · have b34 := byte_ne s[0].toNat 34 (by omega)
      have F := Lib.hid (fc_plain s h1' hq)
      have PL := Lib.hid (pl_plain s h1' hq)
      clear hq h1
      go_wp2_with fail
      go_meet
      exact ⟨false, rfl, rfl, Lib.hid (fun h => by cases h), Lib.hid (fun _ => ⟨F.out, PL.out⟩)⟩
  case rest =>
    obtain ⟨b, rfl, rfl, hT, hNo⟩ := hcut
    unfold Fw
    go_upto_if 13 with (fail)
    go_cut [0] (fun s0 wx => ∃ u : ByteArray, ∃ reg : UInt8, s0 = .string u ∧ wx = Fw W reg ∧ u.size ≤ s.size ∧ Hid (fc (lst s) = dbody reg (lst u)) ∧ Hid (lst u = plist s))
    case first =>
      cases b with
      | false =>
        have F := Lib.hid (hNo.out rfl)
        clear hNo hT
        go_wp2_with fail
        go_meet
        exact ⟨s, 0, rfl, rfl, Nat.le_refl _, Lib.hid F.out.1, Lib.hid F.out.2⟩
      | true =>
        obtain ⟨h1', hq⟩ := hT.out rfl
        clear hT hNo
        have RN := docRegName_any s[1]
        have hu8 := u8_lt s[1]
        rcases hr : regOk s[1] with _ | _
        · have F := Lib.hid (fc_bad s h1' hq hr)
          rw [regOk_of] at hr
          simp only [Bool.or_eq_false_iff, decide_eq_false_iff_not] at hr
          obtain ⟨⟨r1, r2⟩, r3⟩ := hr
          by_cases h34 : s[1].toNat = 34
          · have hl : rn s[1] = true := by rw [rn_of, decide_eq_true h34]; rfl
            rw [hl] at RN
            have RNH := Lib.hid RN
            have b34 := byte_eq s[1].toNat 34 (by omega)
            clear hq hl h34 r1 r2 r3 RN
            go_wp2_with fail
            refine (RNH.out _).mono ?_; rintro e w' ⟨rfl, rfl⟩
            go_wp2_with fail
            exact cmd_end s W _ _ ⟨s[1], 0, 0, 0, []⟩ false F.out (((Below.refl _ _).alloc (Nat.le_refl _) _).alloc (by simp) _) rfl rfl rfl (by simp) (by simp) (by simp) (by simp) (by simp)
          · have hl : rn s[1] = false := by rw [rn_of, decide_eq_false h34, decide_eq_false r1, decide_eq_false r2]; rfl
            rw [hl] at RN
            have RNH := Lib.hid RN
            have b34 := byte_ne s[1].toNat 34 (by omega)
            rcases (show s[1].toNat < 49 ∨ (49 ≤ s[1].toNat ∧ 57 < s[1].toNat) by omega) with g | ⟨g1, g2⟩
            all_goals
              first
                | have d1 : decide ((s[1].toNat : Int) < 49) = true := decide_eq_true (by omega)
                | (have d1 : decide ((s[1].toNat : Int) < 49) = false := decide_eq_false (by omega); have d2 : decide (57 < (s[1].toNat : Int)) = true := decide_eq_true (by omega))
              clear hq hl h34 r1 r2 r3 RN
              go_wp2_with fail
              refine (RNH.out _).mono ?_; rintro e w' ⟨rfl, rfl⟩
              go_wp2_with fail
              exact cmd_end s W _ _ ⟨s[1], 0, 0, 0, []⟩ false F.out (((Below.refl _ _).alloc (Nat.le_refl _) _).alloc (by simp) _) rfl rfl rfl (by simp) (by simp) (by simp) (by simp) (by simp)
        · have F := Lib.hid (fc_reg s h1' hq hr)
          have PL := Lib.hid (pl_reg s h1' hq)
          rw [regOk_of] at hr
          simp only [Bool.or_eq_true, decide_eq_true_eq] at hr
          have hne := byte_ne s[1].toNat 34 (by omega)
          have hxs : (s.extract 2 s.size).size ≤ s.size := by rw [ByteArray.size_extract]; omega
          by_cases hl : rn s[1] = true
          · rw [hl] at RN
            have RNH := Lib.hid RN
            clear hq hr hl RN
            go_wp2_with fail
            refine (RNH.out _).mono ?_; rintro e w' ⟨rfl, rfl⟩
            go_wp2_with fail
            go_meet
            exact ⟨_, s[1], rfl, rfl, hxs, F, PL⟩
          · have hl' : rn s[1] = false := by simpa using hl
            have hl2 := hl'
            rw [hl'] at RN
            rw [rn_of] at hl2
            simp only [Bool.or_eq_false_iff, decide_eq_false_iff_not] at hl2
            have g1 : 49 ≤ s[1].toNat := by omega
            have g2 : s[1].toNat ≤ 57 := by omega
            have RNH := Lib.hid RN
            have d1 : decide ((s[1].toNat : Int) < 49) = false := decide_eq_false (by omega)
            have d2 : decide (57 < (s[1].toNat : Int)) = false := decide_eq_false (by omega)
            clear hq hr hl RN hl' hl2
            go_wp2_with fail
            refine (RNH.out _).mono ?_; rintro e w' ⟨rfl, rfl⟩
            go_wp2_with fail
            go_meet
            exact ⟨_, s[1], rfl, rfl, hxs, F, PL⟩
    case rest =>
      obtain ⟨u, reg, rfl, rfl, hu, hF, hpl⟩ := hcut
      have CT := Lib.hid (docTimes_any u (by omega))
      unfold Fw
      go_wp2_with fail
      refine (CT.out _).mono ?_; rintro e w' ⟨t, ht, hts, rfl, rfl⟩
      have hF2 : fc (lst s) = db1 reg (ct 0 (lst u)).1 (lst t) := by rw [hF.out, dbody, ht]
      have hF2H := Lib.hid hF2
      have hK : Hid (clsL (lst t) = 2) := Lib.hid (by rw [ht, hpl.out]; exact KK.out)
      clear hpl KK
      have hcm := ct_le (lst u) 0 (by omega)
      generalize (ct 0 (lst u)).1 = m at *
      clear hF2 hF ht CT
      by_cases h0 : t.size = 0
      · have hz := str_none t h0
        exact absurd ((by rw [lst_nil (by omega)]; rfl : clsL (lst t) = 0).symm.trans hK.out) (by decide)
      · have h1 : 0 < t.size := by omega
        have hz := str_full t h1
        have hts2 := lst_tail_size t h1
        obtain ⟨z, hz1, IX⟩ := ix_ex ⟨#[100, 121, 99]⟩ t[0] _ (ix_dyc t[0])
        have IXH := Lib.hid IX
        clear IX h0
        rcases hdy : dyc t[0] with _ | _
        · rw [hdy] at hz1
          have hz2 : z < 0 := by simpa using hz1
          clear hz1
          have hdyH := Lib.hid hdy
          clear hdy
          obtain ⟨z2, hz3, IX2⟩ := ix_ex ⟨#[120, 112, 80, 105, 97, 82, 117, 118, 85, 46, 126, 58, 47, 18, 109, 113, 64, 114]⟩ t[0] _ (ix_rest t[0])
          have IX2H := Lib.hid IX2
          have MF := docIsMotion_any t[0]
          have TL := Lib.hid (docTail_any t[0] (t.extract 1 t.size))
          have hf : fc (lst s) = (⟨reg, m, t[0], 0, lst (t.extract 1 t.size)⟩, known t[0] && tl t[0] (lst (t.extract 1 t.size))) := by
            rw [hF2H.out, lst_cons t h1, db1, if_neg (by rw [hdyH.out]; decide)]
          have hkn : known t[0] = ((mot t[0] || far t[0]) || (alone t[0] || letter t[0] || pair t[0])) := by unfold known; simp only [Bool.or_assoc]
          rw [hkn] at hf
          have CK : Hid (clsL (lst t) = if (mot t[0] || far t[0]) = true then 2 else if (alone t[0] || letter t[0] || pair t[0]) = true then 0 else 1) := Lib.hid (by rw [lst_cons t h1]; exact cls_not _ _ hdyH.out)
          generalize (alone t[0] || letter t[0] || pair t[0]) = k2 at *
          generalize (mot t[0] || far t[0]) = k1 at *
          generalize tl t[0] (lst (t.extract 1 t.size)) = k3 at *
          clear hkn IX2
          have MFH := Lib.hid MF
          clear MF hdyH
          rcases k1 with _ | _
          · rcases k2 with _ | _
            · exact absurd (CK.out.symm.trans hK.out) (by first | decide | simp)
            · exact absurd (CK.out.symm.trans hK.out) (by first | decide | simp)
          · have hfH := Lib.hid (show fc (lst s) = (⟨reg, m, t[0], 0, lst (t.extract 1 t.size)⟩, k3) from hf)
            clear hf
            go_wp2_with fail
            go_region
            go_wp2_with fail
            refine (IXH.out _).mono ?_; rintro e w' ⟨rfl, rfl⟩
            go_wp2_with fail
            first | (go_region_with
              (first
                | (go_at_call 14; refine (MFH.out _).mono ?_; rintro e w1 ⟨rfl, rfl⟩)
                | (go_at_call 27; refine (TL.out _).mono ?_; rintro e w1 ⟨rfl, g⟩
                   have c0 : w1.cell? ⟨W.heap.size + 1, 0, none⟩ = some (.int .u8 reg.toNat) := keepCell g (by simp)
                   have c1 : w1.cell? ⟨W.heap.size + 1, 1, none⟩ = some (.int .i64 m) := keepCell g (by simp)
                   have c2 : w1.cell? ⟨W.heap.size + 1, 2, none⟩ = some (.int .u8 t[0].toNat) := keepCell g (by simp)
                   have c3 : w1.cell? ⟨W.heap.size + 1, 3, none⟩ = some (.int .u8 0) := keepCell g (by simp)
                   have c4 : w1.cell? ⟨W.heap.size + 1, 4, none⟩ = some (.string (t.extract 1 t.size)) := keepCell g (by simp)
                   have r0 : w1.cell? ⟨W.heap.size, 0, none⟩ = some (.int .u8 0) := keepCell g (by simp)
                   have r1 : w1.cell? ⟨W.heap.size, 1, none⟩ = some (.int .i64 0) := keepCell g (by simp)
                   have r2 : w1.cell? ⟨W.heap.size, 2, none⟩ = some (.int .u8 0) := keepCell g (by simp)
                   have r3 : w1.cell? ⟨W.heap.size, 3, none⟩ = some (.int .u8 0) := keepCell g (by simp)
                   have r4 : w1.cell? ⟨W.heap.size, 4, none⟩ = some (.string ⟨#[]⟩) := keepCell g (by simp)
                   have f0 : w1.frozen? ⟨W.heap.size, 0, none⟩ = false := (g.frozen (p := ⟨W.heap.size, 0, none⟩) (by simp; omega)).trans (by simp)
                   have f1 : w1.frozen? ⟨W.heap.size, 1, none⟩ = false := (g.frozen (p := ⟨W.heap.size, 1, none⟩) (by simp; omega)).trans (by simp)
                   have f2 : w1.frozen? ⟨W.heap.size, 2, none⟩ = false := (g.frozen (p := ⟨W.heap.size, 2, none⟩) (by simp; omega)).trans (by simp)
                   have f3 : w1.frozen? ⟨W.heap.size, 3, none⟩ = false := (g.frozen (p := ⟨W.heap.size, 3, none⟩) (by simp; omega)).trans (by simp)
                   have f4 : w1.frozen? ⟨W.heap.size, 4, none⟩ = false := (g.frozen (p := ⟨W.heap.size, 4, none⟩) (by simp; omega)).trans (by simp)
                   have hB1 := Lib.hid ((((((Below.refl W.heap.size W).alloc (Nat.le_refl _) _).alloc (by simp) _).drew).drew).trans (g.mono (by simp; omega)))
                   clear g))) | fail
            all_goals
              go_wp2_with fail
              exact cmd_end5 s W _ w1 reg m t[0] 0 (t.extract 1 t.size) k3 hfH.out hB1.out rfl rfl rfl r0 r1 r2 r3 r4
        · rcases cls_dyc t[0] (lst (t.extract 1 t.size)) hdy with c | c
          · exact absurd (c.symm.trans ((congrArg clsL (lst_cons t h1)).symm.trans hK.out)) (by decide)
          · exact absurd (c.symm.trans ((congrArg clsL (lst_cons t h1)).symm.trans hK.out)) (by decide)
end Go.Proofs.YtgkmjkjcdjkffaaDoor.Key
