/-
  PROVED HERE: the contract of keys' Parse, for keys of one class (3). Conditions: as each theorem states.
-/
import Derived.Test.YtifnochpmlllgaaKeyS
import Derived.Deep.CutBlock
import Derived.Deep.DeepCutAuto
namespace Go.Proofs.Ytifnochpmlllgaa.Key
open Go.RowKit
set_option maxRecDepth 100000 in
set_option maxHeartbeats 4000000 in
theorem parse_3 (s : ByteArray) (hs : s.size ≤ 500) (hpre : Pre s) (hcl : C3 s) (W : World) : Calls Try.prog 5 #[.string s] W (KP s W) := by
  have R0 := Rd_init s W
  have PRE := Lib.hid hpre
  have CL := Lib.hid hcl
  clear hcl
  clear hpre
  go_enter Try.func5, Try.ntmps5
  go_upto_region 5 with (fail)
  generalize hw : (((((W.alloc (.cells #[.string s] 9)).alloc (.cells #[.int .u8 0, .int .i64 0, .int .u8 0, .int .u8 0, .string ⟨#[]⟩] 26)).alloc (.cells #[.string s, .bool false] 37)).alloc (.cells #[.pointer (some ⟨W.heap.size + 1 + 1, 0, none⟩)] 35)).alloc (.cells #[.int .u8 0, .int .i64 0, .int .u8 0, .int .u8 0, .string ⟨#[]⟩] 26)) = wx at *
  clear hw
  generalize W.heap.size + 1 + 1 + 1 + 1 = h4 at *
  generalize W.heap.size + 1 + 1 + 1 = h3 at *
  generalize W.heap.size + 1 + 1 = h2 at *
  generalize W.heap.size + 1 = h1 at *
  generalize hh0 : W.heap.size = h0 at R0 ⊢
  have R := Lib.hid R0
  clear R0 hh0
  go_cut [28] (fun s28 wy => ∃ t : Bool, s28 = .bool t ∧ wy = wx ∧ Hid (t = true → ∃ h : 0 < s.size, s[0].toNat = 34) ∧ Hid (t = false → pp (lst s) = body 0 (lst s) ∧ ub s = s ∧ Pre s))
  case first =>
    have q := R.out.q
    have p0 := R.out.p0
    by_cases h : 0 < s.size
    · have hfu := str_full s (by omega)
      by_cases hq : s[0].toNat = 34
      · have b34 := byte_eq s[0].toNat 34 (by omega)
        have hQ := Lib.hid hq
        clear hq
        go_wp2_with fail
        go_meet
        exact ⟨true, rfl, rfl, Lib.hid (fun _ => ⟨h, hQ.out⟩), Lib.hid (fun h => by cases h)⟩
      · have b34 := byte_ne s[0].toNat 34 (by omega)
        have F := Lib.hid (pp_first s h hq)
        have U := Lib.hid (ub_first s h hq)
        have P : Hid (Pre s) := Lib.hid (fun _ hq2 => absurd hq2 hq)
        clear hq
        go_wp2_with fail
        go_meet
        exact ⟨false, rfl, rfl, Lib.hid (fun h => by cases h), Lib.hid (fun _ => ⟨F.out, U.out, P.out⟩)⟩
    · have hfu := str_none s (by omega)
      have F := Lib.hid (pp_none s h)
      have U := Lib.hid (ub_none s h)
      have P : Hid (Pre s) := Lib.hid (fun h2 => absurd h2 h)
      go_wp2_with fail
      go_meet
      exact ⟨false, rfl, rfl, Lib.hid (fun h => by cases h), Lib.hid (fun _ => ⟨F.out, U.out, P.out⟩)⟩
  case rest =>
    obtain ⟨t, rfl, rfl, hT, hNo⟩ := hcut
    go_upto_if 28 with (fail)
    go_upto_if 28 with (fail)
    go_cut [8] (fun s8 wy => ∃ (u : ByteArray) (reg : UInt8), s8 = .bool true ∧ u.size ≤ s.size ∧ Hid (u = ub s) ∧ Hid (pp (lst s) = body reg (lst u)) ∧ Hid (Rd W h0 h1 h2 h3 h4 s u false (.int .u8 reg.toNat) (.int .i64 0) (.int .u8 0) (.int .u8 0) (.string ⟨#[]⟩) wy))
    case first =>
      cases t with
      | false =>
        have hP := Lib.hid (hNo.out rfl)
        go_wp2_with fail
        go_meet
        exact ⟨s, 0, rfl, Nat.le_refl _, Lib.hid hP.out.2.1.symm, Lib.hid hP.out.1, R⟩
      | true =>
        obtain ⟨h, hq⟩ := hT.out rfl
        have hP := Lib.hid (pp_quote s h hq)
        have hU := Lib.hid (ub_quote s h hq)
        have hu1 := lst_tail_size s h
        have PR := Lib.hid (show Pre s → ∃ h2 : 0 < (s.extract 1 s.size).size, regOk (s.extract 1 s.size)[0] = true from fun p => p h hq)
        have PN := Lib.hid (show (∃ h2 : 0 < (s.extract 1 s.size).size, regOk (s.extract 1 s.size)[0] = true) → Pre s from fun p _ _ => p)
        clear hq hT hNo
        have q := R.out.q
        have p0 := R.out.p0
        have f0 := (R.out.f 0).2.1
        have i1 : (1 : Int) ≤ (s.size : Int) := by omega
        have R1 := Lib.hid ((R.out.setU (s.extract 1 s.size)).drew)
        go_wp2_with fail
        go_region
        generalize hu : s.extract 1 s.size = u at *
        generalize hwz : (wc.setCell ⟨h2, 0, none⟩ (.string u)).drew = wz at *
        clear q p0 f0 hwz hu
        have hus : u.size ≤ s.size := by omega
        have hu1H := Lib.hid hu1
        clear hu1
        have q := R1.out.q
        go_wp2_with fail
        obtain ⟨hz, hro⟩ := PR.out PRE.out
        have l1 := Lib.hid (lst_cons u hz)
        have hz1 := lst_tail_size u hz
        refine (next_rd_some R1.out hz).mono ?_; rintro e w1 ⟨rfl, R2⟩
        have R3 := Lib.hid (R2.setD0 (.int .u8 u[0].toNat))
        have d0 := R2.d0
        have f4 := (R2.f 0).2.2
        generalize hv : u.extract 1 u.size = v at *
        have hvs : v.size ≤ s.size := by omega
        clear hz1 hv
        have hP2 : pp (lst s) = if regOk u[0] = true then body u[0] (lst v) else .bad (lst v) false := by rw [hP.out, l1.out]
        obtain ⟨x, hx, hyy, hnn⟩ := regX u[0]
        have hy := hyy hro
        rw [hro] at hP2
        have hPH : Hid (pp (lst s) = body u[0] (lst v)) := Lib.hid hP2
        have hUH : Hid (v = ub s) := Lib.hid hU.out.symm
        clear R2 R1 q hyy hnn hro hP2 hP l1 PR PN PRE hU CL
        rcases hy with ⟨y1, y2⟩ | ⟨y1, y2, y3⟩
        · go_wp2_with fail
          go_meet
          exact ⟨v, u[0], rfl, hvs, hUH, hPH, R3⟩
        · go_wp2_with fail
          go_meet
          exact ⟨v, u[0], rfl, hvs, hUH, hPH, R3⟩
    case rest =>
      obtain ⟨u, reg, rfl, hu, hub, hP, R⟩ := hcut
      clear hT hNo PRE
      have q := R.out.q
      go_wp2_with fail
      refine (count_rd R.out (by omega)).mono ?_; rintro e w1 ⟨v, n, hc, hv, hn, rfl, R1⟩
      have hvs : v.size ≤ s.size := by omega
      have hP1 : Hid (pp (lst s) = bd1 reg n (lst v)) := Lib.hid (by rw [hP.out]; unfold body; rw [hc.out])
      have hLB : Hid (lb s = lst v) := Lib.hid (by unfold lb; rw [← hub.out, hc.out])
      have R2 := Lib.hid (R1.out.setD1 (.int .i64 n))
      have d1 := R1.out.d1
      have f4 := (R1.out.f 1).2.2
      clear q R
      have q := R2.out.q
      clear hP hc R1 hub
      go_wp2_with fail
      have hz : 0 < v.size := by
        have hl := hLB.out
        unfold C3 at CL
        obtain ⟨op, lx, h, _⟩ := CL.out
        rw [hl] at h
        have := congrArg List.length h
        rw [lst_len] at this
        simp at this
        omega
      have l1 := Lib.hid (lst_cons v hz)
      have hz1 := lst_tail_size v hz
      refine (next_rd_some R2.out hz).mono ?_; rintro e w2 ⟨rfl, R3⟩
      have hP2 := hP1.out
      rw [l1.out, bd1] at hP2
      have hLB2 := hLB.out
      rw [l1.out] at hLB2
      generalize hx : v.extract 1 v.size = x at *
      have hxs : x.size ≤ s.size := by omega
      generalize v[0] = op at *
      have R4 := Lib.hid (R3.setD2 (.int .u8 op.toNat))
      have d2 := R3.d2
      have g4 := (R3.f 2).2.2
      clear q d1 f4 R2 R3 hz1 hx hP1 l1 hz hv hLB
      have hPH := Lib.hid hP2
      have hLBH := Lib.hid hLB2
      clear hP2 hLB2
      clear hvs hu
      have D := Lib.hid (has_is ⟨#[100, 121, 99]⟩ dyc ix_dyc op)
      have M := Lib.hid (has_is ⟨#[104, 108, 106, 107, 48, 36, 103, 71, 119, 98, 110, 78, 91, 93]⟩ mot ix_mot)
      have Fa := Lib.hid (has_is ⟨#[39, 102]⟩ far ix_far)
      have Al := Lib.hid (has_is ⟨#[120, 112, 80, 105, 97, 82, 117, 118, 85, 46, 126, 18, 58, 47]⟩ alone ix_alone op)
      have Le := Lib.hid (has_is ⟨#[109, 113, 64]⟩ letter ix_letter op)
      have Pa := Lib.hid (has_is ⟨#[114]⟩ pair ix_pair op)
      have hcls : dyc op = false ∧ known op = true := by
        unfold C3 at CL
        obtain ⟨op', lx', h, h2, h3⟩ := CL.out
        rw [hLBH.out] at h
        injection h with e1 e2
        subst e1
        exact ⟨h2, h3⟩
      obtain ⟨hdy, hkn⟩ := hcls
      go_upto_block 0 with (fail)
      go_cut [8, 10, 11] (fun s8 s10 _ wy => ∃ (key mv : UInt8) (m : Nat) (y : ByteArray), s8 = .bool true ∧ s10 = .int .u8 key.toNat ∧ y.size ≤ s.size ∧ Hid (pp (lst s) = fin key ⟨reg, m, op, mv, []⟩ (lst y)) ∧ Hid (Rd W h0 h1 h2 h3 h4 s y false (.int .u8 reg.toNat) (.int .i64 m) (.int .u8 op.toNat) (.int .u8 mv.toNat) (.string ⟨#[]⟩) wy))
      case first =>
        have Dv := D.out
        rw [hdy] at Dv
        have DH := Lib.hid Dv
        have hq1 := hPH.out
        rw [hdy, if_neg (by decide)] at hq1
        have Mo := M.out op
        have Fo := Fa.out op
        have kn : known op = (mot op || far op || alone op || letter op || pair op) := rfl
        rw [kn] at hq1 hkn
        have Ao := Al.out
        have Lo := Le.out
        have Po := Pa.out
        clear D M Fa Al Le Pa hPH hdy kn Dv hLBH CL
        go_wp2_with fail
        refine (DH.out _).mono ?_; rintro e w' ⟨rfl, rfl⟩
        clear DH
        generalize mot op = b1 at *
        generalize far op = b2 at *
        generalize alone op = b3 at *
        generalize letter op = b4 at *
        generalize pair op = b5 at *
        have MH := Lib.hid Mo
        have FH := Lib.hid Fo
        have AH := Lib.hid Ao
        have LH := Lib.hid Lo
        have PH := Lib.hid Po
        have hq := Lib.hid hq1
        have hkH := Lib.hid hkn
        clear Mo Fo Ao Lo Po hq1 hkn
        rcases b1 with _ | _
        · skip
          rcases b2 with _ | _
          · skip
            rcases b3 with _ | _
            · skip
              rcases b4 with _ | _
              · skip
                rcases b5 with _ | _
                · exact absurd hkH.out (by decide)
                · go_wp2_with fail
                  refine (MH.out _).mono ?_; rintro e w' ⟨rfl, rfl⟩
                  go_wp2_with fail
                  refine (FH.out _).mono ?_; rintro e w' ⟨rfl, rfl⟩
                  go_wp2_with fail
                  refine (AH.out _).mono ?_; rintro e w' ⟨rfl, rfl⟩
                  go_wp2_with fail
                  refine (LH.out _).mono ?_; rintro e w' ⟨rfl, rfl⟩
                  go_wp2_with fail
                  refine (PH.out _).mono ?_; rintro e w' ⟨rfl, rfl⟩
                  go_wp2_with fail
                  go_meet
                  exact ⟨op, 0, n, x, rfl, rfl, hxs, Lib.hid (by have := hq.out; simpa using this), R4⟩
              · go_wp2_with fail
                refine (MH.out _).mono ?_; rintro e w' ⟨rfl, rfl⟩
                go_wp2_with fail
                refine (FH.out _).mono ?_; rintro e w' ⟨rfl, rfl⟩
                go_wp2_with fail
                refine (AH.out _).mono ?_; rintro e w' ⟨rfl, rfl⟩
                go_wp2_with fail
                refine (LH.out _).mono ?_; rintro e w' ⟨rfl, rfl⟩
                go_wp2_with fail
                go_meet
                exact ⟨op, 0, n, x, rfl, rfl, hxs, Lib.hid (by have := hq.out; simpa using this), R4⟩
            · go_wp2_with fail
              refine (MH.out _).mono ?_; rintro e w' ⟨rfl, rfl⟩
              go_wp2_with fail
              refine (FH.out _).mono ?_; rintro e w' ⟨rfl, rfl⟩
              go_wp2_with fail
              refine (AH.out _).mono ?_; rintro e w' ⟨rfl, rfl⟩
              go_wp2_with fail
              go_meet
              exact ⟨op, 0, n, x, rfl, rfl, hxs, Lib.hid (by have := hq.out; simpa using this), R4⟩
          · go_wp2_with fail
            refine (MH.out _).mono ?_; rintro e w' ⟨rfl, rfl⟩
            go_wp2_with fail
            refine (FH.out _).mono ?_; rintro e w' ⟨rfl, rfl⟩
            go_wp2_with fail
            go_meet
            exact ⟨op, 0, n, x, rfl, rfl, hxs, Lib.hid (by have := hq.out; simpa using this), R4⟩
        · go_wp2_with fail
          refine (MH.out _).mono ?_; rintro e w' ⟨rfl, rfl⟩
          go_wp2_with fail
          go_meet
          exact ⟨op, 0, n, x, rfl, rfl, hxs, Lib.hid (by have := hq.out; simpa using this), R4⟩
      case rest =>
        obtain ⟨key, mv, m, y, rfl, rfl, hy, hP, R⟩ := hcut
        clear D M Fa Al Le Pa hPH d2 g4 R4 CL hLBH
        have q := R.out.q
        go_wp2_with fail
        refine (arg_rd key R.out (by omega)).mono ?_; rintro e w5 ⟨rfl, R5⟩
        have hF := hP.out
        unfold fin at hF
        have eA : (lst y).take (argn key) = lst (y.extract 0 (min (argn key) y.size)) := by
          rw [lst_take _ _ (Nat.min_le_right _ _), ← lst_len, List.take_eq_take_min]
        have eZ : (lst y).drop (argn key) = lst (y.extract (min (argn key) y.size) y.size) := by
          rw [lst_drop]
          rcases Nat.le_total (argn key) y.size with h | h
          · rw [Nat.min_eq_left h]
          · rw [Nat.min_eq_right h, List.drop_of_length_le (by rw [lst_len]; exact h), List.drop_of_length_le (by rw [lst_len]; exact Nat.le_refl _)]
        have eO : decide ((lst y).length < argn key) = !decide (min (argn key) y.size = argn key) := by
          rw [lst_len]
          by_cases h : y.size < argn key
          · rw [decide_eq_true h, decide_eq_false (by omega)]; rfl
          · rw [decide_eq_false h, decide_eq_true (by omega)]; rfl
        have eS : (y.extract (min (argn key) y.size) y.size).size ≤ s.size := by rw [ByteArray.size_extract]; omega
        have eM : (lst y).length < argn key → (y.extract (min (argn key) y.size) y.size).size = 0 := fun h => by rw [lst_len] at h; rw [ByteArray.size_extract]; omega
        rw [eZ, eA] at hF
        generalize y.extract 0 (min (argn key) y.size) = A at *
        generalize y.extract (min (argn key) y.size) y.size = Z at *
        generalize (lst A).any (fun x => !okA (argn key) x) = bb at *
        generalize decide (min (argn key) y.size = argn key) = ok at *
        have R6 := Lib.hid (R5.setD4 (.string A))
        have d4 := R5.d4
        have f4 := (R5.f 4).2.2
        have q6 := R6.out.q
        have p6 := R6.out.p1
        clear q R R5 hP eA eZ
        have hFH := Lib.hid hF
        have eOH := Lib.hid eO
        have eMH := Lib.hid eM
        clear hF eO eM
        rcases bb with _ | _
        · rcases ok with _ | _
          · have hlt : (lst y).length < argn key := by have := eOH.out; simpa using this
            have hPH : Hid (kp (lst s) = (cm0, s.size - Z.size, 0)) := Lib.hid (by
              have h := hFH.out
              rw [if_neg (by decide), if_pos hlt] at h
              rw [kp_more h, lst_len, eMH.out hlt, Nat.sub_zero])
            clear hFH eOH eMH hlt
            go_wp2_with fail
            refine (used_rd R6.out (by omega) (eS)).mono ?_; rintro e wr ⟨rfl, RR⟩
            have hB := Lib.hid RR.bl
            have r0 := RR.r0
            have r1 := RR.r1
            have r2 := RR.r2
            have r3 := RR.r3
            have r4 := RR.r4
            have a0 := (RR.f 0).1
            have a1 := (RR.f 1).1
            have a2 := (RR.f 2).1
            have a3 := (RR.f 3).1
            have a4 := (RR.f 4).1
            have hg := RR.g1
            have hk := Lib.hid (hPH.out)
            clear RR R6
            go_wp2_with fail
            exact pend s W _ _ h1 cm0 (s.size - Z.size) 0 hk.out hB.out hg rfl rfl rfl rfl r0 r1 r2 r3 r4 rfl
          · have hlt : ¬ (lst y).length < argn key := by have := eOH.out; simpa using this
            have hk2 : Hid (kp (lst s) = (⟨reg, m, op, mv, lst A⟩, (lst s).length - (lst Z).length, 1)) := Lib.hid (by
              have h := hFH.out
              rw [if_neg (by decide), if_neg hlt] at h
              exact kp_done h)
            clear hFH eOH eMH hlt
            go_wp2_with fail
            have r0 := R6.out.r0
            have r1 := R6.out.r1
            have r2 := R6.out.r2
            have r3 := R6.out.r3
            have r4 := R6.out.r4
            have c0 := R6.out.d0
            have c1 := R6.out.d1
            have c2 := R6.out.d2
            have c3 := R6.out.d3
            have c4 := R6.out.d4
            have a0 := (R6.out.f 0).1
            have a1 := (R6.out.f 1).1
            have a2 := (R6.out.f 2).1
            have a3 := (R6.out.f 3).1
            have a4 := (R6.out.f 4).1
            have US := Lib.hid (used_any R6.out.drew (by omega) eS)
            go_region_with (first | (go_at_call 11; refine US.out.mono ?_; rintro e wr ⟨rfl, kk, rfl⟩))
            all_goals
              go_wp2_with fail
              refine pend s W _ _ h1 ⟨reg, m, op, mv, lst A⟩ (s.size - Z.size) 1 hk2.out (R6.out.drewN (1 + kk)).bl R6.out.g1 ?_ ?_ ?_ ?_ (R6.out.drewN (1 + kk)).r0 (R6.out.drewN (1 + kk)).r1 (R6.out.drewN (1 + kk)).r2 (R6.out.drewN (1 + kk)).r3 (R6.out.drewN (1 + kk)).r4 (by rw [arr_lst]) <;> rfl
        · have hPH : Hid (kp (lst s) = (cm0, s.size - Z.size, 2)) := Lib.hid (by
            have h := hFH.out
            rw [if_pos rfl] at h
            exact kp_bad h)
          clear hFH eOH eMH
          go_wp2_with fail
          refine (used_rd R6.out (by omega) (eS)).mono ?_; rintro e wr ⟨rfl, RR⟩
          have hB := Lib.hid RR.bl
          have r0 := RR.r0
          have r1 := RR.r1
          have r2 := RR.r2
          have r3 := RR.r3
          have r4 := RR.r4
          have a0 := (RR.f 0).1
          have a1 := (RR.f 1).1
          have a2 := (RR.f 2).1
          have a3 := (RR.f 3).1
          have a4 := (RR.f 4).1
          have hg := RR.g1
          have hk := Lib.hid (hPH.out)
          clear RR R6
          go_wp2_with fail
          exact pend s W _ _ h1 cm0 (s.size - Z.size) 2 hk.out hB.out hg rfl rfl rfl rfl r0 r1 r2 r3 r4 rfl
end Go.Proofs.Ytifnochpmlllgaa.Key
