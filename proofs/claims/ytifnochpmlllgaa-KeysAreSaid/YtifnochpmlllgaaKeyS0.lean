/-
  PROVED HERE: the contract of keys' Parse, for keys of one class (0). Conditions: as each theorem states.
-/
import Derived.Test.YtifnochpmlllgaaKeyS
import Derived.Deep.CutBlock
import Derived.Deep.DeepCutAuto
namespace Go.Proofs.Ytifnochpmlllgaa.Key
open Go.RowKit
set_option maxRecDepth 100000 in
set_option maxHeartbeats 4000000 in
theorem parse_0 (s : ByteArray) (hs : s.size ≤ 500) (hpre : ¬ Pre s) (W : World) : Calls Try.prog 5 #[.string s] W (KP s W) := by
  have R0 := Rd_init s W
  have PRE := Lib.hid hpre
  clear hpre
  go_enter Try.func5, Try.ntmps5
  go_upto_region 5 with (fail)
  generalize hw : (((((W.alloc (.cells #[.string s] 9)).alloc (.cells #[.int .u8 0, .int .i64 0, .int .u8 0, .int .u8 0, .string ⟨#[]⟩] 26)).alloc (.cells #[.string s, .bool false] 37)).alloc (.cells #[.pointer (some ⟨W.heap.size + 1 + 1, 0, none⟩)] 35)).alloc (.cells #[.int .u8 0, .int .i64 0, .int .u8 0, .int .u8 0, .string ⟨#[]⟩] 26)) = wx at *
  clear hw
  generalize W.heap.size + 1 + 1 + 1 + 1 = h4 at *
  generalize W.heap.size + 1 + 1 + 1 = h3 at *
  generalize W.heap.size + 1 + 1 = h2 at *
  generalize W.heap.size + 1 = h1 at *
  generalize hh0 : W.heap.size = h0 at R0 ⊢
  have R := Lib.hid R0
  clear R0 hh0
  go_cut [28] (fun s28 wy => ∃ t : Bool, s28 = .bool t ∧ wy = wx ∧ Hid (t = true → ∃ h : 0 < s.size, s[0].toNat = 34) ∧ Hid (t = false → pp (lst s) = body 0 (lst s) ∧ ub s = s ∧ Pre s))
  case first =>
    have q := R.out.q
    have p0 := R.out.p0
    by_cases h : 0 < s.size
    · have hfu := str_full s (by omega)
      by_cases hq : s[0].toNat = 34
      · have b34 := byte_eq s[0].toNat 34 (by omega)
        have hQ := Lib.hid hq
        clear hq
        go_wp2_with fail
        go_meet
        exact ⟨true, rfl, rfl, Lib.hid (fun _ => ⟨h, hQ.out⟩), Lib.hid (fun h => by cases h)⟩
      · have b34 := byte_ne s[0].toNat 34 (by omega)
        have F := Lib.hid (pp_first s h hq)
        have U := Lib.hid (ub_first s h hq)
        have P : Hid (Pre s) := Lib.hid (fun _ hq2 => absurd hq2 hq)
        clear hq
        go_wp2_with fail
        go_meet
        exact ⟨false, rfl, rfl, Lib.hid (fun h => by cases h), Lib.hid (fun _ => ⟨F.out, U.out, P.out⟩)⟩
    · have hfu := str_none s (by omega)
      have F := Lib.hid (pp_none s h)
      have U := Lib.hid (ub_none s h)
      have P : Hid (Pre s) := Lib.hid (fun h2 => absurd h2 h)
      go_wp2_with fail
      go_meet
      exact ⟨false, rfl, rfl, Lib.hid (fun h => by cases h), Lib.hid (fun _ => ⟨F.out, U.out, P.out⟩)⟩
  case rest =>
    obtain ⟨t, rfl, rfl, hT, hNo⟩ := hcut
    go_upto_if 28 with (fail)
    cases t with
    | false => exact absurd (hNo.out rfl).2.2 PRE.out
    | true =>
      go_upto_if 28 with (fail)
      obtain ⟨h, hq⟩ := hT.out rfl
      have hP := Lib.hid (pp_quote s h hq)
      have hU := Lib.hid (ub_quote s h hq)
      have hu1 := lst_tail_size s h
      have PR := Lib.hid (show Pre s → ∃ h2 : 0 < (s.extract 1 s.size).size, regOk (s.extract 1 s.size)[0] = true from fun p => p h hq)
      have PN := Lib.hid (show (∃ h2 : 0 < (s.extract 1 s.size).size, regOk (s.extract 1 s.size)[0] = true) → Pre s from fun p _ _ => p)
      clear hq hT hNo
      have q := R.out.q
      have p0 := R.out.p0
      have f0 := (R.out.f 0).2.1
      have i1 : (1 : Int) ≤ (s.size : Int) := by omega
      have R1 := Lib.hid ((R.out.setU (s.extract 1 s.size)).drew)
      go_wp2_with fail
      go_region
      generalize hu : s.extract 1 s.size = u at *
      generalize hwz : (wc.setCell ⟨h2, 0, none⟩ (.string u)).drew = wz at *
      clear q p0 f0 hwz hu
      have hus : u.size ≤ s.size := by omega
      have hu1H := Lib.hid hu1
      clear hu1
      have q := R1.out.q
      go_wp2_with fail
      by_cases hz : 0 < u.size
      · have hro : regOk u[0] = false := by
          rcases hb : regOk u[0] with _ | _
          · rfl
          · exact absurd (PN.out ⟨hz, hb⟩) PRE.out
        have l1 := Lib.hid (lst_cons u hz)
        have hz1 := lst_tail_size u hz
        refine (next_rd_some R1.out hz).mono ?_; rintro e w1 ⟨rfl, R2⟩
        have R3 := Lib.hid (R2.setD0 (.int .u8 u[0].toNat))
        have d0 := R2.d0
        have f4 := (R2.f 0).2.2
        generalize hv : u.extract 1 u.size = v at *
        have hvs : v.size ≤ s.size := by omega
        clear hz1 hv
        have hP2 : pp (lst s) = if regOk u[0] = true then body u[0] (lst v) else .bad (lst v) false := by rw [hP.out, l1.out]
        obtain ⟨x, hx, hyy, hnn⟩ := regX u[0]
        have hy := hnn hro
        rw [hro] at hP2
        have hPH : Hid (pp (lst s) = .bad (lst v) false) := Lib.hid hP2
        clear R2 R1 q hyy hnn hro hP2 hP l1 PR PN PRE hU
        rcases hy with ⟨y1, y2⟩ | ⟨y1, y2⟩ | ⟨y1, y2, y3⟩ | ⟨y1, y2, y3⟩
        · go_wp2_with fail
          refine (used_rd R3.out (by omega) (hvs)).mono ?_; rintro e wr ⟨rfl, RR⟩
          have hB := Lib.hid RR.bl
          have r0 := RR.r0
          have r1 := RR.r1
          have r2 := RR.r2
          have r3 := RR.r3
          have r4 := RR.r4
          have a0 := (RR.f 0).1
          have a1 := (RR.f 1).1
          have a2 := (RR.f 2).1
          have a3 := (RR.f 3).1
          have a4 := (RR.f 4).1
          have hg := RR.g1
          have hk := Lib.hid (kp_bad hPH.out)
          clear RR R3
          go_wp2_with fail
          exact pend s W _ _ h1 cm0 (s.size - v.size) 2 hk.out hB.out hg rfl rfl rfl rfl r0 r1 r2 r3 r4 rfl
        · go_wp2_with fail
          refine (used_rd R3.out (by omega) (hvs)).mono ?_; rintro e wr ⟨rfl, RR⟩
          have hB := Lib.hid RR.bl
          have r0 := RR.r0
          have r1 := RR.r1
          have r2 := RR.r2
          have r3 := RR.r3
          have r4 := RR.r4
          have a0 := (RR.f 0).1
          have a1 := (RR.f 1).1
          have a2 := (RR.f 2).1
          have a3 := (RR.f 3).1
          have a4 := (RR.f 4).1
          have hg := RR.g1
          have hk := Lib.hid (kp_bad hPH.out)
          clear RR R3
          go_wp2_with fail
          exact pend s W _ _ h1 cm0 (s.size - v.size) 2 hk.out hB.out hg rfl rfl rfl rfl r0 r1 r2 r3 r4 rfl
        · go_wp2_with fail
          refine (used_rd R3.out (by omega) (hvs)).mono ?_; rintro e wr ⟨rfl, RR⟩
          have hB := Lib.hid RR.bl
          have r0 := RR.r0
          have r1 := RR.r1
          have r2 := RR.r2
          have r3 := RR.r3
          have r4 := RR.r4
          have a0 := (RR.f 0).1
          have a1 := (RR.f 1).1
          have a2 := (RR.f 2).1
          have a3 := (RR.f 3).1
          have a4 := (RR.f 4).1
          have hg := RR.g1
          have hk := Lib.hid (kp_bad hPH.out)
          clear RR R3
          go_wp2_with fail
          exact pend s W _ _ h1 cm0 (s.size - v.size) 2 hk.out hB.out hg rfl rfl rfl rfl r0 r1 r2 r3 r4 rfl
        · go_wp2_with fail
          refine (used_rd R3.out (by omega) (hvs)).mono ?_; rintro e wr ⟨rfl, RR⟩
          have hB := Lib.hid RR.bl
          have r0 := RR.r0
          have r1 := RR.r1
          have r2 := RR.r2
          have r3 := RR.r3
          have r4 := RR.r4
          have a0 := (RR.f 0).1
          have a1 := (RR.f 1).1
          have a2 := (RR.f 2).1
          have a3 := (RR.f 3).1
          have a4 := (RR.f 4).1
          have hg := RR.g1
          have hk := Lib.hid (kp_bad hPH.out)
          clear RR R3
          go_wp2_with fail
          exact pend s W _ _ h1 cm0 (s.size - v.size) 2 hk.out hB.out hg rfl rfl rfl rfl r0 r1 r2 r3 r4 rfl
      · have l1 := Lib.hid (lst_nil hz)
        refine (next_rd_none R1.out (by omega)).mono ?_; rintro e w1 ⟨rfl, R2⟩
        have R3 := Lib.hid (R2.setD0 (.int .u8 0))
        have d0 := R2.d0
        have f4 := (R2.f 0).2.2
        clear R2 R1 q PR PN PRE hU
        have hPH : Hid (kp (lst s) = (cm0, s.size - u.size, 0)) := Lib.hid (by rw [kp_more (by rw [hP.out, l1.out]), lst_len, show s.size - u.size = s.size by omega])
        go_wp2_with fail
        refine (used_rd R3.out (by omega) (hus)).mono ?_; rintro e wr ⟨rfl, RR⟩
        have hB := Lib.hid RR.bl
        have r0 := RR.r0
        have r1 := RR.r1
        have r2 := RR.r2
        have r3 := RR.r3
        have r4 := RR.r4
        have a0 := (RR.f 0).1
        have a1 := (RR.f 1).1
        have a2 := (RR.f 2).1
        have a3 := (RR.f 3).1
        have a4 := (RR.f 4).1
        have hg := RR.g1
        have hk := Lib.hid (hPH.out)
        clear RR R3
        go_wp2_with fail
        exact pend s W _ _ h1 cm0 (s.size - u.size) 0 hk.out hB.out hg rfl rfl rfl rfl r0 r1 r2 r3 r4 rfl
end Go.Proofs.Ytifnochpmlllgaa.Key
