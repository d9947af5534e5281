/-
  PROVED HERE: the contract of the program's reader's one. Conditions: as each theorem states.
-/
import Derived.Test.YtkopjmofdnlplaaGreatDoorLyQ
namespace Go.Proofs.YtkopjmofdnlplaaGreatDoor.Ly
open Go.RowKit Go.Proofs.YtkopjmofdnlplaaGreatDoor.Tm
section
variable {W0 : World} {ts : List Ty} {fm : Value} {s : ByteArray} {m : Nat}
theorem thr_q {W w' : World} {G : Nat} {mo : Option Nat} {K k : Nat} {R : Nd × Vw × Nf} {e : Ending} {c a : Int} (g : Gr (GM G mo) W w') (hR : R.2.1.c = c ∧ R.2.1.a = a) (h : PThr w' c a e) : OnQ W G mo fm s K k R e w' := ⟨g, .inr (by rw [hR.1, hR.2]; exact h)⟩
set_option maxRecDepth 100000 in
set_option maxHeartbeats 16000000 in
theorem pone_any (hFm : FmW W0 ts fm) (hwf : ∀ t ∈ ts, WfL t.items ∧ t.items.length ≤ 16) (HB : BlkQ W0 ts fm s m) : OneQ W0 ts fm s (m + 1) := by
  intro G mo σ f K W x xb xo P hp hw hm hmo
  obtain ⟨hxG, cv, iv, hcx, hit⟩ := hp
  obtain ⟨fb, rfl, hlook⟩ := hFm
  obtain ⟨pc, rfl⟩ := ct_ptr ((itAt_iff _ _ _ _).1 hit).1
  obtain ⟨ia, im, ic, rfl⟩ := its_slice ((itAt_iff _ _ _ _).1 hit).2
  have HMo := Lib.hid hmo
  have HP := Lib.hid P
  have HX := Lib.hid hit
  have HW := Lib.hid hw
  have HH := Lib.hid HB
  have HLk := Lib.hid hlook
  have HWf := Lib.hid hwf
  obtain ⟨R, hR⟩ : ∃ R, oneD ts s (m + 1) x σ f = R := ⟨_, rfl⟩
  rw [hR]
  have HR0 := Lib.hid (show R = oneG numD (itsT ts) s (blkD ts s m) x σ f from hR.symm)
  have HXC := Lib.hid hcx
  have hGlt := P.V.lt
  have hW1 := (wfI_iff _).1 hw
  have HK1 := Lib.hid hm
  clear P hit hw HB hlook hwf hR hcx hmo hm
  obtain ⟨kd, hkd⟩ : ∃ k, x.kind = k := ⟨_, rfl⟩
  obtain ⟨nm, hnm⟩ : ∃ k, x.name = k := ⟨_, rfl⟩
  obtain ⟨ty, hty⟩ : ∃ k, x.type = k := ⟨_, rfl⟩
  obtain ⟨wd, hwd⟩ : ∃ k, x.width = k := ⟨_, rfl⟩
  obtain ⟨od, hod⟩ : ∃ k, x.order = k := ⟨_, rfl⟩
  obtain ⟨sg, hsg⟩ : ∃ k, x.signed = k := ⟨_, rfl⟩
  have HC0 := Lib.hid (fun (w : World) (hb : Gr (GM G mo) W w) => show w.cell? ⟨xb, xo, none⟩ = some (.int .i64 kd) by rw [← hkd]; exact HXC.out w hb 0 _ rfl)
  have HC2 := Lib.hid (fun (w : World) (hb : Gr (GM G mo) W w) => show w.cell? ⟨xb, xo + 2, none⟩ = some (.string nm) by rw [← hnm]; exact HXC.out w hb 2 _ rfl)
  have HC3 := Lib.hid (fun (w : World) (hb : Gr (GM G mo) W w) => show w.cell? ⟨xb, xo + 3, none⟩ = some (.string ty) by rw [← hty]; exact HXC.out w hb 3 _ rfl)
  have HC4 := Lib.hid (fun (w : World) (hb : Gr (GM G mo) W w) => show w.cell? ⟨xb, xo + 4, none⟩ = some (.int .i64 wd) by rw [← hwd]; exact HXC.out w hb 4 _ rfl)
  have HC5 := Lib.hid (fun (w : World) (hb : Gr (GM G mo) W w) => show w.cell? ⟨xb, xo + 5, none⟩ = some (.int .i64 od) by rw [← hod]; exact HXC.out w hb 5 _ rfl)
  have HC6 := Lib.hid (fun (w : World) (hb : Gr (GM G mo) W w) => show w.cell? ⟨xb, xo + 6, none⟩ = some (.bool sg) by rw [← hsg]; exact HXC.out w hb 6 _ rfl)
  have HC8 := Lib.hid (fun (w : World) (hb : Gr (GM G mo) W w) => show w.cell? ⟨xb, xo + 8, none⟩ = some (.pointer pc) from HXC.out w hb 8 _ rfl)
  have HC12 := Lib.hid (fun (w : World) (hb : Gr (GM G mo) W w) => show w.cell? ⟨xb, xo + 12, none⟩ = some (.slice ia im ic) from HXC.out w hb 12 _ rfl)
  clear HXC
  go_enter Tryz.func40, Tryz.ntmps40
  go_upto_region 1 with fail
  have bA : Below W.heap.size W (W.alloc (.cells #[.string ⟨#[]⟩, .int .i64 0, .int .i64 0, .int .i64 0, .int .i64 0, .string ⟨#[]⟩, .slice none 0 0] 27)) := (Below.refl _ _).alloc (Nat.le_refl _) _
  have iA : NB (W.alloc (.cells #[.string ⟨#[]⟩, .int .i64 0, .int .i64 0, .int .i64 0, .int .i64 0, .string ⟨#[]⟩, .slice none 0 0] 27)) W.heap.size nd0 := NB.new _ _
  generalize W.alloc (.cells #[.string ⟨#[]⟩, .int .i64 0, .int .i64 0, .int .i64 0, .int .i64 0, .string ⟨#[]⟩, .slice none 0 0] 27) = w1 at *
  obtain ⟨Rb, hRb⟩ : ∃ I, W.heap.size = I := ⟨_, rfl⟩
  have HRb := Lib.hid hRb
  rw [hRb] at iA ⊢
  have b1 : Gr (GM G mo) W w1 := Gr.below bA
  have k0 := HC0.out w1 b1
  have C := Lib.hid (node_any (HP.out.V.below bA) xb xo nm kd (HC2.out w1 b1) hxG HP.out.c HP.out.k)
  have hBf := begV_facts σ
  have BA := Lib.hid bA
  have IA := Lib.hid iA
  clear bA iA hRb b1
  obtain ⟨σ1, hσ1⟩ : ∃ v, begV σ = v := ⟨_, rfl⟩
  have HR := HR0
  unfold oneG at HR
  simp only [hkd, hnm, hty, hwd, hod, hsg] at HR
  rw [hσ1] at HR C hBf
  clear hσ1 HR0
  go_wp2_with fail
  refine (C.out).mono ?_; rintro e' w2 ⟨hg2, h2⟩
  clear C k0
  rcases h2 with ⟨hc1, rfl, hV2⟩ | ⟨hn, ev, rfl, he⟩
  · have HR1 := Lib.hid (HR.out.trans (if_neg (by simp [hc1])))
    have S1 := Lib.hid (QS.start (vs := [.string nm, .int .i64 kd, .int .i64 (σ.p : Nat), .int .i64 0, .int .i64 0, .string ⟨#[]⟩, .slice none 0 0]) HP.out BA.out IA.out (Nat.le_of_eq HRb.out) hg2 hV2)
    simp only [newVals]
    go_upto_region 2 with fail
    have S2 := Lib.hid (show QS W0 W G mo (.map (some fb)) s Rb w2.heap.size σ1 f K [.string nm, .int .i64 kd, .int .i64 (σ.p : Nat), .int .i64 0, .int .i64 0, .string ⟨#[]⟩, .slice none 0 0] (w2.alloc (.cells #[.string nm, .int .i64 kd, .int .i64 (σ.p : Nat), .int .i64 0, .int .i64 0, .string ⟨#[]⟩, .slice none 0 0] 27)) from S1.out)
    generalize w2.alloc (.cells #[.string nm, .int .i64 kd, .int .i64 (σ.p : Nat), .int .i64 0, .int .i64 0, .string ⟨#[]⟩, .slice none 0 0] 27) = w3 at *
    obtain ⟨X, hX⟩ : ∃ X, w2.heap.size = X := ⟨_, rfl⟩
    rw [hX] at S2 ⊢
    obtain ⟨hp1, hk1, hkk⟩ := hBf
    have hk2 := (hkk hc1).1
    have HC1 := Lib.hid hc1
    have hps : σ1.p ≤ s.size := by rw [hp1]; exact HP.out.p
    have hs3 := HP.out.hs
    have kK := HP.out.kK
    clear S1 BA IA hg2 hV2 hX HR hkk hc1
    have t0 := HC0.out w3 S2.out.g
    go_upto_block 0 with fail
    go_cut [] (fun wx => MidQ W0 W G mo (.map (some fb)) s Rb X nm kd σ.p K σ.k R wx)
    case first =>
      by_cases q1 : kd = 1
      · obtain rfl : kd = 1 := q1
        have HR2 := Lib.hid (HR1.out.trans (if_pos rfl))
        clear HR1
        ·
          have hwide := hW1.1.wide hkd
          have hord := hW1.1.ord
          rw [hwd] at hwide
          rw [hod] at hord
          have hF := bytV_facts s wd σ1 hps
          have x4 := HC4.out w3 S2.out.g
          have C := Lib.hid (take_any S2.out.V wd HC1.out hps (by omega))
          have hSz := bytV_size s wd σ1 hps
          obtain ⟨⟨r, σ2⟩, hr⟩ : ∃ q, bytV s wd σ1 = q := ⟨_, rfl⟩
          rw [hr] at HR2 hF C hSz
          simp only at HR2 hF C hSz
          clear hr
          go_wp2_with fail
          refine (C.out).mono ?_; rintro e' w4 ⟨hg4, h4⟩
          clear C t0 x4
          rcases h4 with ⟨hc4, rfl, hV4⟩ | ⟨hn, ev, rfl, he⟩
          · have S4 := Lib.hid (S2.out.st hg4 hV4)
            have HB4 := Lib.hid (show Bds s K σ.k K σ2 ∧ σ2.c = 0 from ⟨⟨by omega, by omega, by omega, fun e => by omega, hF.2.2.1⟩, hc4⟩)
            have hsz := hSz hc4
            have hz : r ≠ emp := by
              intro e
              rw [e] at hsz
              have h0 : emp.size = 0 := rfl
              rw [h0] at hsz
              omega
            have HR := Lib.hid (show R = (.mk nm 1 σ.p ((σ2.p : Int) - (σ.p : Int)) (numD wd od sg r) emp [], σ2, f) by rw [HR2.out, numV, if_neg hz])
            clear hz hF HR2 hg4 hV4 hSz hc4
            obtain ⟨wn, rfl⟩ : ∃ n : Nat, wd = (n : Int) := ⟨wd.toNat, by omega⟩
            obtain ⟨on, rfl⟩ : ∃ n : Nat, od = (n : Int) := ⟨od.toNat, by omega⟩
            have hn8 : wn ≤ 8 := by omega
            have x4 := HC4.out w4 S4.out.g
            have x5 := HC5.out w4 S4.out.g
            have C := Lib.hid (fun w => Word.get_yes r 0 wn on (by omega) ⟨by omega, by omega⟩ hn8 (by omega) (by omega) (by omega) w)
            have hu1 := Word.leV_lt (Word.src r 0 wn on) (fun k => Word.src_lt r 0 wn on k) wn
            have hu2 := Word.pow256 wn hn8
            have HN : Hid (numD (wn : Int) (on : Int) sg r = if sg = true then Ws.sgn (Word.leV (Word.src r 0 wn on) wn : Nat) wn else wrap64 (Word.leV (Word.src r 0 wn on) wn : Nat)) := Lib.hid (by unfold numD uD; simp only [Int.toNat_natCast])
            obtain ⟨u, hu⟩ : ∃ u, Word.leV (Word.src r 0 wn on) wn = u := ⟨_, rfl⟩
            rw [hu] at C HN hu1
            rw [show ((0 : Nat) : Int) = 0 from rfl] at C
            have hu3 : (u : Int) ≤ 18446744073709551615 := by omega
            have hu4 : (0 : Int) ≤ (u : Int) := by omega
            have hu5 : u ≤ 18446744073709551615 := by omega
            clear hu hu1 hu2
            have k4 : w4.cell? ⟨X, 4, none⟩ = some (.int .i64 0) := S4.out.bx.cell 4
            have f4 := S4.out.bx.free 4
            clear k4 f4
            go_upto_region 6 with fail
            go_quiet ((go_at_call 80; exact Calls.quiet_of_same (call_flip (C.out _))))
            have S5 := Lib.hid (S4.out.below (below_drewN (Below.refl _ w4) nq))
            clear x4 x5 C S4
            generalize w4.drewN nq = w5 at *
            have k4 : w5.cell? ⟨X, 4, none⟩ = some (.int .i64 0) := S5.out.bx.cell 4
            have f4 := S5.out.bx.free 4
            have S6 := Lib.hid (S5.out.num (wrap64 (u : Nat))).1
            have x6 := HC6.out _ S6.out.g
            cases sg with
            | false =>
              have HN2 := Lib.hid (HN.out.trans (if_neg (by decide)))
              clear HN
              go_wp2_with fail
              go_meet
              exact ⟨σ2, f, K, _, ⟨#[]⟩, [], none, 0, 0, S6, Lib.hid (nds_nil _ _), Lib.hid (by rw [HR.out, HN2.out]; rfl), HB4⟩
            | true =>
              have HN2 := Lib.hid (HN.out.trans (if_pos rfl))
              have x4 := HC4.out _ S6.out.g
              clear HN
              go_wp2_with fail
              refine (Ws.signed_any (u : Nat) wn hu4 hu3 _).mono ?_; rintro e' w7 ⟨rfl, rfl⟩
              have HR3 := Lib.hid (show R = (.mk nm 1 σ.p ((σ2.p : Int) - (σ.p : Int)) (Ws.sgn (u : Nat) wn) emp [], σ2, f) by rw [HR.out, HN2.out])
              clear HR HN2 k4 f4 x6 x4
              generalize w5.setCell ⟨X, 4, none⟩ (.int .i64 (wrap64 (u : Nat))) = w6 at *
              generalize Ws.sgn (u : Nat) wn = g at *
              obtain ⟨S7, k4, f4⟩ := S6.out.num g
              generalize wrap64 (u : Nat) = g0 at *
              have S7 := Lib.hid S7
              go_wp2_with fail
              go_meet
              exact ⟨σ2, f, K, g, ⟨#[]⟩, [], none, 0, 0, S7, Lib.hid (nds_nil _ _), HR3, HB4⟩
          · have HR3 := Lib.hid HR2.out
            unfold thrown
            go_wp2_with fail
            exact ⟨rfl, thr_q (S2.out.g.trans (Gr.of hg4 (gm_G G mo))) (by rw [HR3.out]; exact ⟨rfl, rfl⟩) ⟨hn, ev, rfl, he⟩⟩
      · have HR2 := Lib.hid (HR1.out.trans (if_neg q1))
        clear HR1
        by_cases q2 : kd = 2
        · obtain rfl : kd = 2 := q2
          have HR3 := Lib.hid (HR2.out.trans (if_pos rfl))
          clear HR2
          ·
            obtain ⟨e, he⟩ : ∃ e, x.count = some e := Option.ne_none_iff_exists'.1 (hW1.1.cnt (.inl hkd))
            have hex : ExAt W0 e (.pointer pc) := by
              have := ((itAt_iff _ _ _ _).1 HX.out).1
              rw [he] at this
              exact this
            have hok := (hW1.1.sz e he).2
            rw [he] at HR3
            simp only [evO] at HR3
            have x8 := HC8.out w3 S2.out.g
            have C := Lib.hid (number_any e (.pointer pc) mo f hok (ExAt.below S2.out.b0 e _ hex) S2.out.N.nms)
            have hC0 : (evalF f e).2.1 = 0 → cntV (evalF f e) σ1 = σ1 := fun h => if_neg (fun q => q.2 h)
            have hC1 : (evalF f e).2.1 ≠ 0 → cntV (evalF f e) σ1 = ⟨σ1.p, σ1.k, (evalF f e).2.1, (evalF f e).2.2⟩ := fun h => if_pos ⟨HC1.out, h⟩
            obtain ⟨⟨n, qc, qa⟩, hq⟩ : ∃ q, evalF f e = q := ⟨_, rfl⟩
            rw [hq] at C HR3 hC0 hC1
            simp only at C HR3 hC0 hC1
            clear hq hok hex he
            go_wp2_with fail
            refine (C.out).mono ?_; rintro e' w4 ⟨hb4, h4⟩
            clear C t0 x8
            rcases h4 with ⟨hq0, rfl⟩ | ⟨hn, ev, rfl, he⟩
            · have S4 := Lib.hid (S2.out.below hb4)
              rw [hC0 hq0] at HR3
              clear hC0 hC1 hq0 hb4
              have hF := bytV_facts s n σ1 hps
              have C := Lib.hid (take_any S4.out.V n HC1.out hps (by omega))
              obtain ⟨⟨r, σ2⟩, hr⟩ : ∃ q, bytV s n σ1 = q := ⟨_, rfl⟩
              rw [hr] at HR3 hF C
              simp only at HR3 hF C
              clear hr
              go_wp2_with fail
              refine (C.out).mono ?_; rintro e' w5 ⟨hg5, h5⟩
              clear C
              rcases h5 with ⟨hc5, rfl, hV5⟩ | ⟨hn, ev, rfl, he⟩
              · have S5 := Lib.hid (S4.out.st hg5 hV5)
                have HB5 := Lib.hid (show Bds s K σ.k K σ2 ∧ σ2.c = 0 from ⟨⟨by omega, by omega, by omega, fun e => by omega, hF.2.2.1⟩, hc5⟩)
                clear hF hg5 hV5 hc5
                have k5 : w5.cell? ⟨X, 5, none⟩ = some (.string ⟨#[]⟩) := S5.out.bx.cell 5
                have f5 := S5.out.bx.free 5
                have S6 := Lib.hid (S5.out.set 5 (.string r))
                go_wp2_with fail
                go_meet
                exact ⟨σ2, f, K, 0, r, [], none, 0, 0, S6, Lib.hid (nds_nil _ _), HR3, HB5⟩
              · have HR4 := Lib.hid HR3.out
                unfold thrown
                go_wp2_with fail
                exact ⟨rfl, thr_q (S4.out.g.trans (Gr.of hg5 (gm_G G mo))) (by rw [HR4.out]; exact ⟨rfl, rfl⟩) ⟨hn, ev, rfl, he⟩⟩
            · have HR4 := Lib.hid (show R.2.1.c = qc ∧ R.2.1.a = qa by
                have h := HR3.out
                rw [hC1 hn, bytV_stop (show (⟨σ1.p, σ1.k, qc, qa⟩ : Vw).c ≠ 0 from hn)] at h
                rw [h]
                exact ⟨rfl, rfl⟩)
              unfold thrown
              go_wp2_with fail
              exact ⟨rfl, thr_q (S2.out.g.trans (Gr.below hb4)) HR4.out ⟨hn, ev, rfl, he⟩⟩
        · have HR3 := Lib.hid (HR2.out.trans (if_neg q2))
          clear HR2
          by_cases q4 : kd = 4
          · obtain rfl : kd = 4 := q4
            have HR4 := Lib.hid (HR3.out.trans (if_pos rfl))
            clear HR3
            ·
              obtain ⟨e, he⟩ : ∃ e, x.count = some e := Option.ne_none_iff_exists'.1 (hW1.1.cnt (.inr (.inl hkd)))
              have hex : ExAt W0 e (.pointer pc) := by
                have := ((itAt_iff _ _ _ _).1 HX.out).1
                rw [he] at this
                exact this
              have hok := (hW1.1.sz e he).2
              rw [he] at HR4
              simp only [evO] at HR4
              have x8 := HC8.out w3 S2.out.g
              have C := Lib.hid (number_any e (.pointer pc) mo f hok (ExAt.below S2.out.b0 e _ hex) S2.out.N.nms)
              have hits : ItsAt W0 (.slice ia im ic) x.items := ((itAt_iff _ _ _ _).1 HX.out).2
              have hC0 : (evalF f e).2.1 = 0 → cntV (evalF f e) σ1 = σ1 := fun h => if_neg (fun q => q.2 h)
              have hC1 : (evalF f e).2.1 ≠ 0 → cntV (evalF f e) σ1 = ⟨σ1.p, σ1.k, (evalF f e).2.1, (evalF f e).2.2⟩ := fun h => if_pos ⟨HC1.out, h⟩
              obtain ⟨n, hqn⟩ : ∃ q, (evalF f e).1 = q := ⟨_, rfl⟩
              obtain ⟨qc, hqc⟩ : ∃ q, (evalF f e).2.1 = q := ⟨_, rfl⟩
              obtain ⟨qa, hqa⟩ : ∃ q, (evalF f e).2.2 = q := ⟨_, rfl⟩
              rw [hqn, hqc, hqa] at C
              rw [hqc] at hC0 hC1
              rw [hqa] at hC1
              have HQN := Lib.hid hqn
              clear hqn hqc hqa hok hex he
              go_wp2_with fail
              refine (C.out).mono ?_; rintro e' w4 ⟨hb4, h4⟩
              clear C t0 x8
              rcases h4 with ⟨hq0, rfl⟩ | ⟨hn, ev, rfl, he⟩
              · have S4 := Lib.hid (S2.out.below hb4)
                rw [hC0 hq0] at HR4
                clear hC0 hC1 hq0 hb4
                by_cases hn : n = 0
                · obtain rfl : n = 0 := hn
                  have HR5 := Lib.hid (HR4.out.trans (if_neg (fun h => h HQN.out)))
                  have HB4 := Lib.hid (show Bds s K σ.k K σ1 ∧ σ1.c = 0 from ⟨⟨by omega, by omega, by omega, fun e => by omega, hps⟩, HC1.out⟩)
                  clear HR4
                  go_wp2_with fail
                  go_meet
                  exact ⟨σ1, f, K, 0, ⟨#[]⟩, [], none, 0, 0, S4, Lib.hid (nds_nil _ _), HR5, HB4⟩
                · have HR5 := Lib.hid (HR4.out.trans (if_pos (fun h => hn (HQN.out.symm.trans h))))
                  have e0 : (n != 0) = true := by simpa using hn
                  clear HR4
                  obtain ⟨S5, k4, f4⟩ := S4.out.num 1
                  have C := Lib.hid (HH.out G mo σ1 f K _ x.items (.slice ia im ic) (S5.pp (by omega) (by omega) HC1.out hps hs3) hits hW1.2 (by have := HK1.out; omega) (HMo.out.resolve_right (by rw [hkd]; decide)) hW1.1.few)
                  have S5 := Lib.hid S5
                  have x12 := HC12.out _ S5.out.g
                  clear hits S4 hn
                  go_wp2_with fail
                  generalize w4.setCell ⟨X, 4, none⟩ (.int .i64 1) = w5 at *
                  refine (C.out).mono ?_; rintro e' w6 ⟨hg, h6⟩
                  clear C
                  obtain ⟨⟨kl, σ3, f3⟩, hb⟩ : ∃ q, blkD ts s m x.items σ1 f = q := ⟨_, rfl⟩
                  rw [hb] at h6 HR5
                  simp only at h6 HR5
                  clear hb
                  rcases h6 with ⟨hc6, kv, rfl, hV, hN, h1, h2, h4, hF, a6, m6, c6, rfl⟩ | ⟨hn, ev, rfl, he⟩
                  · have hlt := S5.out.bx.lt
                    have S6 := Lib.hid (S5.out.gr hg hV hN)
                    have F6 := Lib.hid (Fw.low hF (show X + 1 ≤ w5.heap.size by omega))
                    have HB4 := Lib.hid (show Bds s K σ.k (K + (σ3.k - σ1.k)) σ3 ∧ σ3.c = 0 from ⟨⟨by omega, by omega, by omega, fun _ => h2, h4⟩, hc6⟩)
                    clear S5 hV hg hN h1 h2 h4 hF k4 f4 x12 hlt hc6
                    have k6 : w6.cell? ⟨X, 6, none⟩ = some (.slice none 0 0) := S6.out.bx.cell 6
                    have f6 := S6.out.bx.free 6
                    have S7 := Lib.hid (S6.out.set 6 (.slice a6 m6 c6))
                    have F7 := Lib.hid (S6.out.nds F6.out 6 (.slice a6 m6 c6))
                    go_wp2_with fail
                    go_meet
                    exact ⟨σ3, f3, _, 1, ⟨#[]⟩, kl, a6, m6, c6, S7, F7, HR5, HB4⟩
                  · unfold thrown
                    go_wp2_with fail
                    exact ⟨rfl, thr_q (S5.out.g.trans hg) (by rw [HR5.out]; exact ⟨rfl, rfl⟩) ⟨hn, ev, rfl, he⟩⟩
              · have HR5 := Lib.hid (show R.2.1.c = qc ∧ R.2.1.a = qa by
                  have h := HR4.out
                  rw [hC1 hn] at h
                  by_cases hz : (evalF f e).1 = 0
                  · have h2 := h.trans (if_neg (fun q => q hz))
                    rw [h2]
                    exact ⟨rfl, rfl⟩
                  · have h2 := h.trans (if_pos hz)
                    rw [h2]
                    have hb := blkG_stop (one := oneD ts s m) (v := ⟨σ1.p, σ1.k, qc, qa⟩) (out := []) (f := f) x.items hn
                    show (blkD ts s m x.items ⟨σ1.p, σ1.k, qc, qa⟩ f).2.1.c = qc ∧ (blkD ts s m x.items ⟨σ1.p, σ1.k, qc, qa⟩ f).2.1.a = qa
                    unfold blkD
                    rw [hb]
                    exact ⟨rfl, rfl⟩)
                unfold thrown
                go_wp2_with fail
                exact ⟨rfl, thr_q (S2.out.g.trans (Gr.below hb4)) HR5.out ⟨hn, ev, rfl, he⟩⟩
          · have HR4 := Lib.hid (HR3.out.trans (if_neg q4))
            clear HR3
            ·
              have hk := hW1.1.kind
              rw [hkd] at hk
              obtain rfl : kd = 3 := by omega
              have hty0 := hW1.1.names.2.1
              rw [hty] at hty0
              have gD := S2.out.drew'
              obtain ⟨a4, m4, c4, hlk, hit4⟩ := HLk.out ty hty0
              have HIT := Lib.hid hit4
              have HLK := Lib.hid hlk
              have c0d := gD.V.c0
              have GD := Lib.hid gD
              have HG2 := Lib.hid S2.out.g
              go_upto_region 3 with fail
              refine Hld.run_region (fun w' => w'.cell? ⟨G, 0, none⟩ = some (.map (some fb)) ∧ Below W0.heap.size W0 w' ∧ Gr (GM G mo) W w') 13 (by kernel_rfl) ?_
              have SH : w3.drew.cell? ⟨G, 0, none⟩ = some (.map (some fb)) ∧ Below W0.heap.size W0 w3.drew ∧ Gr (GM G mo) W w3.drew := ⟨c0d, GD.out.b0, GD.out.g⟩
              clear gD hlk hit4 c0d t0 S2 hty0
              generalize w3.drew = w4 at *
              refine Hld.Run.take (i := 0) (d := 3) (v := .pointer (some ⟨G, 0, none⟩)) rfl (by kernel_rfl) (by kernel_rfl) (by kernel_rfl) (by kernel_rfl) (by kernel_rfl) (by kernel_rfl) (fun _ _ _ h => h) (Or.inl ⟨by rfl, ?_⟩) SH ?_
              · intro w' hSw
                obtain ⟨h1, h2, h3⟩ := hSw
                have y3 := HC3.out w' h3
                have y9 := HLK.out w' h2
                go_simp
              try simp only [Act.put]
              refine run_at #[true, false, false, false, false, false, false, false, false, false, false, false, false, false] (by kernel_rfl) ?_
              refine Hld.Run.take (i := 1) (d := 3) (v := .pointer (some ⟨G, 0, none⟩)) rfl (by kernel_rfl) (by kernel_rfl) (by kernel_rfl) (by kernel_rfl) (by kernel_rfl) (by kernel_rfl) (fun _ _ _ h => h) (Or.inl ⟨by rfl, ?_⟩) SH ?_
              · intro w' hSw
                obtain ⟨h1, h2, h3⟩ := hSw
                have y3 := HC3.out w' h3
                have y9 := HLK.out w' h2
                go_simp
              try simp only [Act.put]
              refine run_at #[true, true, false, false, false, false, false, false, false, false, false, false, false, false] (by kernel_rfl) ?_
              refine Hld.Run.take (i := 2) (d := 3) (v := .pointer (some ⟨G, 0, none⟩)) rfl (by kernel_rfl) (by kernel_rfl) (by kernel_rfl) (by kernel_rfl) (by kernel_rfl) (by kernel_rfl) (fun _ _ _ h => h) (Or.inl ⟨by rfl, ?_⟩) SH ?_
              · intro w' hSw
                obtain ⟨h1, h2, h3⟩ := hSw
                have y3 := HC3.out w' h3
                have y9 := HLK.out w' h2
                go_simp
              try simp only [Act.put]
              refine run_at #[true, true, true, false, false, false, false, false, false, false, false, false, false, false] (by kernel_rfl) ?_
              refine Hld.Run.take (i := 3) (d := 3) (v := .pointer (some ⟨G, 0, none⟩)) rfl (by kernel_rfl) (by kernel_rfl) (by kernel_rfl) (by kernel_rfl) (by kernel_rfl) (by kernel_rfl) (fun _ _ _ h => h) (Or.inl ⟨by rfl, ?_⟩) SH ?_
              · intro w' hSw
                obtain ⟨h1, h2, h3⟩ := hSw
                have y3 := HC3.out w' h3
                have y9 := HLK.out w' h2
                go_simp
              try simp only [Act.put]
              refine run_at #[true, true, true, true, false, false, false, false, false, false, false, false, false, false] (by kernel_rfl) ?_
              refine Hld.Run.take (i := 4) (d := 3) (v := .map (some fb)) rfl (by kernel_rfl) (by kernel_rfl) (by kernel_rfl) (by kernel_rfl) (by kernel_rfl) (by kernel_rfl) (fun _ _ _ h => h) (Or.inl ⟨by rfl, ?_⟩) SH ?_
              · intro w' hSw
                obtain ⟨h1, h2, h3⟩ := hSw
                have y3 := HC3.out w' h3
                have y9 := HLK.out w' h2
                go_simp
              try simp only [Act.put]
              refine run_at #[true, true, true, true, true, false, false, false, false, false, false, false, false, false] (by kernel_rfl) ?_
              refine Hld.Run.take (i := 5) (d := 3) (v := .pointer (some ⟨xb, xo, none⟩)) rfl (by kernel_rfl) (by kernel_rfl) (by kernel_rfl) (by kernel_rfl) (by kernel_rfl) (by kernel_rfl) (fun _ _ _ h => h) (Or.inl ⟨by rfl, ?_⟩) SH ?_
              · intro w' hSw
                obtain ⟨h1, h2, h3⟩ := hSw
                have y3 := HC3.out w' h3
                have y9 := HLK.out w' h2
                go_simp
              try simp only [Act.put]
              refine run_at #[true, true, true, true, true, true, false, false, false, false, false, false, false, false] (by kernel_rfl) ?_
              refine Hld.Run.take (i := 6) (d := 3) (v := .pointer (some ⟨xb, xo, none⟩)) rfl (by kernel_rfl) (by kernel_rfl) (by kernel_rfl) (by kernel_rfl) (by kernel_rfl) (by kernel_rfl) (fun _ _ _ h => h) (Or.inl ⟨by rfl, ?_⟩) SH ?_
              · intro w' hSw
                obtain ⟨h1, h2, h3⟩ := hSw
                have y3 := HC3.out w' h3
                have y9 := HLK.out w' h2
                go_simp
              try simp only [Act.put]
              refine run_at #[true, true, true, true, true, true, true, false, false, false, false, false, false, false] (by kernel_rfl) ?_
              refine Hld.Run.take (i := 7) (d := 3) (v := .pointer (some ⟨xb, xo + 3, none⟩)) rfl (by kernel_rfl) (by kernel_rfl) (by kernel_rfl) (by kernel_rfl) (by kernel_rfl) (by kernel_rfl) (fun _ _ _ h => h) (Or.inl ⟨by rfl, ?_⟩) SH ?_
              · intro w' hSw
                obtain ⟨h1, h2, h3⟩ := hSw
                have y3 := HC3.out w' h3
                have y9 := HLK.out w' h2
                go_simp
              try simp only [Act.put]
              refine run_at #[true, true, true, true, true, true, true, true, false, false, false, false, false, false] (by kernel_rfl) ?_
              refine Hld.Run.take (i := 8) (d := 3) (v := .string ty) rfl (by kernel_rfl) (by kernel_rfl) (by kernel_rfl) (by kernel_rfl) (by kernel_rfl) (by kernel_rfl) (fun _ _ _ h => h) (Or.inl ⟨by rfl, ?_⟩) SH ?_
              · intro w' hSw
                obtain ⟨h1, h2, h3⟩ := hSw
                have y3 := HC3.out w' h3
                have y9 := HLK.out w' h2
                go_simp
              try simp only [Act.put]
              refine run_at #[true, true, true, true, true, true, true, true, true, false, false, false, false, false] (by kernel_rfl) ?_
              refine Hld.Run.take (i := 9) (d := 3) (v := .slice a4 m4 c4) rfl (by kernel_rfl) (by kernel_rfl) (by kernel_rfl) (by kernel_rfl) (by kernel_rfl) (by kernel_rfl) (fun _ _ _ h => h) (Or.inl ⟨by rfl, ?_⟩) SH ?_
              · intro w' hSw
                obtain ⟨h1, h2, h3⟩ := hSw
                have y3 := HC3.out w' h3
                have y9 := HLK.out w' h2
                go_simp
              try simp only [Act.put]
              refine run_at #[true, true, true, true, true, true, true, true, true, true, false, false, false, false] (by kernel_rfl) ?_
              have hlt := GD.out.g.size
              have hbl := GD.out.bx.lt
              have bm : Below w4.heap.size w4 (w4.alloc (.map #[] 0)) := (Below.refl _ _).alloc (Nat.le_refl _) _
              have P2 : PP W0 G (some w4.heap.size) (.map (some fb)) s σ1 nf0 0 (w4.alloc (.map #[] 0)) := ⟨GD.out.b0.alloc GD.out.b0.size _, GD.out.lG, fun b hb => by
                injection hb with hb
                subst hb
                exact ⟨Nat.le_trans GD.out.lo hlt, by have := GD.out.hG; omega⟩, GD.out.V.below bm, nmW_new w4, Nat.zero_le _, by omega, HC1.out, hps, hs3⟩
              have C := Lib.hid (HH.out G (some w4.heap.size) σ1 nf0 0 _ (itsT ts ty) (.slice a4 m4 c4) P2 HIT.out (itsT_wf HWf.out ty).1 (by have := HK1.out; omega) (fun h => by cases h) (itsT_wf HWf.out ty).2)
              have BM := Lib.hid bm
              have HSZ := Lib.hid (show X + 1 ≤ (w4.alloc (.map #[] 0)).heap.size by simp; omega)
              have c5d := (GD.out.V.below bm).c0
              have b5 := GD.out.b0.alloc GD.out.b0.size (.map #[] 0)
              clear bm P2 HIT hlt hbl
              have hmm := @run_makeMap Tryz.prog
              refine Hld.Run.one (i := 10) (by kernel_rfl) rfl (fun C1 hC1 => ?_)
              go_simp
              refine hC1 _ _ ⟨fun _ => ⟨c5d, b5, GD.out.g.trans (Gr.below BM.out)⟩, ?_⟩
              clear hC1 C1 hmm SH c5d b5
              try simp only [Act.put]
              refine Hld.Run.one (i := 11) (by kernel_rfl) rfl (fun C2 hC2 => ?_)
              go_simp
              go_at_call 83
              refine (C.out).mono ?_; rintro e' w6 ⟨hg, h6⟩
              clear C
              obtain ⟨⟨kl, σ3, f3⟩, hb⟩ : ∃ q, blkD ts s m (itsT ts ty) σ1 nf0 = q := ⟨_, rfl⟩
              have HR5 := Lib.hid HR4.out
              clear HR4
              rw [hb] at h6 HR5
              simp only at h6 HR5
              clear hb
              rcases h6 with ⟨hc6, kv, rfl, hV, hN, h1, h2, h4, hF, a6, m6, c6, rfl⟩ | ⟨hn, ev, rfl, he⟩
              · have S6 := Lib.hid (GD.out.own ((Gr.below BM.out).trans hg) (Nat.le_refl _) hV)
                have F6 := Lib.hid (Fw.low hF HSZ.out)
                have HB4 := Lib.hid (show Bds s K σ.k K σ3 ∧ σ3.c = 0 from ⟨⟨by omega, by omega, by omega, fun _ => h2, h4⟩, hc6⟩)
                refine hC2 _ _ ⟨fun _ => ⟨S6.out.V.c0, S6.out.b0, S6.out.g⟩, ?_⟩
                clear hC2 C2 GD hV hg hN h1 h2 h4 hF BM HSZ hc6
                try simp only [Act.put]
                refine Hld.Run.one (i := 12) (by kernel_rfl) rfl (fun C3 hC3 => ?_)
                go_simp
                refine hC3 _ _ ⟨fun _ => ⟨S6.out.V.c0, S6.out.b0, S6.out.g⟩, ?_⟩
                clear hC3 C3
                try simp only [Act.put]
                refine Hld.Run.one (i := 13) (by kernel_rfl) rfl (fun C5 hC5 => ?_)
                have k6 : w6.cell? ⟨X, 6, none⟩ = some (.slice none 0 0) := S6.out.bx.cell 6
                have f6 := S6.out.bx.free 6
                go_simp
                refine hC5 _ _ ⟨fun h => absurd rfl h, ?_⟩
                refine Hld.Run.done (by kernel_rfl) ?_ _
                clear hC5 C5
                have S7 := Lib.hid (S6.out.set 6 (.slice a6 m6 c6))
                have F7 := Lib.hid (S6.out.nds F6.out 6 (.slice a6 m6 c6))
                go_wp2_with fail
                go_meet
                exact ⟨σ3, f, K, 0, ⟨#[]⟩, kl, a6, m6, c6, S7, F7, HR5, HB4⟩
              · unfold thrown
                go_wp2_with fail
                exact ⟨rfl, thr_q ((GD.out.g.trans (Gr.below BM.out)).low hg (fun k hk hS => by rcases hS with e | e; exact .inl e; injection e with e; have := GD.out.g.size; omega)) (by rw [HR5.out]; exact ⟨rfl, rfl⟩) ⟨hn, ev, rfl, he⟩⟩
    case rest =>
      ·
        obtain ⟨σ', f', K', n, t, kids, a, mm, cc, S4, F4, hR4, hb4⟩ := hcut
        have k2 := S4.out.V.c2
        have k3 : wc.cell? ⟨X, 2, none⟩ = some (.int .i64 (σ.p : Nat)) := S4.out.bx.cell 2
        have k4 : wc.cell? ⟨X, 3, none⟩ = some (.int .i64 0) := S4.out.bx.cell 3
        have k5 := S4.out.bx.free 3
        have pb := hb4.out.1.2.2.2.2
        have pp := HP.out.p
        have i1 : ¬ ((σ'.p : Int) - (σ.p : Int) < -9223372036854775808) := by omega
        have HW : (σ'.p : Int) - (σ.p : Int) ≤ 100000 := by omega
        have i2 : -100000 ≤ (σ'.p : Int) - (σ.p : Int) := by omega
        clear pb pp
        have HS5 := Lib.hid ((S4.out.set 3 (.int .i64 ((σ'.p : Int) - (σ.p : Int)))).drew')
        have HF5 := Lib.hid ((S4.out.set 3 (.int .i64 ((σ'.p : Int) - (σ.p : Int)))).ndsGr (S4.out.nds F4.out 3 (.int .i64 ((σ'.p : Int) - (σ.p : Int)))) (Gr.below (Below.refl _ _).drew))
        have HS6 := Lib.hid ((S4.out.drew').set 3 (.int .i64 ((σ'.p : Int) - (σ.p : Int))))
        have HF6 := Lib.hid ((S4.out.drew').nds (S4.out.ndsGr F4.out (Gr.below (Below.refl _ _).drew)) 3 (.int .i64 ((σ'.p : Int) - (σ.p : Int))))
        go_upto_region 16 with fail
        go_cut [] (fun wx => Hid (QS W0 W G mo (.map (some fb)) s Rb X σ' f' K' [.string nm, .int .i64 kd, .int .i64 (σ.p : Nat), .int .i64 ((σ'.p : Int) - (σ.p : Int)), .int .i64 n, .string t, .slice a mm cc] wx) ∧ Hid (NdsF (X + 1) wx kids (.slice a mm cc)))
        case first =>
          go_region
          all_goals
            go_wp2_with fail
            go_meet
            first | exact ⟨HS5, HF5⟩ | exact ⟨HS6, HF6⟩
        case rest =>
          clear HS5 HF5 HS6 HF6 S4 F4 k2 k3 k4 k5 i1 HW i2 S2 t0 HR1
          obtain ⟨S6, F6⟩ := hcut
          obtain ⟨z, hz⟩ : ∃ z, (σ'.p : Int) - (σ.p : Int) = z := ⟨_, rfl⟩
          rw [hz] at S6 hR4
          clear hz
          have y0 : wc.cell? ⟨X, 0, none⟩ = some (.string nm) := S6.out.bx.cell 0
          have y1 : wc.cell? ⟨X, 1, none⟩ = some (.int .i64 kd) := S6.out.bx.cell 1
          have y2 : wc.cell? ⟨X, 2, none⟩ = some (.int .i64 (σ.p : Nat)) := S6.out.bx.cell 2
          have y3 : wc.cell? ⟨X, 3, none⟩ = some (.int .i64 z) := S6.out.bx.cell 3
          have y4 : wc.cell? ⟨X, 4, none⟩ = some (.int .i64 n) := S6.out.bx.cell 4
          have y5 : wc.cell? ⟨X, 5, none⟩ = some (.string t) := S6.out.bx.cell 5
          have y6 : wc.cell? ⟨X, 6, none⟩ = some (.slice a mm cc) := S6.out.bx.cell 6
          have r0 : wc.cell? ⟨Rb, 0, none⟩ = some (.string ⟨#[]⟩) := S6.out.rx.cell 0
          have r1 : wc.cell? ⟨Rb, 1, none⟩ = some (.int .i64 0) := S6.out.rx.cell 1
          have r2 : wc.cell? ⟨Rb, 2, none⟩ = some (.int .i64 0) := S6.out.rx.cell 2
          have r3 : wc.cell? ⟨Rb, 3, none⟩ = some (.int .i64 0) := S6.out.rx.cell 3
          have r4 : wc.cell? ⟨Rb, 4, none⟩ = some (.int .i64 0) := S6.out.rx.cell 4
          have r5 : wc.cell? ⟨Rb, 5, none⟩ = some (.string ⟨#[]⟩) := S6.out.rx.cell 5
          have r6 : wc.cell? ⟨Rb, 6, none⟩ = some (.slice none 0 0) := S6.out.rx.cell 6
          have g0 : ∀ j, wc.frozen? ⟨Rb, j, none⟩ = false := fun j => S6.out.rx.free j
          go_wp2_with fail
          refine bodyPost_ret (pone_results _ _ Rb (.string nm) (.int .i64 kd) (.int .i64 (σ.p : Nat)) (.int .i64 z) (.int .i64 n) (.string t) (.slice a mm cc) rfl (by go_simp) (by go_simp) (by go_simp) (by go_simp) (by go_simp) (by go_simp) (by go_simp)) rfl ?_
          exact S6.out.post F6.out hR4.out hb4.out.2 hb4.out.1 _ _ _ _ _ _ _
  · have HR1 := Lib.hid (HR.out.trans (if_pos hn))
    unfold thrown
    go_wp2_with fail
    exact ⟨rfl, thr_q ((Gr.below BA.out).trans (Gr.of hg2 (gm_G G mo))) (by rw [HR1.out]; exact ⟨rfl, rfl⟩) ⟨hn, ev, rfl, he⟩⟩
end
end Go.Proofs.YtkopjmofdnlplaaGreatDoor.Ly
