/-
  PROVED HERE: the contract of the document's view's one. Conditions: as each theorem states.
-/
import Derived.Test.YtkopjmofdnlplaaGreatDoorLyE
namespace Go.Proofs.YtkopjmofdnlplaaGreatDoor.Ly
open Go.RowKit Go.Proofs.YtkopjmofdnlplaaGreatDoor.Tm
section
variable {W0 : World} {ts : List Ty} {tv : Value} {s : ByteArray} {m : Nat}
theorem OS.num {W W1 w : World} {G I K : Nat} {mo : Option Nat} {xs : List Value} {σ : Vw} {f : Nf} {v0 v1 v2 v3 v5 v6 : Value} {n : Int} (h : OS W1 W G mo tv s I xs σ f K [v0, v1, v2, v3, .int .i64 n, v5, v6] w) (n2 : Int) : OS W1 W G mo tv s I xs σ f K [v0, v1, v2, v3, .int .i64 n2, v5, v6] (w.setCell ⟨I + 2, 4, none⟩ (.int .i64 n2)) ∧ w.cell? ⟨I + 2, 4, none⟩ = some (.int .i64 n) ∧ w.frozen? ⟨I + 2, 4, none⟩ = false := ⟨h.set 4 _, h.bx.cell 4, h.bx.free 4⟩
theorem itsT_wf {ts : List Ty} (hwf : ∀ t ∈ ts, WfL t.items ∧ t.items.length ≤ 16) (name : ByteArray) : WfL (itsT ts name) ∧ (itsT ts name).length ≤ 16 := by
  unfold itsT
  cases h : findT ts name with
  | none => exact ⟨trivial, Nat.zero_le _⟩
  | some t => exact hwf t (List.mem_of_find?_eq_some h)
set_option maxRecDepth 100000 in
set_option maxHeartbeats 4000000 in
theorem one_any (hT : TysAt W0 tv ts) (h8 : ts.length ≤ 8) (hwf : ∀ t ∈ ts, WfL t.items ∧ t.items.length ≤ 16) (HB : BlkC W0 ts tv s m) : OneC W0 ts tv s (m + 1) := by
  intro G mo σ f K W x cv iv P hc hx hw hm hmo
  have HMo := Lib.hid hmo
  clear hmo
  have HP := Lib.hid P
  have HX := Lib.hid hx
  have HW := Lib.hid hw
  have HH := Lib.hid HB
  have HTy := Lib.hid hT
  have HWf := Lib.hid hwf
  obtain ⟨R, hR⟩ : ∃ R, oneD ts s (m + 1) x σ f = R := ⟨_, rfl⟩
  rw [hR]
  have HR := Lib.hid (show oneG numD (itsT ts) s (blkD ts s m) x σ f = R from hR)
  obtain ⟨xs, hxs⟩ : ∃ xs, itVals x cv iv = xs := ⟨_, rfl⟩
  have HXS := Lib.hid hxs
  obtain ⟨pc, rfl⟩ := ct_ptr ((itAt_iff _ _ _ _).1 hx).1
  obtain ⟨ia, im, ic, rfl⟩ := its_slice ((itAt_iff _ _ _ _).1 hx).2
  have hxe : (itVals x (.pointer pc) (.slice ia im ic)).toArray = #[.int .i64 x.kind, .int .i64 x.at_, .string x.name, .string x.type, .int .i64 x.width, .int .i64 x.order, .bool x.signed, .bool x.many, .pointer pc, .int .i64 x.rule, .string x.first, .string x.last, .slice ia im ic] := rfl
  rw [hxe]
  have c2 := P.V.c2
  have hGlt := P.V.lt
  have G0 := Lib.hid (P.V)
  have hk0 := P.kc hc
  clear P hx hw HB hT hwf hR hxe hc
  obtain ⟨kd, hkd⟩ : ∃ k, x.kind = k := ⟨_, rfl⟩
  obtain ⟨nm, hnm⟩ : ∃ k, x.name = k := ⟨_, rfl⟩
  obtain ⟨ty, hty⟩ : ∃ k, x.type = k := ⟨_, rfl⟩
  obtain ⟨wd, hwd⟩ : ∃ k, x.width = k := ⟨_, rfl⟩
  obtain ⟨od, hod⟩ : ∃ k, x.order = k := ⟨_, rfl⟩
  obtain ⟨sg, hsg⟩ : ∃ k, x.signed = k := ⟨_, rfl⟩
  rw [hkd, hnm, hty, hwd, hod, hsg]
  go_enter Tryz.func35, Tryz.ntmps35
  go_wp2_with fail
  obtain ⟨wa, hwa⟩ : ∃ wa, wa = (W.alloc (.cells #[.int .i64 kd, .int .i64 x.at_, .string nm, .string ty, .int .i64 wd, .int .i64 od, .bool sg, .bool x.many, .pointer pc, .int .i64 x.rule, .string x.first, .string x.last, .slice ia im ic] 78)).alloc (.cells #[.string ⟨#[]⟩, .int .i64 0, .int .i64 0, .int .i64 0, .int .i64 0, .string ⟨#[]⟩, .slice none 0 0] 27) := ⟨_, rfl⟩
  have ba : Below W.heap.size W wa := by rw [hwa]; exact ((Below.refl _ _).alloc (Nat.le_refl _) _).alloc (by simp) _
  have la : wa.heap.size = W.heap.size + 2 := by rw [hwa]; simp
  have ia0 : IB wa W.heap.size (itVals x (.pointer pc) (.slice ia im ic)) := by
    rw [hwa]
    refine (heap_alloc_old _ _ (by simp)).trans ?_
    rw [← hkd, ← hnm, ← hty, ← hwd, ← hod, ← hsg]
    exact IB.new _ _
  have ra0 : NB wa (W.heap.size + 1) nd0 := by
    rw [hwa]
    have := NB.new (W.alloc (.cells #[.int .i64 kd, .int .i64 x.at_, .string nm, .string ty, .int .i64 wd, .int .i64 od, .bool sg, .bool x.many, .pointer pc, .int .i64 x.rule, .string x.first, .string x.last, .slice ia im ic] 78)) nd0
    rw [show (W.alloc (.cells #[.int .i64 kd, .int .i64 x.at_, .string nm, .string ty, .int .i64 wd, .int .i64 od, .bool sg, .bool x.many, .pointer pc, .int .i64 x.rule, .string x.first, .string x.last, .slice ia im ic] 78)).heap.size = W.heap.size + 1 by simp] at this
    exact this
  rw [← hwa]
  clear hwa
  have y0 : wa.cell? ⟨W.heap.size, 0, none⟩ = some (.int .i64 kd) := by rw [← hkd]; exact ia0.cell 0
  have y2 : wa.cell? ⟨W.heap.size, 2, none⟩ = some (.string nm) := by rw [← hnm]; exact ia0.cell 2
  have c2 := keepCell ba c2
  have hG2 : G < wa.heap.size := by omega
  have hI2 : W.heap.size < wa.heap.size := by omega
  have BA := Lib.hid ba
  have LA := Lib.hid la
  have IA := Lib.hid ia0
  have RA := Lib.hid ra0
  clear ba la ia0 ra0
  obtain ⟨I, hI⟩ : ∃ I, W.heap.size = I := ⟨_, rfl⟩
  have HI := Lib.hid hI
  rw [hI] at y0 y2 hI2 LA IA RA ⊢
  clear hI
  have HS1 := Lib.hid (show OS W0 W G mo tv s I (itVals x (.pointer pc) (.slice ia im ic)) σ f K [.string nm, .int .i64 kd, .int .i64 (σ.p : Nat), .int .i64 0, .int .i64 0, .string ⟨#[]⟩, .slice none 0 0] ((wa.alloc (.cells #[.string nm, .int .i64 kd, .int .i64 (σ.p : Nat), .int .i64 0, .int .i64 0, .string ⟨#[]⟩, .slice none 0 0] 27)).drew) from by
    have P := HP.out
    have hI := HI.out
    have la := LA.out
    have bb : Below wa.heap.size wa ((wa.alloc (.cells #[.string nm, .int .i64 kd, .int .i64 (σ.p : Nat), .int .i64 0, .int .i64 0, .string ⟨#[]⟩, .slice none 0 0] 27)).drew) := ((Below.refl _ _).alloc (Nat.le_refl _) _).drew
    have b2 : Gr (GM G mo) W ((wa.alloc (.cells #[.string nm, .int .i64 kd, .int .i64 (σ.p : Nat), .int .i64 0, .int .i64 0, .string ⟨#[]⟩, .slice none 0 0] 27)).drew) := (Gr.below BA.out).trans (Gr.below bb)
    have b3 : Gr (fun _ => False) W ((wa.alloc (.cells #[.string nm, .int .i64 kd, .int .i64 (σ.p : Nat), .int .i64 0, .int .i64 0, .string ⟨#[]⟩, .slice none 0 0] 27)).drew) := (Gr.below BA.out).trans (Gr.below bb)
    have hNB := NB.new wa [.string nm, .int .i64 kd, .int .i64 (σ.p : Nat), .int .i64 0, .int .i64 0, .string ⟨#[]⟩, .slice none 0 0]
    rw [la] at hNB
    have ba := BA.out
    refine ⟨Gr.to_below P.b0 b3 P.b0.size (fun _ _ h => h), (P.V.below ba).below bb, b2, (P.N.below ba).below bb, IB.gr IA.out (Gr.below (S := fun _ => False) bb) id, RA.out.gr (Gr.below (S := fun _ => False) bb) id, hNB, Nat.le_of_eq hI, P.V.lt, fun b hb => ⟨?_, (P.hm b hb).2⟩, P.b0.size, P.hG, fun b hb => (P.hm b hb).1⟩
    have := P.N.lt b hb
    omega)
  clear BA RA IA
  go_cut [7] (fun v7 wx => v7 = .pointer (some ⟨I + 2, 0, none⟩) ∧ Hid (OS W0 W G mo tv s I (itVals x (.pointer pc) (.slice ia im ic)) σ f K [.string nm, .int .i64 kd, .int .i64 (σ.p : Nat), .int .i64 0, .int .i64 0, .string ⟨#[]⟩, .slice none 0 0] wx))
  case first =>
    go_region
    all_goals
      go_wp2_with fail
      go_meet
      exact ⟨by rw [LA.out], HS1⟩
  case rest =>
    clear HS1 y0 y2 c2 hG2 hI2 LA G0
    obtain ⟨rfl, hs1⟩ := hcut
    have S1 := Lib.hid hs1.out
    clear hs1
    have hW1 := (wfI_iff _).1 HW.out
    have hB := begV_facts σ
    have C := Lib.hid (begin_any S1.out.V (by omega))
    obtain ⟨σ1, hσ1⟩ : ∃ v, begV σ = v := ⟨_, rfl⟩
    have HR0 := Lib.hid (show R = _ from HR.out.symm)
    clear HR
    unfold oneG at HR0
    simp only [hkd, hnm, hty, hwd, hod, hsg] at HR0
    rw [hσ1] at HR0 C hB
    clear hσ1
    go_wp2_with fail
    refine (C.out).mono ?_; rintro e' w2 ⟨rfl, hst⟩
    have S2 := Lib.hid (S1.out.view hst)
    have c4 := S2.out.V.c4
    have c5 := S2.out.V.c5
    have CI := Lib.hid (is_any σ1.c σ1.a w2)
    clear C S1 hst
    by_cases h1 : σ1.c = 0
    · have e0 : (σ1.c == 0) = true := by simpa using h1
      rw [e0] at CI
      have HR1 := Lib.hid (HR0.out.trans (if_neg (by simp [h1])))
      clear HR0
      have B1 := Lib.hid hB
      obtain ⟨hp1, hk1, hkk⟩ := hB
      have hk2 := (hkk h1).1
      have H1 := Lib.hid h1
      have hps : σ1.p ≤ s.size := by rw [hp1]; exact HP.out.p
      clear e0 h1 hkk
      go_wp2_with fail
      refine (CI.out).mono ?_; rintro e' w3 ⟨rfl, hb⟩
      have S3 := Lib.hid (S2.out.below hb)
      clear S2 CI c4 c5 hb
      have t0 : w3.cell? ⟨I, 0, none⟩ = some (.int .i64 kd) := by rw [← hkd]; exact S3.out.ix.cell 0
      go_upto_block 0 with fail
      go_cut [] (fun wx => MidR W0 W G mo tv s I (itVals x (.pointer pc) (.slice ia im ic)) nm kd σ.p K σ.k R wx)
      case first =>
        have x3 : w3.cell? ⟨I, 3, none⟩ = some (.string ty) := by rw [← hty]; exact S3.out.ix.cell 3
        have x4 : w3.cell? ⟨I, 4, none⟩ = some (.int .i64 wd) := by rw [← hwd]; exact S3.out.ix.cell 4
        have x5 : w3.cell? ⟨I, 5, none⟩ = some (.int .i64 od) := by rw [← hod]; exact S3.out.ix.cell 5
        have x6 : w3.cell? ⟨I, 6, none⟩ = some (.bool sg) := by rw [← hsg]; exact S3.out.ix.cell 6
        have x8 : w3.cell? ⟨I, 8, none⟩ = some (.pointer pc) := S3.out.ix.cell 8
        have x12 : w3.cell? ⟨I, 12, none⟩ = some (.slice ia im ic) := S3.out.ix.cell 12
        have hs3 := HP.out.hs
        by_cases q1 : kd = 1
        · obtain rfl : kd = 1 := q1
          have HR2 := Lib.hid (HR1.out.trans (if_pos rfl))
          clear HR1
          ·
            have hwide := hW1.1.wide hkd
            have hord := hW1.1.ord
            rw [hwd] at hwide
            rw [hod] at hord
            have hF := bytV_facts s wd σ1 hps
            have C := Lib.hid (bytes_any S3.out.V wd hps (by omega))
            obtain ⟨⟨r, σ2⟩, hr⟩ : ∃ q, bytV s wd σ1 = q := ⟨_, rfl⟩
            rw [hr] at HR2 hF C
            simp only at HR2 hF C
            clear hr x3 x8 x12
            go_wp2_with fail
            refine (C.out).mono ?_; rintro e' w4 ⟨rfl, hst⟩
            have S4 := Lib.hid (S3.out.view hst)
            have x4 : w4.cell? ⟨I, 4, none⟩ = some (.int .i64 wd) := by rw [← hwd]; exact S4.out.ix.cell 4
            have x5 : w4.cell? ⟨I, 5, none⟩ = some (.int .i64 od) := by rw [← hod]; exact S4.out.ix.cell 5
            have x6 : w4.cell? ⟨I, 6, none⟩ = some (.bool sg) := by rw [← hsg]; exact S4.out.ix.cell 6
            have HB4 := Lib.hid (show Bds s K σ.k K σ2 from ⟨by omega, by omega, by omega, fun e => by have := hF.2.1 e; omega, hF.2.2.1⟩)
            clear C S3 t0 hst
            by_cases hz : r = emp
            · have e1 : (r.toList == []) = true := tl_yes (a := #[]) hz
              have HR := Lib.hid (show R = (.mk nm 1 σ.p ((σ2.p : Int) - (σ.p : Int)) 0 emp [], σ2, f) by rw [HR2.out, numV, if_pos hz])
              clear hz hF HR2
              go_wp2_with fail
              go_meet
              exact ⟨σ2, f, K, 0, ⟨#[]⟩, [], none, 0, 0, S4, Lib.hid (nds_nil _ _), HR, HB4⟩
            · have e1 : (r.toList == []) = false := tl_no (a := #[]) hz
              have hsz : (r.size : Int) = wd := by rcases hF.2.2.2 with e | e; exact absurd e hz; exact e
              have HR := Lib.hid (show R = (.mk nm 1 σ.p ((σ2.p : Int) - (σ.p : Int)) (numD wd od sg r) emp [], σ2, f) by rw [HR2.out, numV, if_neg hz])
              clear hz hF HR2
              obtain ⟨wn, rfl⟩ : ∃ n : Nat, wd = (n : Int) := ⟨wd.toNat, by omega⟩
              obtain ⟨on, rfl⟩ : ∃ n : Nat, od = (n : Int) := ⟨od.toNat, by omega⟩
              have hn8 : wn ≤ 8 := by omega
              have C := Lib.hid (Word.docGet_yes r 0 wn on (by omega) ⟨by omega, by omega⟩ hn8 (by omega) (by omega) (by omega) w4)
              have hu1 := Word.leV_lt (Word.src r 0 wn on) (fun k => Word.src_lt r 0 wn on k) wn
              have hu2 := Word.pow256 wn hn8
              have HN : Hid (numD (wn : Int) (on : Int) sg r = if sg = true then Ws.sgn (Word.leV (Word.src r 0 wn on) wn : Nat) wn else wrap64 (Word.leV (Word.src r 0 wn on) wn : Nat)) := Lib.hid (by unfold numD uD; simp only [Int.toNat_natCast])
              obtain ⟨u, hu⟩ : ∃ u, Word.leV (Word.src r 0 wn on) wn = u := ⟨_, rfl⟩
              rw [hu] at C HN hu1
              rw [show ((0 : Nat) : Int) = 0 from rfl] at C
              have hu3 : (u : Int) ≤ 18446744073709551615 := by omega
              have hu4 : (0 : Int) ≤ (u : Int) := by omega
              have hu5 : u ≤ 18446744073709551615 := by omega
              clear hu hu1 hu2
              have k4 : w4.cell? ⟨I + 2, 4, none⟩ = some (.int .i64 0) := S4.out.bx.cell 4
              have f4 := S4.out.bx.free 4
              go_wp2_with fail
              refine (C.out).mono ?_; rintro e' w5 ⟨rfl, rfl⟩
              have S5 := Lib.hid (S4.out.num (wrap64 (u : Nat))).1
              cases sg with
              | false =>
                have HN2 := Lib.hid (HN.out.trans (if_neg (by decide)))
                clear HN
                go_wp2_with fail
                go_meet
                exact ⟨σ2, f, K, _, ⟨#[]⟩, [], none, 0, 0, S5, Lib.hid (nds_nil _ _), Lib.hid (by rw [HR.out, HN2.out]; rfl), HB4⟩
              | true =>
                have HN2 := Lib.hid (HN.out.trans (if_pos rfl))
                clear HN
                go_wp2_with fail
                refine (Ws.signed_doc (u : Nat) wn hu4 hu3 _).mono ?_; rintro e' w6 ⟨rfl, rfl⟩
                generalize w4.setCell ⟨I + 2, 4, none⟩ (.int .i64 (wrap64 (u : Nat))) = w5 at *
                have HR3 := Lib.hid (show R = (.mk nm 1 σ.p ((σ2.p : Int) - (σ.p : Int)) (Ws.sgn (u : Nat) wn) emp [], σ2, f) by rw [HR.out, HN2.out])
                clear HR HN2
                generalize Ws.sgn (u : Nat) wn = g at *
                obtain ⟨S6, k4, f4⟩ := S5.out.num g
                generalize wrap64 (u : Nat) = g0 at *
                have S6 := Lib.hid S6
                go_wp2_with fail
                go_meet
                exact ⟨σ2, f, K, g, ⟨#[]⟩, [], none, 0, 0, S6, Lib.hid (nds_nil _ _), HR3, HB4⟩
        · have HR2 := Lib.hid (HR1.out.trans (if_neg q1))
          clear HR1
          by_cases q2 : kd = 2
          · obtain rfl : kd = 2 := q2
            have HR3 := Lib.hid (HR2.out.trans (if_pos rfl))
            clear HR2
            ·
              obtain ⟨e, he⟩ : ∃ e, x.count = some e := Option.ne_none_iff_exists'.1 (hW1.1.cnt (.inl hkd))
              have hex : ExAt W0 e (.pointer pc) := by
                have := ((itAt_iff _ _ _ _).1 HX.out).1
                rw [he] at this
                exact this
              have hok := (hW1.1.sz e he).2
              rw [he] at HR3
              simp only [evO] at HR3
              have C := Lib.hid (count_any S3.out.V e (.pointer pc) mo f hok (ExAt.below S3.out.b0 e _ hex) S3.out.N.nms)
              have hC := cntV_facts (evalF f e) σ1
              obtain ⟨σ2, hσ2⟩ : ∃ v, cntV (evalF f e) σ1 = v := ⟨_, rfl⟩
              obtain ⟨n, hn⟩ : ∃ n, (evalF f e).1 = n := ⟨_, rfl⟩
              rw [hσ2] at C hC HR3
              rw [hn] at C HR3
              clear hσ2 hn hok hex he
              have hp2 : σ2.p ≤ s.size := by rw [hC.1]; exact hps
              have hF := bytV_facts s n σ2 hp2
              go_wp2_with fail
              refine (C.out).mono ?_; rintro e' w4 ⟨rfl, hst⟩
              have S4 := Lib.hid (S3.out.view hst)
              clear C S3 t0 x3 x4 x5 x6 x8 x12 hst
              have C := Lib.hid (bytes_any S4.out.V n hp2 (by omega))
              obtain ⟨⟨r, σ3⟩, hr⟩ : ∃ q, bytV s n σ2 = q := ⟨_, rfl⟩
              rw [hr] at HR3 hF C
              simp only at HR3 hF C
              clear hr
              have HB4 := Lib.hid (show Bds s K σ.k K σ3 from ⟨by omega, by omega, by omega, fun e => by have := hC.2.2 (hF.2.1 e); omega, hF.2.2.1⟩)
              go_wp2_with fail
              refine (C.out).mono ?_; rintro e' w5 ⟨rfl, hst⟩
              have S5 := Lib.hid (S4.out.view hst)
              clear C S4 hst hF
              have k5 : w5.cell? ⟨I + 2, 5, none⟩ = some (.string ⟨#[]⟩) := S5.out.bx.cell 5
              have f5 := S5.out.bx.free 5
              have S6 := Lib.hid (S5.out.set 5 (.string r))
              go_wp2_with fail
              go_meet
              exact ⟨σ3, f, K, 0, r, [], none, 0, 0, S6, Lib.hid (nds_nil _ _), HR3, HB4⟩
          · have HR3 := Lib.hid (HR2.out.trans (if_neg q2))
            clear HR2
            by_cases q4 : kd = 4
            · obtain rfl : kd = 4 := q4
              have HR4 := Lib.hid (HR3.out.trans (if_pos rfl))
              clear HR3
              ·
                obtain ⟨e, he⟩ : ∃ e, x.count = some e := Option.ne_none_iff_exists'.1 (hW1.1.cnt (.inr (.inl hkd)))
                have hex : ExAt W0 e (.pointer pc) := by
                  have := ((itAt_iff _ _ _ _).1 HX.out).1
                  rw [he] at this
                  exact this
                have hits : ItsAt W0 (.slice ia im ic) x.items := ((itAt_iff _ _ _ _).1 HX.out).2
                have hok := (hW1.1.sz e he).2
                rw [he] at HR4
                simp only [evO] at HR4
                have C := Lib.hid (count_any S3.out.V e (.pointer pc) mo f hok (ExAt.below S3.out.b0 e _ hex) S3.out.N.nms)
                have hC := cntV_facts (evalF f e) σ1
                obtain ⟨σ2, hσ2⟩ : ∃ v, cntV (evalF f e) σ1 = v := ⟨_, rfl⟩
                obtain ⟨n, hn⟩ : ∃ n, (evalF f e).1 = n := ⟨_, rfl⟩
                rw [hσ2] at C hC HR4
                have HN0 := Lib.hid hn
                rw [hn] at C
                clear hσ2 hn hok hex he
                have hp2 : σ2.p ≤ s.size := by rw [hC.1]; exact hps
                go_wp2_with fail
                refine (C.out).mono ?_; rintro e' w4 ⟨rfl, hst⟩
                have S4 := Lib.hid (S3.out.view hst)
                have x12 : w4.cell? ⟨I, 12, none⟩ = some (.slice ia im ic) := S4.out.ix.cell 12
                clear C S3 t0 x3 x4 x5 x6 x8 hst
                by_cases hn : n = 0
                · obtain rfl : n = 0 := hn
                  have HR5 := Lib.hid (HR4.out.trans (if_neg (fun h => h HN0.out)))
                  clear HR4
                  have HB4 := Lib.hid (show Bds s K σ.k K σ2 from ⟨by omega, by omega, by omega, fun e => by have := hC.2.2 e; omega, hp2⟩)
                  go_wp2_with fail
                  go_meet
                  exact ⟨σ2, f, K, 0, ⟨#[]⟩, [], none, 0, 0, S4, Lib.hid (nds_nil _ _), HR5, HB4⟩
                · have HR5 := Lib.hid (HR4.out.trans (if_pos (fun h => hn (HN0.out.symm.trans h))))
                  clear HR4
                  obtain ⟨S5, k4, f4⟩ := S4.out.num 1
                  have kK := HP.out.kK
                  have C := Lib.hid (HH.out G mo σ2 f K _ x.items (.slice ia im ic) (S5.op (by omega) (by omega) (fun e => by have := hC.2.2 e; omega) hp2 hs3) hits hW1.2 (by omega) (HMo.out.resolve_right (by rw [hkd]; decide)) hW1.1.few)
                  have S5 := Lib.hid S5
                  have x12 : (w4.setCell ⟨I + 2, 4, none⟩ (.int .i64 1)).cell? ⟨I, 12, none⟩ = some (.slice ia im ic) := S5.out.ix.cell 12
                  clear hits S4
                  go_wp2_with fail
                  generalize w4.setCell ⟨I + 2, 4, none⟩ (.int .i64 1) = w5 at *
                  refine (C.out).mono ?_; rintro e' w6 ⟨kv, rfl, hV, hg, hN, h1, h2, h3, h4, hF, a6, m6, c6, rfl⟩
                  obtain ⟨⟨kl, σ3, f3⟩, hb⟩ : ∃ q, blkD ts s m x.items σ2 f = q := ⟨_, rfl⟩
                  rw [hb] at hV hN h1 h2 h3 h4 hF HR5
                  simp only at hV hN h1 h2 h3 h4 hF HR5
                  clear hb C
                  have hlt := S5.out.bx.lt
                  have S6 := Lib.hid (S5.out.gr hg hV hN)
                  have F6 := Lib.hid (Fw.low hF (show I + 3 ≤ w5.heap.size by omega))
                  have HB4 := Lib.hid (show Bds s K σ.k (K + (σ3.k - σ2.k)) σ3 from ⟨by omega, by omega, h2, h3, h4⟩)
                  clear S5 hV hg hN h1 h2 h3 h4 hF
                  have k6 : w6.cell? ⟨I + 2, 6, none⟩ = some (.slice none 0 0) := S6.out.bx.cell 6
                  have f6 := S6.out.bx.free 6
                  have S7 := Lib.hid (S6.out.set 6 (.slice a6 m6 c6))
                  have F7 := Lib.hid (S6.out.nds F6.out 6 (.slice a6 m6 c6))
                  go_wp2_with fail
                  go_meet
                  exact ⟨σ3, f3, _, 1, ⟨#[]⟩, kl, a6, m6, c6, S7, F7, HR5, HB4⟩
            · have HR4 := Lib.hid (HR3.out.trans (if_neg q4))
              clear HR3
              ·
                have hk := hW1.1.kind
                rw [hkd] at hk
                obtain rfl : kd = 3 := by omega
                have HX3 := Lib.hid S3.out.b0.drew
                have c0 := S3.out.V.c0
                go_upto_region 6 with fail
                go_cut [11] (fun v11 wx => ∃ a m c, v11 = .slice a m c ∧ Hid (OS W0 W G mo tv s I (itVals x (.pointer pc) (.slice ia im ic)) σ1 f K [.string nm, .int .i64 3, .int .i64 (σ.p : Nat), .int .i64 0, .int .i64 0, .string ⟨#[]⟩, .slice none 0 0] wx) ∧ Hid (ItsAt W0 (.slice a m c) (itsT ts ty)))
                case first =>
                  go_region_with (first | (go_at_call 33; refine (itemsOf_any W0 ts tv ty _ HTy.out HX3.out h8).mono ?_; rintro e w4 ⟨iv, rfl, hb, hit, a4, m4, c4, rfl⟩; have S4 := Lib.hid (S3.out.drew'.below hb); have HIT := Lib.hid hit; clear hb hit))
                  all_goals
                    go_wp2_with fail
                    go_meet
                    exact ⟨_, _, _, rfl, S4, HIT⟩
                case rest =>
                  obtain ⟨a4, m4, c4, rfl, S4, HIT⟩ := hcut
                  clear S3 t0 x3 x4 x5 x6 x8 x12 c0 HX3
                  have hlt := S4.out.g.size
                  have hbl := S4.out.bx.lt
                  have bm : Below wc.heap.size wc (wc.alloc (.map #[] 0)) := (Below.refl _ _).alloc (Nat.le_refl _) _
                  have P2 : OP W0 G (some wc.heap.size) tv s σ1 nf0 0 (wc.alloc (.map #[] 0)) := ⟨S4.out.b0.alloc S4.out.b0.size _, S4.out.lG, fun b hb => by
                    injection hb with hb
                    subst hb
                    exact ⟨Nat.le_trans S4.out.lo hlt, by have := S4.out.hG; omega⟩, S4.out.V.below bm, nmW_new wc, Nat.zero_le _, by omega, fun _ => by omega, hps, hs3⟩
                  have C := Lib.hid (HH.out G (some wc.heap.size) σ1 nf0 0 _ (itsT ts ty) (.slice a4 m4 c4) P2 HIT.out (itsT_wf HWf.out ty).1 (by omega) (fun h => by cases h) (itsT_wf HWf.out ty).2)
                  have BM := Lib.hid bm
                  have HSZ := Lib.hid (show I + 3 ≤ (wc.alloc (.map #[] 0)).heap.size by simp; omega)
                  clear bm P2 HIT hlt hbl
                  have hmm := @run_makeMap Tryz.prog
                  go_wp2_with fail
                  clear hmm
                  refine (C.out).mono ?_; rintro e' w6 ⟨kv, rfl, hV, hg, hN, h1, h2, h3, h4, hF, a6, m6, c6, rfl⟩
                  have HR5 := Lib.hid HR4.out
                  clear HR4
                  obtain ⟨⟨kl, σ3, f3⟩, hb⟩ : ∃ q, blkD ts s m (itsT ts ty) σ1 nf0 = q := ⟨_, rfl⟩
                  rw [hb] at hV hN h1 h2 h3 h4 hF HR5
                  simp only at hV hN h1 h2 h3 h4 hF HR5
                  clear hb C
                  have S6 := Lib.hid (S4.out.own ((Gr.below BM.out).trans hg) (Nat.le_refl _) hV)
                  have F6 := Lib.hid (Fw.low hF HSZ.out)
                  have HB4 := Lib.hid (show Bds s K σ.k K σ3 from ⟨by omega, by omega, h2, h3, h4⟩)
                  clear S4 hV hg hN h1 h2 h3 h4 hF BM HSZ
                  have k6 : w6.cell? ⟨I + 2, 6, none⟩ = some (.slice none 0 0) := S6.out.bx.cell 6
                  have f6 := S6.out.bx.free 6
                  have S7 := Lib.hid (S6.out.set 6 (.slice a6 m6 c6))
                  have F7 := Lib.hid (S6.out.nds F6.out 6 (.slice a6 m6 c6))
                  go_wp2_with fail
                  go_meet
                  exact ⟨σ3, f, K, 0, ⟨#[]⟩, kl, a6, m6, c6, S7, F7, HR5, HB4⟩
      case rest =>
        clear S3 t0 HR1
        ·
          obtain ⟨σ', f', K', n, t, kids, a, mm, cc, S4, F4, hR4, hb4⟩ := hcut
          have HI3 := Lib.hid S4.out.hI
          have k2 := S4.out.V.c2
          have k3 : wc.cell? ⟨I + 2, 2, none⟩ = some (.int .i64 (σ.p : Nat)) := S4.out.bx.cell 2
          have k4 : wc.cell? ⟨I + 2, 3, none⟩ = some (.int .i64 0) := S4.out.bx.cell 3
          have k5 := S4.out.bx.free 3
          have pb := hb4.out.2.2.2.2
          have ss := HP.out.hs
          have pp := HP.out.p
          have i1 : ¬ ((σ'.p : Int) - (σ.p : Int) < -9223372036854775808) := by omega
          have HW : (σ'.p : Int) - (σ.p : Int) ≤ 100000 := by omega
          have i2 : -100000 ≤ (σ'.p : Int) - (σ.p : Int) := by omega
          clear pb ss pp
          have HS5 := Lib.hid ((S4.out.drew').set 3 (.int .i64 ((σ'.p : Int) - (σ.p : Int))))
          have HF5 := Lib.hid ((S4.out.drew').nds (S4.out.ndsGr F4.out (Gr.below (Below.refl _ _).drew)) 3 (.int .i64 ((σ'.p : Int) - (σ.p : Int))))
          go_upto_region 21 with fail
          go_cut [] (fun wx => Hid (OS W0 W G mo tv s I (itVals x (.pointer pc) (.slice ia im ic)) σ' f' K' [.string nm, .int .i64 kd, .int .i64 (σ.p : Nat), .int .i64 ((σ'.p : Int) - (σ.p : Int)), .int .i64 n, .string t, .slice a mm cc] wx) ∧ Hid (NdsF (I + 3) wx kids (.slice a mm cc)))
          case first =>
            go_region
            all_goals
              go_wp2_with fail
              go_meet
              exact ⟨HS5, HF5⟩
          case rest =>
            clear HS5 HF5 S4 F4 k2 k3 k4 k5 i1 HW i2
            obtain ⟨S6, F6⟩ := hcut
            have y0 : wc.cell? ⟨I + 2, 0, none⟩ = some (.string nm) := S6.out.bx.cell 0
            have y1 : wc.cell? ⟨I + 2, 1, none⟩ = some (.int .i64 kd) := S6.out.bx.cell 1
            have y2 : wc.cell? ⟨I + 2, 2, none⟩ = some (.int .i64 (σ.p : Nat)) := S6.out.bx.cell 2
            have y3 : wc.cell? ⟨I + 2, 3, none⟩ = some (.int .i64 ((σ'.p : Int) - (σ.p : Int))) := S6.out.bx.cell 3
            have y4 : wc.cell? ⟨I + 2, 4, none⟩ = some (.int .i64 n) := S6.out.bx.cell 4
            have y5 : wc.cell? ⟨I + 2, 5, none⟩ = some (.string t) := S6.out.bx.cell 5
            have y6 : wc.cell? ⟨I + 2, 6, none⟩ = some (.slice a mm cc) := S6.out.bx.cell 6
            have r0 : wc.cell? ⟨I + 1, 0, none⟩ = some (.string ⟨#[]⟩) := S6.out.rx.cell 0
            have g0 := S6.out.rx.free 0
            have r1 : wc.cell? ⟨I + 1, 1, none⟩ = some (.int .i64 0) := S6.out.rx.cell 1
            have g1 := S6.out.rx.free 1
            have r2 : wc.cell? ⟨I + 1, 2, none⟩ = some (.int .i64 0) := S6.out.rx.cell 2
            have g2 := S6.out.rx.free 2
            have r3 : wc.cell? ⟨I + 1, 3, none⟩ = some (.int .i64 0) := S6.out.rx.cell 3
            have g3 := S6.out.rx.free 3
            have r4 : wc.cell? ⟨I + 1, 4, none⟩ = some (.int .i64 0) := S6.out.rx.cell 4
            have g4 := S6.out.rx.free 4
            have r5 : wc.cell? ⟨I + 1, 5, none⟩ = some (.string ⟨#[]⟩) := S6.out.rx.cell 5
            have g5 := S6.out.rx.free 5
            have r6 : wc.cell? ⟨I + 1, 6, none⟩ = some (.slice none 0 0) := S6.out.rx.cell 6
            have g6 := S6.out.rx.free 6
            go_wp2_with fail
            have Q := Lib.hid ((((((((S6.out.rs F6.out).set 0 (.string nm)).set 1 (.int .i64 kd)).set 2 (.int .i64 (σ.p : Nat))).set 3 (.int .i64 ((σ'.p : Int) - (σ.p : Int)))).set 4 (.int .i64 n)).set 5 (.string t)).set 6 (.slice a mm cc))
            clear y0 r0 g0 y1 r1 g1 y2 r2 g2 y3 r3 g3 y4 r4 g4 y5 r5 g5 y6 r6 g6
            generalize (((((((wc.setCell ⟨I + 1, 0, none⟩ (.string nm)).setCell ⟨I + 1, 1, none⟩ (.int .i64 kd)).setCell ⟨I + 1, 2, none⟩ (.int .i64 (σ.p : Nat))).setCell ⟨I + 1, 3, none⟩ (.int .i64 ((σ'.p : Int) - (σ.p : Int)))).setCell ⟨I + 1, 4, none⟩ (.int .i64 n)).setCell ⟨I + 1, 5, none⟩ (.string t)).setCell ⟨I + 1, 6, none⟩ (.slice a mm cc)) = w9 at *
            refine bodyPost_ret (one_results _ _ (I + 1) _ _ _ _ _ _ _ rfl Q.out.rx) rfl ?_
            exact Q.out.post hR4.out hb4.out
    · have e0 : (σ1.c == 0) = false := by simpa using h1
      rw [e0] at CI
      have HR := Lib.hid (HR0.out.trans (if_pos h1))
      clear HR0
      have HB1 := Lib.hid (show Bds s K σ.k K σ1 from ⟨by omega, by omega, by omega, fun e => absurd e h1, by rw [hB.1]; exact HP.out.p⟩)
      clear e0 h1 hB
      go_wp2_with fail
      refine (CI.out).mono ?_; rintro e' w3 ⟨rfl, hb⟩
      have S3 := Lib.hid (S2.out.below hb)
      clear S2 CI c4 c5 hb
      have y0 : w3.cell? ⟨I + 2, 0, none⟩ = some (.string nm) := S3.out.bx.cell 0
      have y1 : w3.cell? ⟨I + 2, 1, none⟩ = some (.int .i64 kd) := S3.out.bx.cell 1
      have y2 : w3.cell? ⟨I + 2, 2, none⟩ = some (.int .i64 (σ.p : Nat)) := S3.out.bx.cell 2
      have y3 : w3.cell? ⟨I + 2, 3, none⟩ = some (.int .i64 0) := S3.out.bx.cell 3
      have y4 : w3.cell? ⟨I + 2, 4, none⟩ = some (.int .i64 0) := S3.out.bx.cell 4
      have y5 : w3.cell? ⟨I + 2, 5, none⟩ = some (.string ⟨#[]⟩) := S3.out.bx.cell 5
      have y6 : w3.cell? ⟨I + 2, 6, none⟩ = some (.slice none 0 0) := S3.out.bx.cell 6
      have r0 : w3.cell? ⟨I + 1, 0, none⟩ = some (.string ⟨#[]⟩) := S3.out.rx.cell 0
      have g0 := S3.out.rx.free 0
      have r1 : w3.cell? ⟨I + 1, 1, none⟩ = some (.int .i64 0) := S3.out.rx.cell 1
      have g1 := S3.out.rx.free 1
      have r2 : w3.cell? ⟨I + 1, 2, none⟩ = some (.int .i64 0) := S3.out.rx.cell 2
      have g2 := S3.out.rx.free 2
      have r3 : w3.cell? ⟨I + 1, 3, none⟩ = some (.int .i64 0) := S3.out.rx.cell 3
      have g3 := S3.out.rx.free 3
      have r4 : w3.cell? ⟨I + 1, 4, none⟩ = some (.int .i64 0) := S3.out.rx.cell 4
      have g4 := S3.out.rx.free 4
      have r5 : w3.cell? ⟨I + 1, 5, none⟩ = some (.string ⟨#[]⟩) := S3.out.rx.cell 5
      have g5 := S3.out.rx.free 5
      have r6 : w3.cell? ⟨I + 1, 6, none⟩ = some (.slice none 0 0) := S3.out.rx.cell 6
      have g6 := S3.out.rx.free 6
      go_wp2_with fail
      have Q := Lib.hid ((((((((S3.out.rs (nds_nil _ _)).set 0 (.string nm)).set 1 (.int .i64 kd)).set 2 (.int .i64 (σ.p : Nat))).set 3 (.int .i64 0)).set 4 (.int .i64 0)).set 5 (.string ⟨#[]⟩)).set 6 (.slice none 0 0))
      clear y0 r0 g0 y1 r1 g1 y2 r2 g2 y3 r3 g3 y4 r4 g4 y5 r5 g5 y6 r6 g6
      generalize (((((((w3.setCell ⟨I + 1, 0, none⟩ (.string nm)).setCell ⟨I + 1, 1, none⟩ (.int .i64 kd)).setCell ⟨I + 1, 2, none⟩ (.int .i64 (σ.p : Nat))).setCell ⟨I + 1, 3, none⟩ (.int .i64 0)).setCell ⟨I + 1, 4, none⟩ (.int .i64 0)).setCell ⟨I + 1, 5, none⟩ (.string ⟨#[]⟩)).setCell ⟨I + 1, 6, none⟩ (.slice none 0 0)) = w9 at *
      refine bodyPost_ret (one_results _ _ (I + 1) _ _ _ _ _ _ _ rfl Q.out.rx) rfl ?_
      exact Q.out.post HR.out HB1.out
end
end Go.Proofs.YtkopjmofdnlplaaGreatDoor.Ly
