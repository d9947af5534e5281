/-
  PROVED HERE: the contract of diff.Both. Conditions: as each theorem states.
-/
import Derived.Test.YtjicnffafhbmbaaDoorBoE
import Derived.Lib.SlicesS
namespace Go.Proofs.YtjicnffafhbmbaaDoor.Bo
open Go.RowKit Go.Proofs.YtjicnffafhbmbaaDoor.My
def BoR (old : ByteArray) (P Q : List Ch) (w0 : World) (pv qv kv : Value) (wr : World) : Prop := ∃ (P' Q' : List Ch) (k : Nat) (O : ByteArray), Hid (Chv w0 pv P') ∧ Hid (Chv w0 qv Q') ∧ kv = .int .i64 (k : Nat) ∧ Hid (Sep old.size P') ∧ Hid (Sep old.size Q') ∧ P'.length ≤ 400 ∧ Q'.length ≤ 400 ∧ k ≤ old.size ∧ Hid (∀ c ∈ P', k ≤ c.fr ∧ c.text.size ≤ 400) ∧ Hid (∀ c ∈ Q', k ≤ c.fr ∧ c.text.size ≤ 400) ∧ Hid (O.size + (P'.length + Q'.length) * 1000 ≤ 800000) ∧ Hid (Bld.Bl wr w0.heap.size w0.heap.size O.data.toList) ∧ Hid (res old O k (merge P' Q') = res old ⟨#[]⟩ 0 (merge P Q)) ∧ Hid (Below w0.heap.size w0 wr)
def BoP (old a b : ByteArray) (W : World) (e : Ending) (w' : World) : Prop := e = .returned (.tuple (match res old ⟨#[]⟩ 0 (merge (changes old a) (changes old b)) with | some s => #[.string s, .bool true, .nilIface] | none => #[.string a, .bool false, .nilIface])) ∧ Below W.heap.size W w'
set_option maxRecDepth 100000 in
set_option maxHeartbeats 4000000 in
theorem both_any (old a b : ByteArray) (ha : old.size + a.size ≤ 200) (hb : old.size + b.size ≤ 200) (W : World) :
    Calls Tryd.prog 5 #[.string old, .string a, .string b] W (BoP old a b W) := by
  have E1 := Lib.hid (fun w => edits_any old a (by omega) w)
  have E2 := Lib.hid (fun w => edits_any old b (by omega) w)
  have C1 := Lib.hid (fun v w h => changes_any v (edits old a) w h (edits_ok old a).1 (by have := (edits_ok old a).2.1; omega) (by have := (edits_ok old a).2.2.1; omega) (by have := (edits_ok old a).2.2.2; omega))
  have C2 := Lib.hid (fun v w h => changes_any v (edits old b) w h (edits_ok old b).1 (by have := (edits_ok old b).2.1; omega) (by have := (edits_ok old b).2.2.1; omega) (by have := (edits_ok old b).2.2.2; omega))
  have K1 := Lib.hid (changes_ok old a)
  have K2 := Lib.hid (changes_ok old b)
  have L1 := changes_len old a
  have L2 := changes_len old b
  unfold BoP
  rw [show chg (edits old a) = changes old a from rfl] at C1
  rw [show chg (edits old b) = changes old b from rfl] at C2
  generalize changes old a = P at *
  generalize changes old b = Q at *
  generalize hR : res old ⟨#[]⟩ 0 (merge P Q) = R
  have HR := Lib.hid hR
  clear hR
  go_enter Tryd.func5, Tryd.ntmps5
  go_wp2_with fail
  refine (E1.out _).mono ?_; rintro e w1 ⟨v1, rfl, g1, b1⟩
  have B1 := Lib.hid b1
  have G1 := Lib.hid (show Eds w1 v1 (edits old a) from g1)
  clear b1 g1
  go_wp2_with fail
  refine (E2.out _).mono ?_; rintro e w2 ⟨v2, rfl, g2, b2⟩
  have B2 := Lib.hid (B1.out.trans (b2.mono B1.out.size))
  have G3 := Lib.hid (G1.out.below b2)
  have G2 := Lib.hid (show Eds w2 v2 (edits old b) from g2)
  clear b2 g2 G1
  go_wp2_with fail
  refine (C1.out _ _ G3.out).mono ?_; rintro e w3 ⟨v3, rfl, g3, b3⟩
  have B3 := Lib.hid (B2.out.trans (b3.mono B2.out.size))
  have G4 := Lib.hid (G2.out.below b3)
  have P1 := Lib.hid g3.show_
  clear b3 g3 G2 G3
  go_wp2_with fail
  refine (C2.out _ _ G4.out).mono ?_; rintro e w4 ⟨v4, rfl, g4, b4⟩
  have B4 := Lib.hid (B3.out.trans (b4.mono B3.out.size))
  have P3 := Lib.hid (P1.out.below b4)
  have P4 := Lib.hid g4.show_
  clear b4 g4 G4 P1
  clear B1 B2 B3 E1 E2 C1 C2
  go_wp2_with fail
  go_loopw [13, 14, 16] (fun pv qv kv wr => BoR old P Q w4 pv qv kv wr) (fun pv qv _ _ => lenV pv + lenV qv)
  case atStart => exact ⟨P, Q, 0, ⟨#[]⟩, P3, P4, rfl, Lib.hid K1.out.1, Lib.hid K2.out.1, by omega, by omega, Nat.zero_le _, Lib.hid (fun c hc => ⟨Nat.zero_le _, by have := K1.out.2 c hc; omega⟩), Lib.hid (fun c hc => ⟨Nat.zero_le _, by have := K2.out.2 c hc; omega⟩), Lib.hid (by show 0 + _ ≤ _; omega), Lib.hid (Bld.Bl.new (Nat.le_refl _)), Lib.hid rfl, Lib.hid ((Below.refl _ _).alloc (Nat.le_refl _) _)⟩
  case round =>
    obtain ⟨P', Q', k, O, hP, hQ, rfl, hSP, hSQ, hlp, hlq, hk, hkp, hkq, hOs, hBl, hRes, hB⟩ := hrel
    rcases P' with _ | ⟨p, P'⟩ <;> rcases Q' with _ | ⟨q, Q'⟩
    · obtain ⟨pa, pc, rfl⟩ := hP.out.nil0
      obtain ⟨qa, qc, rfl⟩ := hQ.out.nil0
      obtain ⟨Y, hY⟩ : ∃ Y, old.extract k old.size = Y := ⟨_, rfl⟩
      have hYs : Y.size ≤ 200 := by rw [← hY, ByteArray.size_extract]; omega
      obtain rfl : R = some (O ++ Y) := by rw [← HR.out, ← hRes.out, m_nil, ← hY]; rfl
      have hOb : O.size ≤ 800000 := by have := hOs.out; omega
      have q1 : (k : Int) ≤ (old.size : Int) := by omega
      have q3 : ¬ (9223372036854775807 < O.size + Y.size) := by omega
      have q4 : (0 : Int) ≤ (k : Int) := by omega
      have SN := Lib.hid (Bld.string_any w4.heap.size w4.heap.size O.data.toList wr.drew hBl.out hB.out.size)
      have hts : (⟨O.data.toList.toArray⟩ : ByteArray) = O := by apply ByteArray.ext; simp
      rw [hts] at SN
      clear hts hRes hkp hkq hOs
      go_wp2_with fail
      go_region_with ((refine (SN.out).mono ?_; rintro e w9 ⟨rfl, h3⟩; have HB9 := Lib.hid ((hB.out.drew).trans h3); clear h3))
      all_goals
        go_wp2_with fail
        go_ret3
        exact ⟨rfl, B4.out.trans (HB9.out.mono B4.out.size)⟩
    · simp only [List.length_cons, List.length_nil] at hlp hlq hOs
      obtain ⟨pa, pc, rfl⟩ := hP.out.nil0
      obtain ⟨ae, qc, rfl, e0, e1, e2⟩ := hQ.out.at0
      have E0 := Lib.hid e0
      have E1 := Lib.hid e1
      have E2 := Lib.hid e2
      obtain ⟨m, hm⟩ : ∃ m, Q'.length = m := ⟨_, rfl⟩
      have r1 : ((m : Int) + 1 == 0) = false := by rw [beq_eq_false_iff_ne]; omega
      have r2 : ((m + 1 : Nat) == 0) = false := by rw [beq_eq_false_iff_ne]; omega
      have r3 : ¬ ((m : Int) + 1 = 0) := by omega
      simp only [hm] at hQ hlq hOs ⊢
      have HQ2 := hQ.out.tl hm
      obtain ⟨B, hB0⟩ : ∃ B, (if qc = 1 then some ae else some (⟨ae.block, ae.off + 3, none⟩ : Addr)) = B := ⟨_, rfl⟩
      rw [hB0] at HQ2
      have HQ2 := Lib.hid HQ2
      have HSQ2 := Lib.hid hSQ.out.tail
      have HP2 := hP
      have HSP2 := hSP
      obtain ⟨hc1, hc2⟩ := hSQ.out.2 q (by simp)
      obtain ⟨hk1, ht1⟩ := hkq.out q (by simp)
      have HKQ2 : Hid (∀ c ∈ Q', q.to ≤ c.fr ∧ c.text.size ≤ 400) := Lib.hid (fun c hc => ⟨Nat.le_of_lt (hSQ.out.head c hc), (hkq.out c (List.mem_cons_of_mem _ hc)).2⟩)
      have HKP2 : Hid (∀ c ∈ ([] : List Ch), q.to ≤ c.fr ∧ c.text.size ≤ 400) := Lib.hid (fun c hc => by simp at hc)
      have HR2 := Lib.hid (show res old (O ++ (old.extract k q.fr ++ q.text)) q.to (merge ([] : List Ch) Q') = res old ⟨#[]⟩ 0 (merge P Q) by rw [← hRes.out, m_right, res_cons])
      clear hSP hSQ hkp hkq hP hQ
      go_upto_region 12 with fail
      obtain ⟨w5, hw5⟩ : ∃ w5, w5 = wr.alloc (.cells #[.int .i64 0, .int .i64 0, .string ⟨#[]⟩] 49) := ⟨_, rfl⟩
      have HX : Hid (Bx w4 wr.heap.size O 0 0 ⟨#[]⟩ w5) := Lib.hid (by rw [hw5]; exact Bx.new hBl.out hB.out)
      have e0 := keepCell HX.out.below e0
      have e1 := keepCell HX.out.below e1
      have e2 := keepCell HX.out.below e2
      rw [← hw5]
      clear hw5 hB hBl
      generalize wr.heap.size = G at *
      go_quiet (fail)
      have HX : Hid (Bx w4 G O 0 0 ⟨#[]⟩ (w5.drewN nq)) := Lib.hid (HX.out.drewN nq)
      have e0 : (w5.drewN nq).cell? ae = some (.int .i64 (q.fr : Nat)) := e0
      have e1 : (w5.drewN nq).cell? ⟨ae.block, ae.off + 1, none⟩ = some (.int .i64 (q.to : Nat)) := e1
      have e2 : (w5.drewN nq).cell? ⟨ae.block, ae.off + 2, none⟩ = some (.string q.text) := e2
      generalize w5.drewN nq = w6 at *
      go_wp2_with fail
      go_quiet (fail)
      have HX : Hid (Bx w4 G O 0 0 ⟨#[]⟩ (w6.drewN nq)) := Lib.hid (HX.out.drewN nq)
      have e0 : (w6.drewN nq).cell? ae = some (.int .i64 (q.fr : Nat)) := e0
      have e1 : (w6.drewN nq).cell? ⟨ae.block, ae.off + 1, none⟩ = some (.int .i64 (q.to : Nat)) := e1
      have e2 : (w6.drewN nq).cell? ⟨ae.block, ae.off + 2, none⟩ = some (.string q.text) := e2
      generalize w6.drewN nq = w7 at *
      go_wp2_with fail
      go_quiet (fail)
      have HX : Hid (Bx w4 G O 0 0 ⟨#[]⟩ (w7.drewN nq)) := Lib.hid (HX.out.drewN nq)
      have e0 : (w7.drewN nq).cell? ae = some (.int .i64 (q.fr : Nat)) := e0
      have e1 : (w7.drewN nq).cell? ⟨ae.block, ae.off + 1, none⟩ = some (.int .i64 (q.to : Nat)) := e1
      have e2 : (w7.drewN nq).cell? ⟨ae.block, ae.off + 2, none⟩ = some (.string q.text) := e2
      generalize w7.drewN nq = wa at *
      have z0 := HX.out.c0
      have z1 := HX.out.c1
      have z2 := HX.out.c2
      have f0 := HX.out.fz 0
      have f1 := HX.out.fz 1
      have f2 := HX.out.fz 2
      go_upto_region 20 with fail
      have HX : Hid (Bx w4 G O q.fr q.to q.text _) := Lib.hid (HX.out.put q)
      clear z0 z1 z2 f0 f1 f2 e0 e1 e2
      generalize ((World.setCell wa ⟨G, 0, none⟩ (.int .i64 (q.fr : Nat))).setCell ⟨G, 1, none⟩ (.int .i64 (q.to : Nat))).setCell ⟨G, 2, none⟩ (.string q.text) = w8 at *
      have z0 := HX.out.c0
      have z1 := HX.out.c1
      have z2 := HX.out.c2
      obtain ⟨X, hX⟩ : ∃ X, old.extract k q.fr = X := ⟨_, rfl⟩
      have hXs : X.size ≤ 200 := by rw [← hX, ByteArray.size_extract]; omega
      have q1 : (k : Int) ≤ (q.fr : Int) := by omega
      have q2 : (q.fr : Int) ≤ (old.size : Int) := by omega
      have q3 : ¬ (9223372036854775807 < X.size + q.text.size) := by omega
      have q4 : (0 : Int) ≤ (k : Int) := by omega
      go_still_tail 8, (by kernel_rfl)
      have HXd := Lib.hid (HX.out.drewN 1)
      have HL1 : ([] : List Ch).length ≤ 400 := by first | omega | (simp only [List.length_cons]; omega) | (simp only [List.length_nil]; omega) | (simp only [List.length_cons, List.length_nil]; omega)
      have HL2 : Q'.length ≤ 400 := by first | omega | (simp only [List.length_cons]; omega) | (simp only [List.length_nil]; omega) | (simp only [List.length_cons, List.length_nil]; omega)
      have HOS := Lib.hid (show (O ++ (X ++ q.text)).size + (([] : List Ch).length + Q'.length) * 1000 ≤ 800000 by have := hOs.out; rw [ByteArray.size_append, ByteArray.size_append]; first | omega | (simp only [List.length_cons]; omega) | (simp only [List.length_nil]; omega) | (simp only [List.length_cons, List.length_nil]; omega))
      have WS := Lib.hid (Bld.writeString_far w4.heap.size w4.heap.size O.data.toList (X ++ q.text) w8.drew HXd.out.bl (by rw [show O.data.toList.length = O.size from rfl, ByteArray.size_append]; have := hOs.out; omega) HXd.out.below.size)
      go_wp2_with fail
      refine (WS.out).mono ?_; rintro e w9 ⟨rfl, h2, h3, h4⟩
      rw [← dtl_app] at h2
      obtain ⟨z1, hb9⟩ := HXd.out.kept h2 h3 (h4 G HXd.out.lt HXd.out.ne HXd.out.nb)
      have HBl9 := Lib.hid h2
      have HB9 := Lib.hid hb9
      have HRES := Lib.hid (show res old (O ++ (X ++ q.text)) q.to (merge ([] : List Ch) Q') = res old ⟨#[]⟩ 0 (merge P Q) by rw [← hX]; exact HR2.out)
      clear h2 h3 h4 hb9 WS HX HXd z0 z2 hX q1 q2 q3 q4 HR2 hOs hRes
      go_wp2_with fail
      go_roundw
      case rel => first | exact ⟨([] : List Ch), Q', q.to, O ++ (X ++ q.text), HP2, HQ2, rfl, HSP2, HSQ2, HL1, HL2, hc2, HKP2, HKQ2, HOS, HBl9, HRES, HB9⟩ | ((repeat apply Exists.intro); exact ⟨⟨([] : List Ch), Q', q.to, O ++ (X ++ q.text), HP2, HQ2, rfl, HSP2, HSQ2, HL1, HL2, hc2, HKP2, HKQ2, HOS, HBl9, HRES, HB9⟩, rfl⟩)
      case measure => first | (simp [lenV]; done) | (simp [lenV]; omega)
    · simp only [List.length_cons, List.length_nil] at hlp hlq hOs
      obtain ⟨ad, pc, rfl, d0, d1, d2⟩ := hP.out.at0
      have D0 := Lib.hid d0
      have D1 := Lib.hid d1
      have D2 := Lib.hid d2
      obtain ⟨n, hn⟩ : ∃ n, P'.length = n := ⟨_, rfl⟩
      obtain ⟨qa, qc, rfl⟩ := hQ.out.nil0
      simp only [hn] at hP hlp hOs ⊢
      have HP2 := hP.out.tl hn
      obtain ⟨A, hA⟩ : ∃ A, (if pc = 1 then some ad else some (⟨ad.block, ad.off + 3, none⟩ : Addr)) = A := ⟨_, rfl⟩
      rw [hA] at HP2
      have HP2 := Lib.hid HP2
      have HSP2 := Lib.hid hSP.out.tail
      have HQ2 := hQ
      have HSQ2 := hSQ
      obtain ⟨hc1, hc2⟩ := hSP.out.2 p (by simp)
      obtain ⟨hk1, ht1⟩ := hkp.out p (by simp)
      have HKP2 : Hid (∀ c ∈ P', p.to ≤ c.fr ∧ c.text.size ≤ 400) := Lib.hid (fun c hc => ⟨Nat.le_of_lt (hSP.out.head c hc), (hkp.out c (List.mem_cons_of_mem _ hc)).2⟩)
      have HKQ2 : Hid (∀ c ∈ ([] : List Ch), p.to ≤ c.fr ∧ c.text.size ≤ 400) := Lib.hid (fun c hc => by simp at hc)
      have HR2 := Lib.hid (show res old (O ++ (old.extract k p.fr ++ p.text)) p.to (merge P' ([] : List Ch)) = res old ⟨#[]⟩ 0 (merge P Q) by rw [← hRes.out, m_left, res_cons])
      clear hSP hSQ hkp hkq hP hQ
      go_upto_region 12 with fail
      obtain ⟨w5, hw5⟩ : ∃ w5, w5 = wr.alloc (.cells #[.int .i64 0, .int .i64 0, .string ⟨#[]⟩] 49) := ⟨_, rfl⟩
      have HX : Hid (Bx w4 wr.heap.size O 0 0 ⟨#[]⟩ w5) := Lib.hid (by rw [hw5]; exact Bx.new hBl.out hB.out)
      have d0 := keepCell HX.out.below d0
      have d1 := keepCell HX.out.below d1
      have d2 := keepCell HX.out.below d2
      rw [← hw5]
      clear hw5 hB hBl
      generalize wr.heap.size = G at *
      go_quiet (fail)
      have HX : Hid (Bx w4 G O 0 0 ⟨#[]⟩ (w5.drewN nq)) := Lib.hid (HX.out.drewN nq)
      have d0 : (w5.drewN nq).cell? ad = some (.int .i64 (p.fr : Nat)) := d0
      have d1 : (w5.drewN nq).cell? ⟨ad.block, ad.off + 1, none⟩ = some (.int .i64 (p.to : Nat)) := d1
      have d2 : (w5.drewN nq).cell? ⟨ad.block, ad.off + 2, none⟩ = some (.string p.text) := d2
      generalize w5.drewN nq = w6 at *
      go_wp2_with fail
      go_quiet (fail)
      have HX : Hid (Bx w4 G O 0 0 ⟨#[]⟩ (w6.drewN nq)) := Lib.hid (HX.out.drewN nq)
      have d0 : (w6.drewN nq).cell? ad = some (.int .i64 (p.fr : Nat)) := d0
      have d1 : (w6.drewN nq).cell? ⟨ad.block, ad.off + 1, none⟩ = some (.int .i64 (p.to : Nat)) := d1
      have d2 : (w6.drewN nq).cell? ⟨ad.block, ad.off + 2, none⟩ = some (.string p.text) := d2
      generalize w6.drewN nq = w7 at *
      go_wp2_with fail
      go_quiet (fail)
      have HX : Hid (Bx w4 G O 0 0 ⟨#[]⟩ (w7.drewN nq)) := Lib.hid (HX.out.drewN nq)
      have d0 : (w7.drewN nq).cell? ad = some (.int .i64 (p.fr : Nat)) := d0
      have d1 : (w7.drewN nq).cell? ⟨ad.block, ad.off + 1, none⟩ = some (.int .i64 (p.to : Nat)) := d1
      have d2 : (w7.drewN nq).cell? ⟨ad.block, ad.off + 2, none⟩ = some (.string p.text) := d2
      generalize w7.drewN nq = wa at *
      have z0 := HX.out.c0
      have z1 := HX.out.c1
      have z2 := HX.out.c2
      have f0 := HX.out.fz 0
      have f1 := HX.out.fz 1
      have f2 := HX.out.fz 2
      go_upto_region 20 with fail
      have HX : Hid (Bx w4 G O p.fr p.to p.text _) := Lib.hid (HX.out.put p)
      clear z0 z1 z2 f0 f1 f2 d0 d1 d2
      generalize ((World.setCell wa ⟨G, 0, none⟩ (.int .i64 (p.fr : Nat))).setCell ⟨G, 1, none⟩ (.int .i64 (p.to : Nat))).setCell ⟨G, 2, none⟩ (.string p.text) = w8 at *
      have z0 := HX.out.c0
      have z1 := HX.out.c1
      have z2 := HX.out.c2
      obtain ⟨X, hX⟩ : ∃ X, old.extract k p.fr = X := ⟨_, rfl⟩
      have hXs : X.size ≤ 200 := by rw [← hX, ByteArray.size_extract]; omega
      have q1 : (k : Int) ≤ (p.fr : Int) := by omega
      have q2 : (p.fr : Int) ≤ (old.size : Int) := by omega
      have q3 : ¬ (9223372036854775807 < X.size + p.text.size) := by omega
      have q4 : (0 : Int) ≤ (k : Int) := by omega
      go_still_tail 8, (by kernel_rfl)
      have HXd := Lib.hid (HX.out.drewN 1)
      have HL1 : P'.length ≤ 400 := by first | omega | (simp only [List.length_cons]; omega) | (simp only [List.length_nil]; omega) | (simp only [List.length_cons, List.length_nil]; omega)
      have HL2 : ([] : List Ch).length ≤ 400 := by first | omega | (simp only [List.length_cons]; omega) | (simp only [List.length_nil]; omega) | (simp only [List.length_cons, List.length_nil]; omega)
      have HOS := Lib.hid (show (O ++ (X ++ p.text)).size + (P'.length + ([] : List Ch).length) * 1000 ≤ 800000 by have := hOs.out; rw [ByteArray.size_append, ByteArray.size_append]; first | omega | (simp only [List.length_cons]; omega) | (simp only [List.length_nil]; omega) | (simp only [List.length_cons, List.length_nil]; omega))
      have WS := Lib.hid (Bld.writeString_far w4.heap.size w4.heap.size O.data.toList (X ++ p.text) w8.drew HXd.out.bl (by rw [show O.data.toList.length = O.size from rfl, ByteArray.size_append]; have := hOs.out; omega) HXd.out.below.size)
      go_wp2_with fail
      refine (WS.out).mono ?_; rintro e w9 ⟨rfl, h2, h3, h4⟩
      rw [← dtl_app] at h2
      obtain ⟨z1, hb9⟩ := HXd.out.kept h2 h3 (h4 G HXd.out.lt HXd.out.ne HXd.out.nb)
      have HBl9 := Lib.hid h2
      have HB9 := Lib.hid hb9
      have HRES := Lib.hid (show res old (O ++ (X ++ p.text)) p.to (merge P' ([] : List Ch)) = res old ⟨#[]⟩ 0 (merge P Q) by rw [← hX]; exact HR2.out)
      clear h2 h3 h4 hb9 WS HX HXd z0 z2 hX q1 q2 q3 q4 HR2 hOs hRes
      go_wp2_with fail
      go_roundw
      case rel => first | exact ⟨P', ([] : List Ch), p.to, O ++ (X ++ p.text), HP2, HQ2, rfl, HSP2, HSQ2, HL1, HL2, hc2, HKP2, HKQ2, HOS, HBl9, HRES, HB9⟩ | ((repeat apply Exists.intro); exact ⟨⟨P', ([] : List Ch), p.to, O ++ (X ++ p.text), HP2, HQ2, rfl, HSP2, HSQ2, HL1, HL2, hc2, HKP2, HKQ2, HOS, HBl9, HRES, HB9⟩, rfl⟩)
      case measure => first | (simp [lenV]; done) | (simp [lenV]; omega)
    · simp only [List.length_cons] at hlp hlq hOs
      obtain ⟨ad, pc, rfl, d0, d1, d2⟩ := hP.out.at0
      have D0 := Lib.hid d0
      have D1 := Lib.hid d1
      have D2 := Lib.hid d2
      obtain ⟨n, hn⟩ : ∃ n, P'.length = n := ⟨_, rfl⟩
      obtain ⟨ae, qc, rfl, e0, e1, e2⟩ := hQ.out.at0
      have E0 := Lib.hid e0
      have E1 := Lib.hid e1
      have E2 := Lib.hid e2
      obtain ⟨m, hm⟩ : ∃ m, Q'.length = m := ⟨_, rfl⟩
      have r1 : ((m : Int) + 1 == 0) = false := by rw [beq_eq_false_iff_ne]; omega
      have r2 : ((m + 1 : Nat) == 0) = false := by rw [beq_eq_false_iff_ne]; omega
      have r3 : ¬ ((m : Int) + 1 = 0) := by omega
      simp only [hn] at hP hlp hOs ⊢
      simp only [hm] at hQ hlq hOs ⊢
      by_cases e : p = q
      · subst e
        have HP2 := hP.out.tl hn
        obtain ⟨A, hA⟩ : ∃ A, (if pc = 1 then some ad else some (⟨ad.block, ad.off + 3, none⟩ : Addr)) = A := ⟨_, rfl⟩
        rw [hA] at HP2
        have HP2 := Lib.hid HP2
        have HSP2 := Lib.hid hSP.out.tail
        have HQ2 := hQ.out.tl hm
        obtain ⟨B, hB0⟩ : ∃ B, (if qc = 1 then some ae else some (⟨ae.block, ae.off + 3, none⟩ : Addr)) = B := ⟨_, rfl⟩
        rw [hB0] at HQ2
        have HQ2 := Lib.hid HQ2
        have HSQ2 := Lib.hid hSQ.out.tail
        obtain ⟨hc1, hc2⟩ := hSP.out.2 p (by simp)
        obtain ⟨hk1, ht1⟩ := hkp.out p (by simp)
        have HKP2 : Hid (∀ c ∈ P', p.to ≤ c.fr ∧ c.text.size ≤ 400) := Lib.hid (fun c hc => ⟨Nat.le_of_lt (hSP.out.head c hc), (hkp.out c (List.mem_cons_of_mem _ hc)).2⟩)
        have HKQ2 : Hid (∀ c ∈ Q', p.to ≤ c.fr ∧ c.text.size ≤ 400) := Lib.hid (fun c hc => ⟨Nat.le_of_lt (hSQ.out.head c hc), (hkq.out c (List.mem_cons_of_mem _ hc)).2⟩)
        have HR2 := Lib.hid (show res old (O ++ (old.extract k p.fr ++ p.text)) p.to (merge P' Q') = res old ⟨#[]⟩ 0 (merge P Q) by rw [← hRes.out, m_same, res_cons])
        clear hSP hSQ hkp hkq hP hQ
        go_upto_region 12 with fail
        obtain ⟨w5, hw5⟩ : ∃ w5, w5 = wr.alloc (.cells #[.int .i64 0, .int .i64 0, .string ⟨#[]⟩] 49) := ⟨_, rfl⟩
        have HX : Hid (Bx w4 wr.heap.size O 0 0 ⟨#[]⟩ w5) := Lib.hid (by rw [hw5]; exact Bx.new hBl.out hB.out)
        have d0 := keepCell HX.out.below d0
        have d1 := keepCell HX.out.below d1
        have d2 := keepCell HX.out.below d2
        have e0 := keepCell HX.out.below e0
        have e1 := keepCell HX.out.below e1
        have e2 := keepCell HX.out.below e2
        rw [← hw5]
        clear hw5 hB hBl
        generalize wr.heap.size = G at *
        go_quiet (fail)
        have HX : Hid (Bx w4 G O 0 0 ⟨#[]⟩ (w5.drewN nq)) := Lib.hid (HX.out.drewN nq)
        have d0 : (w5.drewN nq).cell? ad = some (.int .i64 (p.fr : Nat)) := d0
        have d1 : (w5.drewN nq).cell? ⟨ad.block, ad.off + 1, none⟩ = some (.int .i64 (p.to : Nat)) := d1
        have d2 : (w5.drewN nq).cell? ⟨ad.block, ad.off + 2, none⟩ = some (.string p.text) := d2
        have e0 : (w5.drewN nq).cell? ae = some (.int .i64 (p.fr : Nat)) := e0
        have e1 : (w5.drewN nq).cell? ⟨ae.block, ae.off + 1, none⟩ = some (.int .i64 (p.to : Nat)) := e1
        have e2 : (w5.drewN nq).cell? ⟨ae.block, ae.off + 2, none⟩ = some (.string p.text) := e2
        generalize w5.drewN nq = w6 at *
        have z0 := HX.out.c0
        have z1 := HX.out.c1
        have z2 := HX.out.c2
        have f0 := HX.out.fz 0
        have f1 := HX.out.fz 1
        have f2 := HX.out.fz 2
        go_upto_region 14 with fail
        have HX : Hid (Bx w4 G O p.fr p.to p.text _) := Lib.hid (HX.out.put p)
        clear z0 z1 z2 f0 f1 f2 d0 d1 d2 e0 e1 e2
        generalize ((World.setCell w6 ⟨G, 0, none⟩ (.int .i64 (p.fr : Nat))).setCell ⟨G, 1, none⟩ (.int .i64 (p.to : Nat))).setCell ⟨G, 2, none⟩ (.string p.text) = w8 at *
        go_quiet (fail)
        have HX : Hid (Bx w4 G O p.fr p.to p.text (w8.drewN nq)) := Lib.hid (HX.out.drewN nq)
        generalize w8.drewN nq = wb at *
        go_upto_region 20 with fail
        have z0 := HX.out.c0
        have z1 := HX.out.c1
        have z2 := HX.out.c2
        obtain ⟨X, hX⟩ : ∃ X, old.extract k p.fr = X := ⟨_, rfl⟩
        have hXs : X.size ≤ 200 := by rw [← hX, ByteArray.size_extract]; omega
        have q1 : (k : Int) ≤ (p.fr : Int) := by omega
        have q2 : (p.fr : Int) ≤ (old.size : Int) := by omega
        have q3 : ¬ (9223372036854775807 < X.size + p.text.size) := by omega
        have q4 : (0 : Int) ≤ (k : Int) := by omega
        go_still_tail 8, (by kernel_rfl)
        have HXd := Lib.hid (HX.out.drewN 1)
        have HL1 : P'.length ≤ 400 := by first | omega | (simp only [List.length_cons]; omega) | (simp only [List.length_nil]; omega) | (simp only [List.length_cons, List.length_nil]; omega)
        have HL2 : Q'.length ≤ 400 := by first | omega | (simp only [List.length_cons]; omega) | (simp only [List.length_nil]; omega) | (simp only [List.length_cons, List.length_nil]; omega)
        have HOS := Lib.hid (show (O ++ (X ++ p.text)).size + (P'.length + Q'.length) * 1000 ≤ 800000 by have := hOs.out; rw [ByteArray.size_append, ByteArray.size_append]; first | omega | (simp only [List.length_cons]; omega) | (simp only [List.length_nil]; omega) | (simp only [List.length_cons, List.length_nil]; omega))
        have WS := Lib.hid (Bld.writeString_far w4.heap.size w4.heap.size O.data.toList (X ++ p.text) wb.drew HXd.out.bl (by rw [show O.data.toList.length = O.size from rfl, ByteArray.size_append]; have := hOs.out; omega) HXd.out.below.size)
        go_wp2_with fail
        refine (WS.out).mono ?_; rintro e w9 ⟨rfl, h2, h3, h4⟩
        rw [← dtl_app] at h2
        obtain ⟨z1, hb9⟩ := HXd.out.kept h2 h3 (h4 G HXd.out.lt HXd.out.ne HXd.out.nb)
        have HBl9 := Lib.hid h2
        have HB9 := Lib.hid hb9
        have HRES := Lib.hid (show res old (O ++ (X ++ p.text)) p.to (merge P' Q') = res old ⟨#[]⟩ 0 (merge P Q) by rw [← hX]; exact HR2.out)
        clear h2 h3 h4 hb9 WS HX HXd z0 z2 hX q1 q2 q3 q4 HR2 hOs hRes
        go_wp2_with fail
        go_roundw
        case rel => first | exact ⟨P', Q', p.to, O ++ (X ++ p.text), HP2, HQ2, rfl, HSP2, HSQ2, HL1, HL2, hc2, HKP2, HKQ2, HOS, HBl9, HRES, HB9⟩ | ((repeat apply Exists.intro); exact ⟨⟨P', Q', p.to, O ++ (X ++ p.text), HP2, HQ2, rfl, HSP2, HSQ2, HL1, HL2, hc2, HKP2, HKQ2, HOS, HBl9, HRES, HB9⟩, rfl⟩)
        case measure => first | (simp [lenV]; done) | (simp [lenV]; omega)
      · have ee : (p.fr = q.fr → p.to = q.to → p.text ≠ q.text) := fun h1 h2 h3 => e (by cases p; cases q; simp only at h1 h2 h3; subst h1 h2 h3; rfl)
        by_cases t : touch p q
        · go_upto_region 12 with fail
          obtain ⟨w5, hw5⟩ : ∃ w5, w5 = wr.alloc (.cells #[.int .i64 0, .int .i64 0, .string ⟨#[]⟩] 49) := ⟨_, rfl⟩
          have HX : Hid (Bx w4 wr.heap.size O 0 0 ⟨#[]⟩ w5) := Lib.hid (by rw [hw5]; exact Bx.new hBl.out hB.out)
          have d0 := keepCell HX.out.below d0
          have d1 := keepCell HX.out.below d1
          have d2 := keepCell HX.out.below d2
          have e0 := keepCell HX.out.below e0
          have e1 := keepCell HX.out.below e1
          have e2 := keepCell HX.out.below e2
          rw [← hw5]
          clear hw5 hB hBl
          generalize wr.heap.size = G at *
          have HE := Lib.hid e
          clear e
          go_cut [54] (fun s wx => s = .bool false ∧ Hid (Bx w4 G O 0 0 ⟨#[]⟩ wx))
          case first =>
            by_cases h1 : p.fr = q.fr
            · by_cases h2 : p.to = q.to
              · have h3 := ee h1 h2
                have t1 : ((p.fr : Int) == (q.fr : Int)) = true := by rw [beq_iff_eq, h1]
                have t2 : ((p.to : Int) == (q.to : Int)) = true := by rw [beq_iff_eq, h2]
                have t3 : (p.text.toList == q.text.toList) = false := (Go.Lib.bytes_beq_false_iff _ _).2 h3
                clear ee h1 h2 t
                go_quiet (fail)
                go_wp2_with fail
                go_meet
                exact ⟨rfl, Lib.hid (HX.out.drewN nq)⟩
              · have t1 : ((p.fr : Int) == (q.fr : Int)) = true := by rw [beq_iff_eq, h1]
                have t2 : ((p.to : Int) == (q.to : Int)) = false := by rw [beq_eq_false_iff_ne]; omega
                clear ee h1 h2 t
                go_quiet (fail)
                go_wp2_with fail
                go_meet
                exact ⟨rfl, Lib.hid (HX.out.drewN nq)⟩
            · have t1 : ((p.fr : Int) == (q.fr : Int)) = false := by rw [beq_eq_false_iff_ne]; omega
              clear ee h1 t
              go_quiet (fail)
              go_wp2_with fail
              go_meet
              exact ⟨rfl, Lib.hid (HX.out.drewN nq)⟩
          case rest =>
            obtain ⟨rfl, HX⟩ := hcut
            have d0 := keepCell HX.out.below D0.out
            have d1 := keepCell HX.out.below D1.out
            have d2 := keepCell HX.out.below D2.out
            have e0 := keepCell HX.out.below E0.out
            have e1 := keepCell HX.out.below E1.out
            have e2 := keepCell HX.out.below E2.out
            obtain ⟨t1, t2⟩ := t
            obtain rfl : R = none := by rw [← HR.out, ← hRes.out, m_touch _ _ HE.out ⟨t1, t2⟩]; rfl
            have t3 : (p.fr : Int) ≤ (q.to : Int) := by omega
            have t4 : (q.fr : Int) ≤ (p.to : Int) := by omega
            have t5 : decide (p.fr ≤ q.to) = true := decide_eq_true t1
            have t6 : decide (q.fr ≤ p.to) = true := decide_eq_true t2
            go_wp2_with fail
            go_quiet (fail)
            have HBW := Lib.hid ((HX.out.drewN nq).below)
            go_wp2_with fail
            go_ret3
            exact ⟨rfl, B4.out.trans (HBW.out.mono B4.out.size)⟩
        · go_upto_region 12 with fail
          obtain ⟨w5, hw5⟩ : ∃ w5, w5 = wr.alloc (.cells #[.int .i64 0, .int .i64 0, .string ⟨#[]⟩] 49) := ⟨_, rfl⟩
          have HX : Hid (Bx w4 wr.heap.size O 0 0 ⟨#[]⟩ w5) := Lib.hid (by rw [hw5]; exact Bx.new hBl.out hB.out)
          have d0 := keepCell HX.out.below d0
          have d1 := keepCell HX.out.below d1
          have d2 := keepCell HX.out.below d2
          have e0 := keepCell HX.out.below e0
          have e1 := keepCell HX.out.below e1
          have e2 := keepCell HX.out.below e2
          rw [← hw5]
          clear hw5 hB hBl
          generalize wr.heap.size = G at *
          have HE := Lib.hid e
          clear e
          go_cut [54] (fun s wx => s = .bool false ∧ Hid (Bx w4 G O 0 0 ⟨#[]⟩ wx))
          case first =>
            by_cases h1 : p.fr = q.fr
            · by_cases h2 : p.to = q.to
              · have h3 := ee h1 h2
                have t1 : ((p.fr : Int) == (q.fr : Int)) = true := by rw [beq_iff_eq, h1]
                have t2 : ((p.to : Int) == (q.to : Int)) = true := by rw [beq_iff_eq, h2]
                have t3 : (p.text.toList == q.text.toList) = false := (Go.Lib.bytes_beq_false_iff _ _).2 h3
                clear ee h1 h2 t
                go_quiet (fail)
                go_wp2_with fail
                go_meet
                exact ⟨rfl, Lib.hid (HX.out.drewN nq)⟩
              · have t1 : ((p.fr : Int) == (q.fr : Int)) = true := by rw [beq_iff_eq, h1]
                have t2 : ((p.to : Int) == (q.to : Int)) = false := by rw [beq_eq_false_iff_ne]; omega
                clear ee h1 h2 t
                go_quiet (fail)
                go_wp2_with fail
                go_meet
                exact ⟨rfl, Lib.hid (HX.out.drewN nq)⟩
            · have t1 : ((p.fr : Int) == (q.fr : Int)) = false := by rw [beq_eq_false_iff_ne]; omega
              clear ee h1 t
              go_quiet (fail)
              go_wp2_with fail
              go_meet
              exact ⟨rfl, Lib.hid (HX.out.drewN nq)⟩
          case rest =>
            obtain ⟨rfl, HX⟩ := hcut
            have d0 := keepCell HX.out.below D0.out
            have d1 := keepCell HX.out.below D1.out
            have d2 := keepCell HX.out.below D2.out
            have e0 := keepCell HX.out.below E0.out
            have e1 := keepCell HX.out.below E1.out
            have e2 := keepCell HX.out.below E2.out
            have ht := t
            by_cases hl : p.fr < q.fr
            · have hqb := hSQ.out.2 q (by simp)
              have hpq : p.to < q.fr := by
                by_cases h : p.to < q.fr
                · exact h
                · exact absurd ⟨by omega, by omega⟩ ht
              have HP2 := hP.out.tl hn
              obtain ⟨A, hA⟩ : ∃ A, (if pc = 1 then some ad else some (⟨ad.block, ad.off + 3, none⟩ : Addr)) = A := ⟨_, rfl⟩
              rw [hA] at HP2
              have HP2 := Lib.hid HP2
              have HSP2 := Lib.hid hSP.out.tail
              have HQ2 := hQ
              have HSQ2 := hSQ
              obtain ⟨hc1, hc2⟩ := hSP.out.2 p (by simp)
              obtain ⟨hk1, ht1⟩ := hkp.out p (by simp)
              have HKP2 : Hid (∀ c ∈ P', p.to ≤ c.fr ∧ c.text.size ≤ 400) := Lib.hid (fun c hc => ⟨Nat.le_of_lt (hSP.out.head c hc), (hkp.out c (List.mem_cons_of_mem _ hc)).2⟩)
              have HKQ2 : Hid (∀ c ∈ q :: Q', p.to ≤ c.fr ∧ c.text.size ≤ 400) := Lib.hid (fun c hc => ⟨by have := hSQ.out.le c hc; omega, (hkq.out c hc).2⟩)
              have HR2 := Lib.hid (show res old (O ++ (old.extract k p.fr ++ p.text)) p.to (merge P' (q :: Q')) = res old ⟨#[]⟩ 0 (merge P Q) by rw [← hRes.out, m_p _ _ HE.out ht hl, res_cons])
              have t5 : decide (p.fr ≤ q.to) = true := decide_eq_true (by omega)
              have t6 : decide (q.fr ≤ p.to) = false := decide_eq_false (by omega)
              have t7 : decide (p.fr < q.fr) = true := decide_eq_true hl
              have t8 : (p.fr : Int) ≤ (q.to : Int) := by omega
              have t9 : ¬ ((q.fr : Int) ≤ (p.to : Int)) := by omega
              have ta : (p.fr : Int) < (q.fr : Int) := by omega
              have HM := Lib.hid hm
              clear hSP hSQ hkp hkq hP hQ ht hl hpq hqb hm
              go_wp2_with fail
              go_quiet (fail)
              have HX : Hid (Bx w4 G O 0 0 ⟨#[]⟩ (wc.drewN nq)) := Lib.hid (HX.out.drewN nq)
              have d0 : (wc.drewN nq).cell? ad = some (.int .i64 (p.fr : Nat)) := d0
              have d1 : (wc.drewN nq).cell? ⟨ad.block, ad.off + 1, none⟩ = some (.int .i64 (p.to : Nat)) := d1
              have d2 : (wc.drewN nq).cell? ⟨ad.block, ad.off + 2, none⟩ = some (.string p.text) := d2
              have e0 : (wc.drewN nq).cell? ae = some (.int .i64 (q.fr : Nat)) := e0
              have e1 : (wc.drewN nq).cell? ⟨ae.block, ae.off + 1, none⟩ = some (.int .i64 (q.to : Nat)) := e1
              have e2 : (wc.drewN nq).cell? ⟨ae.block, ae.off + 2, none⟩ = some (.string q.text) := e2
              generalize wc.drewN nq = w6 at *
              go_wp2_with fail
              go_quiet (fail)
              have HX : Hid (Bx w4 G O 0 0 ⟨#[]⟩ (w6.drewN nq)) := Lib.hid (HX.out.drewN nq)
              have d0 : (w6.drewN nq).cell? ad = some (.int .i64 (p.fr : Nat)) := d0
              have d1 : (w6.drewN nq).cell? ⟨ad.block, ad.off + 1, none⟩ = some (.int .i64 (p.to : Nat)) := d1
              have d2 : (w6.drewN nq).cell? ⟨ad.block, ad.off + 2, none⟩ = some (.string p.text) := d2
              have e0 : (w6.drewN nq).cell? ae = some (.int .i64 (q.fr : Nat)) := e0
              have e1 : (w6.drewN nq).cell? ⟨ae.block, ae.off + 1, none⟩ = some (.int .i64 (q.to : Nat)) := e1
              have e2 : (w6.drewN nq).cell? ⟨ae.block, ae.off + 2, none⟩ = some (.string q.text) := e2
              generalize w6.drewN nq = wa at *
              clear t5 t6 t7 t8 t9 ta
              have z0 := HX.out.c0
              have z1 := HX.out.c1
              have z2 := HX.out.c2
              have f0 := HX.out.fz 0
              have f1 := HX.out.fz 1
              have f2 := HX.out.fz 2
              go_upto_region 20 with fail
              have hm := HM.out
              have HX : Hid (Bx w4 G O p.fr p.to p.text _) := Lib.hid (HX.out.put p)
              clear z0 z1 z2 f0 f1 f2 d0 d1 d2 e0 e1 e2
              generalize ((World.setCell wa ⟨G, 0, none⟩ (.int .i64 (p.fr : Nat))).setCell ⟨G, 1, none⟩ (.int .i64 (p.to : Nat))).setCell ⟨G, 2, none⟩ (.string p.text) = w8 at *
              have z0 := HX.out.c0
              have z1 := HX.out.c1
              have z2 := HX.out.c2
              obtain ⟨X, hX⟩ : ∃ X, old.extract k p.fr = X := ⟨_, rfl⟩
              have hXs : X.size ≤ 200 := by rw [← hX, ByteArray.size_extract]; omega
              have q1 : (k : Int) ≤ (p.fr : Int) := by omega
              have q2 : (p.fr : Int) ≤ (old.size : Int) := by omega
              have q3 : ¬ (9223372036854775807 < X.size + p.text.size) := by omega
              have q4 : (0 : Int) ≤ (k : Int) := by omega
              go_still_tail 8, (by kernel_rfl)
              have HXd := Lib.hid (HX.out.drewN 1)
              have HL1 : P'.length ≤ 400 := by first | omega | (simp only [List.length_cons]; omega) | (simp only [List.length_nil]; omega) | (simp only [List.length_cons, List.length_nil]; omega)
              have HL2 : (q :: Q').length ≤ 400 := by first | omega | (simp only [List.length_cons]; omega) | (simp only [List.length_nil]; omega) | (simp only [List.length_cons, List.length_nil]; omega)
              have HOS := Lib.hid (show (O ++ (X ++ p.text)).size + (P'.length + (q :: Q').length) * 1000 ≤ 800000 by have := hOs.out; rw [ByteArray.size_append, ByteArray.size_append]; first | omega | (simp only [List.length_cons]; omega) | (simp only [List.length_nil]; omega) | (simp only [List.length_cons, List.length_nil]; omega))
              have WS := Lib.hid (Bld.writeString_far w4.heap.size w4.heap.size O.data.toList (X ++ p.text) w8.drew HXd.out.bl (by rw [show O.data.toList.length = O.size from rfl, ByteArray.size_append]; have := hOs.out; omega) HXd.out.below.size)
              go_wp2_with fail
              refine (WS.out).mono ?_; rintro e w9 ⟨rfl, h2, h3, h4⟩
              rw [← dtl_app] at h2
              obtain ⟨z1, hb9⟩ := HXd.out.kept h2 h3 (h4 G HXd.out.lt HXd.out.ne HXd.out.nb)
              have HBl9 := Lib.hid h2
              have HB9 := Lib.hid hb9
              have HRES := Lib.hid (show res old (O ++ (X ++ p.text)) p.to (merge P' (q :: Q')) = res old ⟨#[]⟩ 0 (merge P Q) by rw [← hX]; exact HR2.out)
              clear h2 h3 h4 hb9 WS HX HXd z0 z2 hX q1 q2 q3 q4 HR2 hOs hRes
              go_wp2_with fail
              go_roundw
              case rel => first | exact ⟨P', (q :: Q'), p.to, O ++ (X ++ p.text), HP2, HQ2, rfl, HSP2, HSQ2, HL1, HL2, hc2, HKP2, HKQ2, HOS, HBl9, HRES, HB9⟩ | ((repeat apply Exists.intro); exact ⟨⟨P', (q :: Q'), p.to, O ++ (X ++ p.text), HP2, HQ2, rfl, HSP2, HSQ2, HL1, HL2, hc2, HKP2, HKQ2, HOS, HBl9, HRES, HB9⟩, rfl⟩)
              case measure => first | (simp [lenV]; done) | (simp [lenV]; omega)
            · have hpb := hSP.out.2 p (by simp)
              have hqp : q.to < p.fr := by
                by_cases h : q.to < p.fr
                · exact h
                · exact absurd ⟨by omega, by omega⟩ ht
              have HQ2 := hQ.out.tl hm
              obtain ⟨B, hB0⟩ : ∃ B, (if qc = 1 then some ae else some (⟨ae.block, ae.off + 3, none⟩ : Addr)) = B := ⟨_, rfl⟩
              rw [hB0] at HQ2
              have HQ2 := Lib.hid HQ2
              have HSQ2 := Lib.hid hSQ.out.tail
              have HP2 := hP
              have HSP2 := hSP
              obtain ⟨hc1, hc2⟩ := hSQ.out.2 q (by simp)
              obtain ⟨hk1, ht1⟩ := hkq.out q (by simp)
              have HKQ2 : Hid (∀ c ∈ Q', q.to ≤ c.fr ∧ c.text.size ≤ 400) := Lib.hid (fun c hc => ⟨Nat.le_of_lt (hSQ.out.head c hc), (hkq.out c (List.mem_cons_of_mem _ hc)).2⟩)
              have HKP2 : Hid (∀ c ∈ p :: P', q.to ≤ c.fr ∧ c.text.size ≤ 400) := Lib.hid (fun c hc => ⟨by have := hSP.out.le c hc; omega, (hkp.out c hc).2⟩)
              have HR2 := Lib.hid (show res old (O ++ (old.extract k q.fr ++ q.text)) q.to (merge (p :: P') Q') = res old ⟨#[]⟩ 0 (merge P Q) by rw [← hRes.out, m_q _ _ HE.out ht hl, res_cons])
              have t5 : decide (p.fr ≤ q.to) = false := decide_eq_false (by omega)
              have t7 : decide (p.fr < q.fr) = false := decide_eq_false hl
              have t8 : ¬ ((p.fr : Int) ≤ (q.to : Int)) := by omega
              have ta : ¬ ((p.fr : Int) < (q.fr : Int)) := by omega
              have HN := Lib.hid hn
              clear hSP hSQ hkp hkq hP hQ ht hl hqp hpb hn
              go_wp2_with fail
              go_quiet (fail)
              have HX : Hid (Bx w4 G O 0 0 ⟨#[]⟩ (wc.drewN nq)) := Lib.hid (HX.out.drewN nq)
              have d0 : (wc.drewN nq).cell? ad = some (.int .i64 (p.fr : Nat)) := d0
              have d1 : (wc.drewN nq).cell? ⟨ad.block, ad.off + 1, none⟩ = some (.int .i64 (p.to : Nat)) := d1
              have d2 : (wc.drewN nq).cell? ⟨ad.block, ad.off + 2, none⟩ = some (.string p.text) := d2
              have e0 : (wc.drewN nq).cell? ae = some (.int .i64 (q.fr : Nat)) := e0
              have e1 : (wc.drewN nq).cell? ⟨ae.block, ae.off + 1, none⟩ = some (.int .i64 (q.to : Nat)) := e1
              have e2 : (wc.drewN nq).cell? ⟨ae.block, ae.off + 2, none⟩ = some (.string q.text) := e2
              generalize wc.drewN nq = w6 at *
              go_wp2_with fail
              go_quiet (fail)
              have HX : Hid (Bx w4 G O 0 0 ⟨#[]⟩ (w6.drewN nq)) := Lib.hid (HX.out.drewN nq)
              have d0 : (w6.drewN nq).cell? ad = some (.int .i64 (p.fr : Nat)) := d0
              have d1 : (w6.drewN nq).cell? ⟨ad.block, ad.off + 1, none⟩ = some (.int .i64 (p.to : Nat)) := d1
              have d2 : (w6.drewN nq).cell? ⟨ad.block, ad.off + 2, none⟩ = some (.string p.text) := d2
              have e0 : (w6.drewN nq).cell? ae = some (.int .i64 (q.fr : Nat)) := e0
              have e1 : (w6.drewN nq).cell? ⟨ae.block, ae.off + 1, none⟩ = some (.int .i64 (q.to : Nat)) := e1
              have e2 : (w6.drewN nq).cell? ⟨ae.block, ae.off + 2, none⟩ = some (.string q.text) := e2
              generalize w6.drewN nq = wa at *
              clear t5 t7 t8 ta
              have z0 := HX.out.c0
              have z1 := HX.out.c1
              have z2 := HX.out.c2
              have f0 := HX.out.fz 0
              have f1 := HX.out.fz 1
              have f2 := HX.out.fz 2
              go_upto_region 20 with fail
              have hn := HN.out
              have HX : Hid (Bx w4 G O q.fr q.to q.text _) := Lib.hid (HX.out.put q)
              clear z0 z1 z2 f0 f1 f2 d0 d1 d2 e0 e1 e2
              generalize ((World.setCell wa ⟨G, 0, none⟩ (.int .i64 (q.fr : Nat))).setCell ⟨G, 1, none⟩ (.int .i64 (q.to : Nat))).setCell ⟨G, 2, none⟩ (.string q.text) = w8 at *
              have z0 := HX.out.c0
              have z1 := HX.out.c1
              have z2 := HX.out.c2
              obtain ⟨X, hX⟩ : ∃ X, old.extract k q.fr = X := ⟨_, rfl⟩
              have hXs : X.size ≤ 200 := by rw [← hX, ByteArray.size_extract]; omega
              have q1 : (k : Int) ≤ (q.fr : Int) := by omega
              have q2 : (q.fr : Int) ≤ (old.size : Int) := by omega
              have q3 : ¬ (9223372036854775807 < X.size + q.text.size) := by omega
              have q4 : (0 : Int) ≤ (k : Int) := by omega
              go_still_tail 8, (by kernel_rfl)
              have HXd := Lib.hid (HX.out.drewN 1)
              have HL1 : (p :: P').length ≤ 400 := by first | omega | (simp only [List.length_cons]; omega) | (simp only [List.length_nil]; omega) | (simp only [List.length_cons, List.length_nil]; omega)
              have HL2 : Q'.length ≤ 400 := by first | omega | (simp only [List.length_cons]; omega) | (simp only [List.length_nil]; omega) | (simp only [List.length_cons, List.length_nil]; omega)
              have HOS := Lib.hid (show (O ++ (X ++ q.text)).size + ((p :: P').length + Q'.length) * 1000 ≤ 800000 by have := hOs.out; rw [ByteArray.size_append, ByteArray.size_append]; first | omega | (simp only [List.length_cons]; omega) | (simp only [List.length_nil]; omega) | (simp only [List.length_cons, List.length_nil]; omega))
              have WS := Lib.hid (Bld.writeString_far w4.heap.size w4.heap.size O.data.toList (X ++ q.text) w8.drew HXd.out.bl (by rw [show O.data.toList.length = O.size from rfl, ByteArray.size_append]; have := hOs.out; omega) HXd.out.below.size)
              go_wp2_with fail
              refine (WS.out).mono ?_; rintro e w9 ⟨rfl, h2, h3, h4⟩
              rw [← dtl_app] at h2
              obtain ⟨z1, hb9⟩ := HXd.out.kept h2 h3 (h4 G HXd.out.lt HXd.out.ne HXd.out.nb)
              have HBl9 := Lib.hid h2
              have HB9 := Lib.hid hb9
              have HRES := Lib.hid (show res old (O ++ (X ++ q.text)) q.to (merge (p :: P') Q') = res old ⟨#[]⟩ 0 (merge P Q) by rw [← hX]; exact HR2.out)
              clear h2 h3 h4 hb9 WS HX HXd z0 z2 hX q1 q2 q3 q4 HR2 hOs hRes
              go_wp2_with fail
              go_roundw
              case rel => first | exact ⟨(p :: P'), Q', q.to, O ++ (X ++ q.text), HP2, HQ2, rfl, HSP2, HSQ2, HL1, HL2, hc2, HKP2, HKQ2, HOS, HBl9, HRES, HB9⟩ | ((repeat apply Exists.intro); exact ⟨⟨(p :: P'), Q', q.to, O ++ (X ++ q.text), HP2, HQ2, rfl, HSP2, HSQ2, HL1, HL2, hc2, HKP2, HKQ2, HOS, HBl9, HRES, HB9⟩, rfl⟩)
              case measure => first | (simp [lenV]; done) | (simp [lenV]; omega)
end Go.Proofs.YtjicnffafhbmbaaDoor.Bo
