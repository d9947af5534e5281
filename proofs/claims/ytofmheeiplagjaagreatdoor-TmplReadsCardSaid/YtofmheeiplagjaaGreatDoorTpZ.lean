/-
  PROVED HERE: what the law TmplReads returns. Conditions: as each theorem states.
-/
import Derived.Test.YtofmheeiplagjaaGreatDoorTpF
import Derived.Test.YtofmheeiplagjaaGreatDoorTrE
import Derived.Test.YtofmheeiplagjaaGreatDoorTrF
import Derived.Test.YtofmheeiplagjaaGreatDoorFar
import Derived.Test.YtofmheeiplagjaaGreatDoorPlc
import Derived.Test.YtofmheeiplagjaaGreatDoorExpP
namespace Go.Proofs.YtofmheeiplagjaaGreatDoor.Tm
open Go.RowKit Go.Proofs.YtofmheeiplagjaaGreatDoor.Lex Go.Proofs.YtofmheeiplagjaaGreatDoor.Dig
theorem TysAt.below' {w w' : World} (hb : Below w.heap.size w w') {v : Value} {l : List Ty} (h : TysAt w v l) : TysAt w' v l := by
  obtain ⟨a, cap, e, hl, hc⟩ := h
  refine ⟨a, cap, e, hl, fun i hi => ?_⟩
  obtain ⟨ad, iv, h1, h2, h3, h4, h5⟩ := hc i hi
  exact ⟨ad, iv, h1, keepCell hb h2, keepCell hb h3, keepCell hb h4, h5.below' hb⟩
theorem tmplF_none {s : ByteArray} (h : (tmplF s).2.1 ≠ 0) : (tmplF s).1 = [] := by
  by_cases h0 : rc s = 0
  · by_cases h1 : (tloopF s.size 10 [] ⟨0, -1, rl s⟩).2.c = 0
    · rw [tmplF_ok h0 rfl h1] at h
      exact absurd rfl h
    · rw [tmplF_bad h0 rfl h1]
  · rw [tmplF_lex h0]
section
variable {W : World}
set_option maxRecDepth 100000 in
set_option maxHeartbeats 8000000 in
theorem tmpl_walk (s : ByteArray) (W : World) (hg : Err.Home W) (hm : HomeM W) (hL : LH W.heap.size W) (hx : Mx W) : Calls Tryz.prog 4 #[.string s] W fun e w' => e = .returned (.bool true) ∧ Below W.heap.size W w' := by
  by_cases hf : (900 < s.size ∧ s.size ≤ 3000) ∨ 3009 < s.size
  · have F := Lib.hid (far_yes s hf)
    clear hf hm hL hg hx
    go_enter Tryz.func4, Tryz.ntmps4
    go_wp2_with fail
    refine (F.out _).mono ?_; rintro e w' ⟨rfl, rfl⟩
    go_wp2_with fail
    go_ret
    exact ⟨rfl, Below.refl _ _⟩
  · have F := Lib.hid (far_no s (by omega))
    have hs4 : s.size ≤ 4000 := by omega
    have hs9 : s.size ≤ 900 ∨ 3000 < s.size := by omega
    have hml : 3 < W.heap.size := by
      obtain ⟨m, hm⟩ := hx
      exact World.block_lt_of_cell? W _ hm
    have HD := Lib.hid (tmpl_strong (W := W) s hs4 hs9 hx hml)
    have HP := Lib.hid (fun w1 (hb : Below W.heap.size W w1) => tParse_any s hs4 hs9 w1 (hm.below hb) ((hL.keep fun k hk => hb.block k hk).mono_b hb.size))
    have HG := Lib.hid hg
    have HL := Lib.hid hL
    have HN := Lib.hid (fun h => tmplF_none (s := s) h)
    unfold TpS at HD
    unfold EtP at HP
    obtain ⟨⟨l, f1, f2⟩, hF⟩ : ∃ F, tmplF s = F := ⟨_, rfl⟩
    rw [hF] at HD HP HN
    simp only at HD HP HN
    have et : (f1 == f1 && f2 == f2) = true := by simp
    clear hf hm hL hg hx hs4 hs9 hF hml
    go_enter Tryz.func4, Tryz.ntmps4
    go_wp2_with fail
    refine (F.out _).mono ?_; rintro e w' ⟨rfl, rfl⟩
    go_wp2_with fail
    refine (HD.out).mono ?_; rintro e w1 ⟨va, rfl, hb, ⟨a1, a2, a3, rfl⟩, hta, hok⟩
    have B1 := Lib.hid hb
    have TA := Lib.hid (TysAt.below' (Below.refl _ _) hta.now)
    have HO := Lib.hid (show TyOk l from by
      by_cases h0 : f1 = 0
      · exact hok h0
      · rw [HN.out h0]
        exact ⟨Nat.zero_le _, fun t ht => by cases ht⟩)
    clear hb hta hok HD
    go_upto_region 4 with fail
    have bA : Below w1.heap.size w1 (w1.alloc (.cells #[.int .i64 f1, .int .i64 f2] 27)) := (Below.refl _ _).alloc (Nat.le_refl _) _
    have fA : (w1.alloc (.cells #[.int .i64 f1, .int .i64 f2] 27)).heap[w1.heap.size]? = some (.cells #[.int .i64 f1, .int .i64 f2] 27) := heap_alloc_new _ _
    generalize w1.alloc (.cells #[.int .i64 f1, .int .i64 f2] 27) = w2 at *
    have B2 := Lib.hid (B1.out.trans (bA.mono B1.out.size))
    have TA2 := Lib.hid (TA.out.below' bA)
    obtain ⟨X9, hX9⟩ : ∃ X, w1.heap.size = X := ⟨_, rfl⟩
    rw [hX9] at fA ⊢
    have F2 := Lib.hid fA
    clear bA fA hX9 TA
    go_wp2_with fail
    refine (HP.out w2 B2.out).mono ?_; rintro e w3 ⟨vb, ev, rfl, he, hb, ⟨b1, b2, b3, rfl⟩, htb⟩
    have B3 := Lib.hid (B2.out.trans (hb.mono B2.out.size))
    have TA3 := Lib.hid (TA2.out.below' hb)
    have TB3 := Lib.hid htb.now
    have F3 := (hb.block _ (Array.getElem?_eq_some_iff.1 F2.out).1).trans F2.out
    have x0 : w3.cell? ⟨X9, 0, none⟩ = some (.int .i64 f1) := by unfold World.cell?; rw [F3]; rfl
    have x1 : w3.cell? ⟨X9, 1, none⟩ = some (.int .i64 f2) := by unfold World.cell?; rw [F3]; rfl
    have P3 := Lib.hid (Chr.placed_any ev f1 f2 f1 f2 w3 (HG.out.below B3.out) he)
    clear hb he htb HP F3 TA2 F2
    have TA3' := TA3.out
    have TB3' := TB3.out
    obtain ⟨pa, ca, ea, hla, _⟩ := TA3'
    obtain ⟨pb, cb, eb, hlb, _⟩ := TB3'
    simp only [Value.slice.injEq] at ea eb
    obtain ⟨rfl, rfl, rfl⟩ := ea
    obtain ⟨rfl, rfl, rfl⟩ := eb
    have e0 : ((l.length : Int) != l.length) = false := by simp
    go_wp2_with fail
    refine (P3.out).mono ?_; rintro e w4 ⟨rfl, hb⟩
    rw [et]
    have B4 := Lib.hid (B3.out.trans (hb.mono B3.out.size))
    have TA := Lib.hid (TA3.out.below' hb)
    have TB := Lib.hid (TB3.out.below' hb)
    have y0 := keepCell hb x0
    have y1 := keepCell hb x1
    clear hb x0 x1 P3 TA3 TB3
    have h8 := HO.out.1
    go_wp2_with fail
    go_loopw [7] (fun i wr => ∃ j : Nat, i = .int .i64 (j : Nat) ∧ j ≤ l.length ∧ Hid (Below w4.heap.size w4 wr)) (fun i _ => l.length - (intOf i).toNat)
    case atStart => exact ⟨0, rfl, Nat.zero_le _, Lib.hid (Below.refl _ _)⟩
    case round =>
      obtain ⟨j, rfl, hj, HB⟩ := hrel
      by_cases hlt : j < l.length
      · have d1 : (j : Int) < (l.length : Int) := by omega
        have i0 : (0 : Int) ≤ (j : Int) := by omega
        have htk := HO.out.2 _ (List.getElem_mem hlt)
        obtain ⟨_, _, ea, _, ra⟩ := TA.out
        simp only [Value.slice.injEq, true_and] at ea
        obtain ⟨rfl, rfl⟩ := ea
        obtain ⟨_, _, eb, _, rb⟩ := TB.out
        simp only [Value.slice.injEq, true_and] at eb
        obtain ⟨rfl, rfl⟩ := eb
        obtain ⟨ad, iva, rfl, r0, r1, r2, ita⟩ := ra j hlt
        obtain ⟨bd, ivb, rfl, q0, q1, q2, itb⟩ := rb j hlt
        obtain ⟨⟨nm, k, its⟩, ht⟩ : ∃ t, l[j] = t := ⟨_, rfl⟩
        rw [ht] at r0 r1 ita q0 q1 itb htk
        simp only at r0 r1 ita q0 q1 itb htk
        obtain ⟨s1, s2, s3, rfl⟩ := its_slice ita
        obtain ⟨t1, t2, t3, rfl⟩ := its_slice itb
        have hi4 : cl its ≤ 4000 := htk.2.2.2
        have CI := Lib.hid (fun (w : World) (hb : Below w4.heap.size w4 w) => sameItems_any (cl its + 1) its (.slice s1 s2 s3) (.slice t1 t2 t3) w (Nat.lt_succ_self _) (by omega) (ita.below' hb) (itb.below' hb))
        unfold SmI at CI
        have a0 := keepCell HB.out r0
        have a1 := keepCell HB.out r1
        have a2 := keepCell HB.out r2
        rw [Nat.add_zero] at a0
        rw [add_next2 ad (j * 3) 0] at a1
        rw [add_next2 ad (j * 3) 1] at a2
        have b0 := keepCell HB.out q0
        have b1 := keepCell HB.out q1
        have b2 := keepCell HB.out q2
        rw [Nat.add_zero] at b0
        rw [add_next2 bd (j * 3) 0] at b1
        rw [add_next2 bd (j * 3) 1] at b2
        clear r0 r1 r2 ita q0 q1 q2 itb ht htk ra rb
        obtain ⟨⟨g1, o1, z1⟩, hA1⟩ : ∃ A, ad.add (j * 3) = A := ⟨_, rfl⟩
        obtain ⟨⟨g2, o2, z2⟩, hA2⟩ : ∃ A, bd.add (j * 3) = A := ⟨_, rfl⟩
        rw [hA1] at a0 a1 a2
        rw [hA2] at b0 b1 b2
        simp only [Nat.zero_add] at a1 a2 b1 b2
        have m0 : (nm.toList == nm.toList) = true := by simp
        have m1 : ((k : Int) == (k : Int)) = true := by simp
        have KK := Lib.hid (fun (w' : World) (hb : Below wr.heap.size wr w') => (show w'.cell? ⟨g1, o1, z1⟩ = some (.string nm) ∧ w'.cell? ⟨g1, o1 + 1, none⟩ = some (.int .i64 (k : Nat)) ∧ w'.cell? ⟨g1, o1 + (1 + 1), none⟩ = some (.slice s1 s2 s3) ∧ w'.cell? ⟨g2, o2, z2⟩ = some (.string nm) ∧ w'.cell? ⟨g2, o2 + 1, none⟩ = some (.int .i64 (k : Nat)) ∧ w'.cell? ⟨g2, o2 + (1 + 1), none⟩ = some (.slice t1 t2 t3) from ⟨keepCell hb a0, keepCell hb a1, keepCell hb a2, keepCell hb b0, keepCell hb b1, keepCell hb b2⟩))
        have HX : Hid (Below wr.heap.size wr wr) := Lib.hid (Below.refl _ _)
        go_upto_region 10 with fail
        go_region_held3 (fun w' => w'.cell? ⟨g1, o1, z1⟩ = some (.string nm) ∧ w'.cell? ⟨g1, o1 + 1, none⟩ = some (.int .i64 (k : Nat)) ∧ w'.cell? ⟨g1, o1 + (1 + 1), none⟩ = some (.slice s1 s2 s3) ∧ w'.cell? ⟨g2, o2, z2⟩ = some (.string nm) ∧ w'.cell? ⟨g2, o2 + 1, none⟩ = some (.int .i64 (k : Nat)) ∧ w'.cell? ⟨g2, o2 + (1 + 1), none⟩ = some (.slice t1 t2 t3))
          (first | exact KK.out _ HX.out | exact KK.out _ HX.out.drew)
          (first
            | (go_at_call 17; refine (CI.out _ (by first | exact HB.out.trans (HX.out.mono HB.out.size) | exact HB.out.trans (HX.out.drew.mono HB.out.size))).mono ?_; rintro e w6 ⟨rfl, hb⟩; have HX : Hid (Below wr.heap.size wr w6) := Lib.hid (by first | exact HX.out.trans (hb.mono HX.out.size) | exact HX.out.drew.trans (hb.mono HX.out.size)); clear hb))
        all_goals
          have B8 := Lib.hid (HB.out.trans (HX.out.mono HB.out.size))
          go_wp2_with fail
          go_roundw
          case rel => exact ⟨j + 1, by go_num, hlt, by first | exact B8 | exact Lib.hid B8.out.drew⟩
          case measure => first | (simp [intOf]; done) | (simp [intOf]; omega)
      · have d1 : ¬ (j : Int) < (l.length : Int) := by omega
        have B5 := Lib.hid (B4.out.trans (HB.out.mono B4.out.size))
        have CP := Lib.hid (print_any (BL := W.heap.size) l _ (TA.out.below' HB.out) HO.out (HL.out.keep fun k hk => B5.out.block k hk) B5.out.size)
        have CQ := Lib.hid (fun (w : World) (hb : Below wr.heap.size wr w) => docPrint_any l _ (TA.out.below' (HB.out.trans (hb.mono HB.out.size))) HO.out (W := w))
        unfold TtP at CP CQ
        go_wp2_with fail
        refine (CP.out).mono ?_; rintro e w6 ⟨⟨u, rfl, hu⟩, hb⟩
        have K6 := Lib.hid hb
        have HU := Lib.hid hu
        clear hb hu
        go_wp2_with fail
        refine (CQ.out w6 K6.out).mono ?_; rintro e w7 ⟨⟨v, rfl, hv⟩, hb⟩
        have K7 := Lib.hid (K6.out.trans (hb.mono K6.out.size))
        obtain rfl : u = v := data_eq (HU.out.trans hv.symm)
        have eu : (u.toList == u.toList) = true := by simp
        clear hb hv
        go_wp2_with fail
        go_ret
        exact ⟨by first | rfl | simp, B5.out.trans (K7.out.mono B5.out.size)⟩
end
end Go.Proofs.YtofmheeiplagjaaGreatDoor.Tm
