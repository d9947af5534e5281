/-
  PROVED HERE: what the law ExprReads returns. Conditions: as each theorem states.
-/
import Derived.Test.YtofmheeiplagjaaGreatDoorExpN
import Derived.Test.YtofmheeiplagjaaGreatDoorExpK
import Derived.Test.YtofmheeiplagjaaGreatDoorExpG
import Derived.Test.YtofmheeiplagjaaGreatDoorFar
import Derived.Test.YtofmheeiplagjaaGreatDoorPlc
namespace Go.Proofs.YtofmheeiplagjaaGreatDoor.Tm
open Go.RowKit Go.Proofs.YtofmheeiplagjaaGreatDoor.Lex Go.Proofs.YtofmheeiplagjaaGreatDoor.Dig
theorem prS_lv {s : ByteArray} (hf : s.size ≤ 900 ∨ 3000 < s.size) (hs : s.size ≤ 4000) (hc : (prS s).2.c = 0) {x : Ex} (hx : (prS s).1 = some x) : leaves x ≤ 4000 ∧ ExOk x := by
  have h1 := expr_sz s.size ((rl s).length + 1) 1 0 ⟨0, -1, rl s⟩ hc x hx
  have h2 := rl_few s
  refine ⟨?_, expr_okk hs _ _ _ _ (allT_rl hf) x hx⟩
  have h3 : leaves x + (prS s).2.l.length ≤ (rl s).length := h1
  omega
theorem pfS_c {s : ByteArray} (h : (pfS s).1 = 0) : (prS s).2.c = 0 := by
  unfold pfS at h
  split at h
  · rename_i h1; exact absurd h h1
  split at h
  · rename_i h1; exact absurd h h1
  · rename_i h1; exact Classical.byContradiction fun q => h1 q
section
variable {W : World}
set_option maxRecDepth 100000 in
set_option maxHeartbeats 4000000 in
theorem expr_walk (s : ByteArray) (mo : Option Nat) (f : ByteArray → Int × Bool) (ml : Nat) (W : World) (hg : Err.Home W) (hm : HomeM W) (hL : LH W.heap.size W) (hN : Nms W mo f) (hn : ∀ ty, (Builtin.len_ #[22] ty #[.map mo]).run Tryz.prog W = .ok (.int .i64 (ml : Int)) W) : Calls Tryz.prog 3 #[.string s, .map mo] W fun e w' => e = .returned (.bool true) ∧ Below W.heap.size W w' := by
  by_cases hf : (900 < s.size ∧ s.size ≤ 3000) ∨ 3009 < s.size
  · have F := Lib.hid (far_yes s hf)
    clear hf hm hL hg hN
    go_enter Tryz.func3, Tryz.ntmps3
    go_wp2_with fail
    refine (F.out _).mono ?_; rintro e w' ⟨rfl, rfl⟩
    go_wp2_with fail
    go_ret
    exact ⟨rfl, Below.refl _ _⟩
  · have F := Lib.hid (far_no s (by omega))
    by_cases h20 : 20 < ml
    · have d : (20 : Int) < (ml : Int) := by omega
      clear hf hm hL hg hN
      go_enter Tryz.func3, Tryz.ntmps3
      go_wp2_with fail
      refine (F.out _).mono ?_; rintro e w' ⟨rfl, rfl⟩
      go_wp2_with fail
      go_ret
      exact ⟨rfl, Below.refl _ _⟩
    · have d : ¬ (20 : Int) < (ml : Int) := by omega
      have hs4 : s.size ≤ 4000 := by omega
      have hs9 : s.size ≤ 900 ∨ 3000 < s.size := by omega
      have HD := Lib.hid (docParse_any s hs4 hs9 W)
      have HP := Lib.hid (fun w1 (hb : Below W.heap.size W w1) => Parse_any s hs4 hs9 w1 (hm.below hb) ((hL.keep fun k hk => hb.block k hk).mono_b hb.size))
      have HG := Lib.hid hg
      have HL := Lib.hid hL
      have HN := Lib.hid hN
      have HX := Lib.hid (fun (h : (pfS s).1 = 0) (x : Ex) (hx : (prS s).1 = some x) => prS_lv hs9 hs4 (pfS_c h) hx)
      unfold DpP at HD
      unfold EpP at HP
      obtain ⟨R, hR⟩ : ∃ R, prS s = R := ⟨_, rfl⟩
      obtain ⟨⟨f1, f2⟩, hF⟩ : ∃ F, pfS s = F := ⟨_, rfl⟩
      rw [hR, hF] at HD HP HX
      simp only at HD HP HX
      have et : (f1 == f1 && f2 == f2) = true := by simp
      clear hf h20 hm hL hg hN hs4 hs9 hR hF
      go_enter Tryz.func3, Tryz.ntmps3
      go_wp2_with fail
      refine (F.out _).mono ?_; rintro e w' ⟨rfl, rfl⟩
      go_wp2_with fail
      refine (HD.out).mono ?_; rintro e w1 ⟨va, rfl, hb, ha0, ha1⟩
      have B1 := Lib.hid hb
      have A0 := Lib.hid ha0
      have A1 := Lib.hid ha1
      clear hb ha0 ha1 HD
      go_upto_region 4 with fail
      have bA : Below w1.heap.size w1 (w1.alloc (.cells #[.int .i64 f1, .int .i64 f2] 27)) := (Below.refl _ _).alloc (Nat.le_refl _) _
      have fA : (w1.alloc (.cells #[.int .i64 f1, .int .i64 f2] 27)).heap[w1.heap.size]? = some (.cells #[.int .i64 f1, .int .i64 f2] 27) := heap_alloc_new _ _
      have K2 := Lib.hid bA
      generalize w1.alloc (.cells #[.int .i64 f1, .int .i64 f2] 27) = w2 at *
      have B2 := Lib.hid (B1.out.trans (bA.mono B1.out.size))
      obtain ⟨X9, hX9⟩ : ∃ X, w1.heap.size = X := ⟨_, rfl⟩
      rw [hX9] at fA ⊢
      have F2 := Lib.hid fA
      clear bA fA hX9
      go_wp2_with fail
      refine (HP.out w2 B2.out).mono ?_; rintro e w3 ⟨vb, ev, rfl, he, hb, hb0, hb1⟩
      have K3 := Lib.hid hb
      have B3 := Lib.hid (B2.out.trans (hb.mono B2.out.size))
      have F3 := (hb.block _ (Array.getElem?_eq_some_iff.1 F2.out).1).trans F2.out
      have x0 : w3.cell? ⟨X9, 0, none⟩ = some (.int .i64 f1) := by unfold World.cell?; rw [F3]; rfl
      have x1 : w3.cell? ⟨X9, 1, none⟩ = some (.int .i64 f2) := by unfold World.cell?; rw [F3]; rfl
      have P3 := Lib.hid (Chr.placed_any ev f1 f2 f1 f2 w3 (HG.out.below B3.out) he)
      have V0 := Lib.hid hb0
      have V1 := Lib.hid hb1
      clear hb he hb0 hb1 HP F3
      by_cases h1 : f1 = 0
      · subst h1
        obtain ⟨x, hx, xa⟩ := A1.out rfl
        obtain ⟨y, hy, yb⟩ := V1.out rfl
        obtain rfl : x = y := by rw [hx] at hy; injection hy
        obtain ⟨hlv, hok⟩ := HX.out rfl x hx
        have XA := Lib.hid (ExAt.below K3.out x va (ExAt.below K2.out x va xa))
        have YB := Lib.hid yb
        have OK := Lib.hid hok
        have LV := Lib.hid hlv
        clear hx hy xa yb hok hlv A0 A1 V0 V1 HX K2 K3
        have e0 : ((0 : Int) == 0) = true := rfl
        go_wp2_with fail
        refine (P3.out).mono ?_; rintro e w4 ⟨rfl, hb⟩
        rw [et]
        have B4 := Lib.hid (B3.out.trans (hb.mono B3.out.size))
        have y0 := keepCell hb x0
        have y1 := keepCell hb x1
        have XA4 := Lib.hid (ExAt.below hb x va XA.out)
        have SM := Lib.hid (same_any x vb va w4 (ExAt.below hb x vb YB.out) XA4.out)
        clear hb x0 x1 YB XA P3
        go_wp2_with fail
        refine (SM.out).mono ?_; rintro e w5 ⟨rfl, nn, rfl⟩
        have B5 := Lib.hid (below_drewN B4.out nn)
        have z0 : (w4.drewN nn).cell? ⟨X9, 0, none⟩ = some (.int .i64 0) := y0
        have z1 : (w4.drewN nn).cell? ⟨X9, 1, none⟩ = some (.int .i64 f2) := y1
        have XA5 := Lib.hid (XA4.out.drewN nn)
        clear y0 y1 B4 SM XA4
        generalize w4.drewN nn = w5 at *
        go_wp2_with fail
        refine (is_any 0 f2 _).mono ?_; rintro e w6 ⟨rfl, hb⟩
        rw [e0]
        have B6 := Lib.hid (B5.out.trans (hb.mono B5.out.size))
        have XA6 := Lib.hid (ExAt.below hb x va XA5.out)
        have CD := Lib.hid (docEval_any f mo x va w6 OK.out XA6.out (HN.out.below B6.out))
        have CE := Lib.hid (fun w (hb : Below w6.heap.size w6 w) => eval_any f mo x va w OK.out (ExAt.below hb x va XA6.out) (HN.out.below (B6.out.trans (hb.mono B6.out.size))))
        have CT := Lib.hid (fun w (hb : Below w6.heap.size w6 w) => expText_any (B := W.heap.size) x va w OK.out LV.out (ExAt.below hb x va XA6.out) (HL.out.keep fun k hk => (B6.out.trans (hb.mono B6.out.size)).block k hk) (B6.out.trans (hb.mono B6.out.size)).size)
        have CU := Lib.hid (fun w (hb : Below w6.heap.size w6 w) => docText_any x va w OK.out LV.out (ExAt.below hb x va XA6.out))
        unfold DvP at CD
        unfold EvP at CE
        obtain ⟨⟨n, q1, q2⟩, hQ⟩ : ∃ Q, evalF f x = Q := ⟨_, rfl⟩
        obtain ⟨tx, hT⟩ : ∃ t, textF x = t := ⟨_, rfl⟩
        rw [hQ] at CD CE
        rw [hT] at CT CU
        simp only at CD CE
        have eq : (q1 == q1 && q2 == q2) = true := by simp
        clear hb XA5 B5 z0 z1 OK LV HL HN hQ hT
        go_wp2_with fail
        refine (CD.out).mono ?_; rintro e w7 ⟨rfl, hb⟩
        have K7 := Lib.hid hb
        clear hb CD
        go_upto_region 10 with fail
        have bA : Below w7.heap.size w7 (w7.alloc (.cells #[.int .i64 q1, .int .i64 q2] 27)) := (Below.refl _ _).alloc (Nat.le_refl _) _
        have fA : (w7.alloc (.cells #[.int .i64 q1, .int .i64 q2] 27)).heap[w7.heap.size]? = some (.cells #[.int .i64 q1, .int .i64 q2] 27) := heap_alloc_new _ _
        generalize w7.alloc (.cells #[.int .i64 q1, .int .i64 q2] 27) = w8 at *
        have K8 := Lib.hid (K7.out.trans (bA.mono K7.out.size))
        obtain ⟨Y9, hY9⟩ : ∃ X, w7.heap.size = X := ⟨_, rfl⟩
        rw [hY9] at fA ⊢
        have F8 := Lib.hid fA
        clear bA fA hY9 K7
        go_wp2_with fail
        refine (CE.out w8 K8.out).mono ?_; rintro e w9 ⟨ew, rfl, he, _, hb⟩
        have K9 := Lib.hid (K8.out.trans (hb.mono K8.out.size))
        have F9 := (hb.block _ (Array.getElem?_eq_some_iff.1 F8.out).1).trans F8.out
        have x0 : w9.cell? ⟨Y9, 0, none⟩ = some (.int .i64 q1) := by unfold World.cell?; rw [F9]; rfl
        have x1 : w9.cell? ⟨Y9, 1, none⟩ = some (.int .i64 q2) := by unfold World.cell?; rw [F9]; rfl
        have P9 := Lib.hid (Chr.placed_any ew q1 q2 q1 q2 w9 (HG.out.below (B6.out.trans (K9.out.mono B6.out.size))) he)
        clear hb he F9 F8 K8 CE
        have en : (n == n) = true := by simp
        have es : (tx.toList == tx.toList) = true := by simp
        go_wp2_with fail
        refine (P9.out).mono ?_; rintro e wa ⟨rfl, hb⟩
        rw [eq]
        have KA := Lib.hid (K9.out.trans (hb.mono K9.out.size))
        clear hb x0 x1 P9 K9
        go_wp2_with fail
        refine (CT.out wa KA.out).mono ?_; rintro e wb ⟨rfl, hb⟩
        have KB := Lib.hid (KA.out.trans (hb.mono KA.out.size))
        clear hb
        go_wp2_with fail
        refine (CU.out wb KB.out).mono ?_; rintro e wc ⟨rfl, hb⟩
        have KC := Lib.hid (KB.out.trans (hb.mono KB.out.size))
        clear hb
        go_wp2_with fail
        go_ret
        exact ⟨by simp, B6.out.trans (KC.out.mono B6.out.size)⟩
      · obtain rfl := A0.out h1
        obtain rfl := V0.out h1
        have e0 : (f1 == 0) = false := by rw [beq_eq_false_iff_ne]; exact h1
        go_wp2_with fail
        refine (P3.out).mono ?_; rintro e w4 ⟨rfl, hb⟩
        rw [et]
        have B4 := Lib.hid (B3.out.trans (hb.mono B3.out.size))
        have y0 := keepCell hb x0
        have y1 := keepCell hb x1
        clear hb x0 x1
        go_wp2_with fail
        refine (same_nil w4).mono ?_; rintro e w5 ⟨rfl, nn, rfl⟩
        have B5 := Lib.hid (below_drewN B4.out nn)
        have z0 : (w4.drewN nn).cell? ⟨X9, 0, none⟩ = some (.int .i64 f1) := y0
        have z1 : (w4.drewN nn).cell? ⟨X9, 1, none⟩ = some (.int .i64 f2) := y1
        clear y0 y1 B4
        generalize w4.drewN nn = w5 at *
        go_wp2_with fail
        refine (is_any f1 f2 _).mono ?_; rintro e w6 ⟨rfl, hb⟩
        rw [e0]
        have B6 := Lib.hid (B5.out.trans (hb.mono B5.out.size))
        clear hb
        go_wp2_with fail
        go_ret
        exact ⟨rfl, B6.out⟩
end
end Go.Proofs.YtofmheeiplagjaaGreatDoor.Tm
