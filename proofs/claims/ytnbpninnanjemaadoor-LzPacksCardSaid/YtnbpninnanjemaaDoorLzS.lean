/-
  PROVED HERE: the contract of lz.Pack. Conditions: as each theorem states.
-/
import Derived.Test.YtnbpninnanjemaaDoorLzR
namespace Go.Proofs.YtnbpninnanjemaaDoor.Lz
open Go.RowKit Go.WideMaps Go.Maps Go.ChangeShapes
theorem infoInt : (Tryd.prog.info? 3).map (fun i => (i.zero, i.size, i.bytes)) = some (some (.int .i64 0), 1, 8) := by kernel_rfl
def PkP (l : List UInt8) (w : World) (e : Ending) (w' : World) : Prop := e = .returned (.tuple #[.string ⟨l.toArray⟩, .nilIface]) ∧ Below w.heap.size w w'
set_option maxRecDepth 100000 in
theorem pack_far (s : ByteArray) (h : 4000 < s.size) (W : World) : Calls Tryd.prog 6 #[.string s] W fun e w' => e = .returned (.tuple #[.string ⟨#[]⟩, .iface 22 (.int .i64 4)]) ∧ W = w' := by
  have h2 : (4000 : Int) < (s.size : Int) := by omega
  go_enter Tryd.func6, Tryd.ntmps6
  go_wp2_with fail
  go_ret2
  exact ⟨rfl, rfl⟩
theorem drewN_grown {w w' : World} {row : Option Nat} (h : w.drew.grownBy w' row) : w.grownBy w' row := ⟨h.os, h.tape, h.output, h.size, h.block⟩
set_option maxRecDepth 100000 in
set_option maxHeartbeats 8000000 in
theorem pack_any (s : ByteArray) (hs : s.size ≤ 1500) (W : World) : Calls Tryd.prog 6 #[.string s] W (PkP (pk s 0 [] []) W) := by
  have hmm := @run_makeMap Tryd.prog
  have h4 : (s.size : Int) ≤ 4000 := by omega
  obtain ⟨i0, hi0, hz0, hz1, hz2⟩ := info_parts infoInt
  have S0 := Lib.hid (st_new W)
  have G0 := Lib.hid (gs_start W s)
  have K0 := Lib.hid (pk_start s)
  go_enter Tryd.func6, Tryd.ntmps6
  go_wp2_with fail
  clear hmm
  go_loopw [8] (fun a wr => ∃ (i : Nat) (o p : List UInt8), i ≤ s.size ∧ a = .int .i64 (i : Int) ∧ Hid (Pk s i o p) ∧ Hid (St W W.heap.size o p wr) ∧ Hid (Gs W.heap.size i i s wr)) (fun a _ => s.size - (intOf a).toNat)
  case atStart => exact ⟨0, [], [], Nat.zero_le _, rfl, K0, S0, G0⟩
  case round =>
    obtain ⟨i, o, p, hi, rfl, hK, hS, hG⟩ := hrel
    clear K0 S0 G0
    have hol : o.length ≤ 3000 ∧ p.length < 128 := by obtain ⟨_, _, _, _, h3, _, h5⟩ := hK.out; omega
    obtain ⟨hol, hpl⟩ := hol
    by_cases hlt : i < s.size
    · have i1 : (0 : Int) ≤ (i : Int) := by omega
      have i2 : (i : Int) < (s.size : Int) := by omega
      have C : Hid (Calls Tryd.prog 17 #[.string s, .int .i64 (i : Int), .map (some W.heap.size)] wr (LgP s i wr)) := Lib.hid (by
        rcases Nat.lt_or_ge s.size (i + 3) with c | c
        · exact longest_none s i hs hlt c wr _
        · exact longest_some s i hs c W.heap.size i (by omega) wr hG.out)
      have HKb := Lib.hid (hK.out.byte hlt)
      have HKk := Lib.hid (hK.out.back hlt)
      have hRl := R_le s i
      clear hK
      unfold LgP at C
      generalize hRR : R s i = r at *
      obtain ⟨n, b⟩ := r
      have HR := Lib.hid hRR
      clear hRR
      simp only at hRl
      obtain ⟨hr1, hr2, hr3, hr4⟩ := hRl
      go_wp2_with fail
      refine C.out.mono ?_; rintro e w1 ⟨rfl, d, rfl⟩
      have hS := Lib.hid (hS.out.drewN d)
      have hG := Lib.hid (hG.out.fr (Fr.below (below_drewN (Below.refl _ _) d)))
      generalize wr.drewN d = w2 at *
      clear C

      by_cases hn0 : n = 0
      · subst hn0
        have hin : i + 1 ≤ s.size := by omega
        obtain ⟨K1a, K1b⟩ := HKb.out rfl
        have KA := Lib.hid K1a
        have KB := Lib.hid K1b
        have hsi : (s[i]'hlt).toNat = (ub s i).toNat := by rw [ub_eq s i hlt]
        clear K1a K1b HKb HKk hr4
        generalize ub s i = x at *
        have hsx := hsi
        clear hsi
        obtain ⟨b1, b2, vo, vp, c5, c6, f5, f6, o5, o6, hd⟩ := hS.out
        obtain ⟨a6, k6, rfl⟩ := o6.len
        have O6 := Lib.hid o6
        have L1 := Lib.hid (show ((u8s p).length + 1) * 1 ≤ 1000000000000 ∧ (u8s p).length + 1 ≤ 1000000000000 by rw [u8s_len]; omega)
        have SB := Lib.hid (fun (w1 : World) v' (ho : Own w1 (W.heap.size + 3) 5 v' (u8s p ++ [.int .u8 (x.toNat : Int)])) hg hat => st_byte b1 b2 c5 c6 f5 f6 o5 o6 hd ho hg hat)
        have hszl : (u8s p).length < 128 := by rw [u8s_len]; exact hpl
        have HPL := Lib.hid (u8s_len p)
        have hG0 : Hid (∀ w', Fr W.heap.size w2 w' → Gs W.heap.size i i s w') := Lib.hid (fun w' h => hG.out.fr h)
        have n6 : (w2.alloc (.cells #[.int .u8 (x.toNat : Int)] 5)).cell? ⟨W.heap.size + 2, 0, none⟩ = some (.slice a6 (u8s p).length k6) := (World.cell?_alloc_lt _ _ _ (by show W.heap.size + 2 < _; omega)).trans c6
        have hrow : Hid (∀ (w1 : World), (w2.alloc (.cells #[.int .u8 (x.toNat : Int)] 5)).grownBy w1 (Value.slice a6 (u8s p).length k6).ownBlock → w1.cell? ⟨W.heap.size + 2, 0, none⟩ = some (.slice a6 (u8s p).length k6) ∧ w1.frozen? ⟨W.heap.size + 2, 0, none⟩ = false) := Lib.hid (fun w1 hg => by
          have e2 : w1.heap[W.heap.size + 2]? = w2.heap[W.heap.size + 2]? := (hg.block _ (by simp; omega) (fun e => by have := (o6.lt _ e.symm).1; omega)).trans (Below.heap_alloc w2 _ _ b2)
          exact ⟨(World.cell?_of_block (a := ⟨W.heap.size + 2, 0, none⟩) e2).trans c6, (World.frozen?_of_block (a := ⟨W.heap.size + 2, 0, none⟩) e2).trans f6⟩)
        obtain ⟨m1, hm1⟩ : ∃ m1, m1 = u8s p ++ [.int .u8 (x.toNat : Int)] := ⟨_, rfl⟩
        have hml : m1.length = p.length + 1 := by rw [hm1, List.length_append, u8s_len]; rfl
        have HM := Lib.hid hm1
        have HML := Lib.hid hml
        have FL := Lib.hid (fun w' (h : St W W.heap.size o (p ++ [x]) w') => flush_any W W.heap.size o (p ++ [x]) w' h (by omega) (by rw [List.length_append]; simp; omega))
        clear b1 o5 o6 hd c5 f5 hm1
        go_wp2_with fail
        go_region_law ((refine own_append_step (by rfl) _ _ 41 (by rfl) (W.heap.size + 3) 5 (.int .u8 0) 1 Tryd.underlying41 infoU8 rfl _ _ (by rfl) (by first | exact (O6.out.drew).alloc _ | exact (O6.out.alloc _).drew) ⟨w2.heap.size, 0, none⟩ 1 1 [.int .u8 (x.toNat : Int)] (by rfl) rfl (by first | exact World.news_of_block (heap_alloc_new _ _) | exact World.news_of_block (heap_alloc_new w2 _)) (by simp [Value.oneCell']) L1.out.1 L1.out.2 (by simp; omega) ?_; intro v1 w1 ho1 hg1 hb1 hat1; have hgA : (w2.alloc (.cells #[.int .u8 (x.toNat : Int)] 5)).grownBy w1 (Value.slice a6 (u8s p).length k6).ownBlock := ⟨hg1.os, hg1.tape, hg1.output, hg1.size, hg1.block⟩; have SR := Lib.hid (SB.out w1 v1 ho1 ((World.grownBy_alloc w2 _ _).trans hgA) (hat1.imp id (fun h => ⟨_, h, by simp⟩))); obtain ⟨k7, f7⟩ := hrow.out w1 hgA; rw [← HM.out] at ho1; obtain ⟨a7, c7, rfl⟩ := ho1.len; clear ho1 hg1 hb1 hat1 hgA))
        all_goals
          have SR2 : Hid (St W W.heap.size o (p ++ [x]) (w1.setCell ⟨W.heap.size + 1 + 1, 0, none⟩ (.slice a7 (p.length + 1) c7)) ∧ Fr W.heap.size w2 (w1.setCell ⟨W.heap.size + 1 + 1, 0, none⟩ (.slice a7 (p.length + 1) c7))) := Lib.hid (by rw [← HML.out]; exact SR.out)
          have k8 : (w1.setCell ⟨W.heap.size + 1 + 1, 0, none⟩ (.slice a7 (p.length + 1) c7)).cell? ⟨W.heap.size + 1 + 1, 0, none⟩ = some (.slice a7 (p.length + 1) c7) := World.cell?_setCell_same _ _ _ k7
          clear SR hml k7 f7 n6 c6 hszl hsx
          generalize w1.setCell ⟨W.heap.size + 1 + 1, 0, none⟩ (.slice a7 (p.length + 1) c7) = w5 at *
          have G5 := Lib.hid (hG0.out w5 SR2.out.2)
          by_cases hfull : p.length + 1 = 128
          · have e1 : (((p.length : Nat) : Int) + 1 == 128) = true := by rw [beq_iff_eq]; omega
            have F5 := Lib.hid (FL.out w5 SR2.out.1)
            have K1 := Lib.hid (KB.out hfull)
            clear hfull KA KB FL
            go_wp2_with fail
            refine F5.out.mono ?_; rintro e w6 ⟨rfl, hS6, hF6⟩
            have S1 := Lib.hid hS6
            have G1 := Lib.hid (G5.out.fr hF6)
            clear hS6 hF6 F5 hS hG k8 e1
            go_wp2_with fail
            go_loopw [8, 57] (fun aa jj wr => ∃ j : Nat, j ≤ 1 ∧ jj = .int .i64 (j : Int) ∧ aa = .int .i64 ((i + j : Nat) : Int) ∧ Hid (St W W.heap.size (fl o (p ++ [x])) [] wr) ∧ Hid (Gs W.heap.size (i + j) (i + j) s wr)) (fun _ jj _ => 1 - (intOf jj).toNat)
            case atStart => exact ⟨0, Nat.zero_le _, rfl, rfl, S1, G1⟩
            case round =>
              obtain ⟨j, hj, rfl, rfl, hS, hG⟩ := hrel
              by_cases hjn : j < 1
              · obtain ⟨q, hq⟩ : ∃ q, q = i + j := ⟨_, rfl⟩
                rw [← hq] at hG ⊢
                have hqn : q < s.size := by omega
                have hq1 : i + (j + 1) = q + 1 := by omega
                have HQ := Lib.hid hq1
                have q0 : (0 : Int) ≤ (q : Int) := by omega
                have hjI : (j : Int) < (1 : Int) := by omega
                clear hq hq1
                by_cases h3 : q + 3 ≤ s.size
                · have h3I : (q : Int) + 3 ≤ (s.size : Int) := by omega
                  have hkey := keyOf_string_mk (P := Tryd.prog) Tryd.underlying9 (s := s.extract q (q + 3)) (by rw [ByteArray.size_extract]; unfold maxLen; omega)
                  have hGu := hG.out
                  unfold Gs at hGu
                  have hq15 : q ≤ 1500 := by omega
                  go_wp2_with (first
                    | (at_lookup; refine wpList_lookup_groups _ rfl _ _ 40 rfl 9 45 3 .i64 keyed Tryd.underlying40 (zeroInts _) (W.heap.size + 3) W.heap.size q _ rfl hGu (by unfold maxLen; omega) _ _ rfl hkey ?_; intro v zs hz hoi hzl hback)
                    | (at_builtin; refine wpList_append_own_at _ rfl _ _ 45 rfl (W.heap.size + 3) 3 i0 (.int .i64 0) 1 8 Tryd.underlying45 hi0 hz0 hz1 hz2 rfl (by decide) _ _ _ rfl (hoi.1.alloc _) ⟨wr.heap.size, 0, none⟩ 1 1 [.int .i64 (q : Int)] rfl rfl (cell_one_new _ _ _) (ints_oneCell .i64 [(q : Int)]) (by unfold maxLen; omega) (by omega) (by have := hS.out.2.1; simp; omega) ?_; intro v' w1 hown' hgrow hnil hloc)
                    | (at_mapUpdate; refine wpList_mapUpdate_back _ rfl _ _ _ 40 rfl hback rfl rfl rfl ((World.grownBy_alloc _ _ _).trans hgrow) (hoi.appended hown' (WalkArith.wf_i64 (by omega))) (by simp; omega) (hloc.imp id (fun h => ⟨_, h, by simp⟩)) ?_; intro w2 hown2 hgrow2; have S2 := Lib.hid (upd_st hS.out hG.out hoi ((World.grownBy_alloc wr _ _).trans hgrow) hgrow2); have G2 : Hid (Gs W.heap.size (q + 1) (q + 1) s w2) := Lib.hid (gs_next h3 (zs_of h3 hz hoi) (by rw [← (hoi.appended hown' (WalkArith.wf_i64 (by omega))).datum_pos (by simp)]; exact hown2)); clear hown2 hgrow2 hown' hgrow hnil hloc hback hoi hz hzl hGu hkey))
                  rw [← HQ.out] at G2
                  have HQ2 : Hid (((q : Int) + 1) = ((i + (j + 1) : Nat) : Int)) := Lib.hid (by rw [HQ.out]; omega)
                  go_roundw
                  case rel => first | exact ⟨j + 1, by omega, by go_num, by rw [HQ2.out], S2, G2⟩ | ((repeat apply Exists.intro); exact ⟨⟨j + 1, by omega, by go_num, by rw [HQ2.out], S2, G2⟩, rfl⟩)
                  case measure => first | (simp [intOf]; done) | (simp [intOf]; omega)
                · have h3I : (s.size : Int) < (q : Int) + 3 := by omega
                  have G2 := Lib.hid (gs_same (by omega) hG.out)
                  rw [← HQ.out] at G2
                  have HQ2 : Hid (((q : Int) + 1) = ((i + (j + 1) : Nat) : Int)) := Lib.hid (by rw [HQ.out]; omega)
                  go_wp2_with fail
                  go_roundw
                  case rel => first | exact ⟨j + 1, by omega, by go_num, by rw [HQ2.out], hS, G2⟩ | ((repeat apply Exists.intro); exact ⟨⟨j + 1, by omega, by go_num, by rw [HQ2.out], hS, G2⟩, rfl⟩)
                  case measure => first | (simp [intOf]; done) | (simp [intOf]; omega)
              · obtain rfl : j = 1 := by omega
                go_wp2_with fail
                go_roundw
                case rel => first | exact ⟨i + 1, _, _, hin, by first | rfl | go_num, K1, hS, hG⟩ | ((repeat apply Exists.intro); exact ⟨⟨i + 1, _, _, hin, by first | rfl | go_num, K1, hS, hG⟩, rfl⟩)
                case measure => first | (simp [intOf]; done) | (simp [intOf]; omega)
          · have e1 : (((p.length : Nat) : Int) + 1 == 128) = false := by rw [beq_eq_false_iff_ne]; omega
            have K1 := Lib.hid (KA.out (by omega))
            have S1 := Lib.hid SR2.out.1
            have G1 := G5
            clear hfull KA KB FL hS hG
            go_wp2_with fail
            clear k8 e1
            go_loopw [8, 57] (fun aa jj wr => ∃ j : Nat, j ≤ 1 ∧ jj = .int .i64 (j : Int) ∧ aa = .int .i64 ((i + j : Nat) : Int) ∧ Hid (St W W.heap.size o (p ++ [x]) wr) ∧ Hid (Gs W.heap.size (i + j) (i + j) s wr)) (fun _ jj _ => 1 - (intOf jj).toNat)
            case atStart => exact ⟨0, Nat.zero_le _, rfl, rfl, S1, G1⟩
            case round =>
              obtain ⟨j, hj, rfl, rfl, hS, hG⟩ := hrel
              by_cases hjn : j < 1
              · obtain ⟨q, hq⟩ : ∃ q, q = i + j := ⟨_, rfl⟩
                rw [← hq] at hG ⊢
                have hqn : q < s.size := by omega
                have hq1 : i + (j + 1) = q + 1 := by omega
                have HQ := Lib.hid hq1
                have q0 : (0 : Int) ≤ (q : Int) := by omega
                have hjI : (j : Int) < (1 : Int) := by omega
                clear hq hq1
                by_cases h3 : q + 3 ≤ s.size
                · have h3I : (q : Int) + 3 ≤ (s.size : Int) := by omega
                  have hkey := keyOf_string_mk (P := Tryd.prog) Tryd.underlying9 (s := s.extract q (q + 3)) (by rw [ByteArray.size_extract]; unfold maxLen; omega)
                  have hGu := hG.out
                  unfold Gs at hGu
                  have hq15 : q ≤ 1500 := by omega
                  go_wp2_with (first
                    | (at_lookup; refine wpList_lookup_groups _ rfl _ _ 40 rfl 9 45 3 .i64 keyed Tryd.underlying40 (zeroInts _) (W.heap.size + 3) W.heap.size q _ rfl hGu (by unfold maxLen; omega) _ _ rfl hkey ?_; intro v zs hz hoi hzl hback)
                    | (at_builtin; refine wpList_append_own_at _ rfl _ _ 45 rfl (W.heap.size + 3) 3 i0 (.int .i64 0) 1 8 Tryd.underlying45 hi0 hz0 hz1 hz2 rfl (by decide) _ _ _ rfl (hoi.1.alloc _) ⟨wr.heap.size, 0, none⟩ 1 1 [.int .i64 (q : Int)] rfl rfl (cell_one_new _ _ _) (ints_oneCell .i64 [(q : Int)]) (by unfold maxLen; omega) (by omega) (by have := hS.out.2.1; simp; omega) ?_; intro v' w1 hown' hgrow hnil hloc)
                    | (at_mapUpdate; refine wpList_mapUpdate_back _ rfl _ _ _ 40 rfl hback rfl rfl rfl ((World.grownBy_alloc _ _ _).trans hgrow) (hoi.appended hown' (WalkArith.wf_i64 (by omega))) (by simp; omega) (hloc.imp id (fun h => ⟨_, h, by simp⟩)) ?_; intro w2 hown2 hgrow2; have S2 := Lib.hid (upd_st hS.out hG.out hoi ((World.grownBy_alloc wr _ _).trans hgrow) hgrow2); have G2 : Hid (Gs W.heap.size (q + 1) (q + 1) s w2) := Lib.hid (gs_next h3 (zs_of h3 hz hoi) (by rw [← (hoi.appended hown' (WalkArith.wf_i64 (by omega))).datum_pos (by simp)]; exact hown2)); clear hown2 hgrow2 hown' hgrow hnil hloc hback hoi hz hzl hGu hkey))
                  rw [← HQ.out] at G2
                  have HQ2 : Hid (((q : Int) + 1) = ((i + (j + 1) : Nat) : Int)) := Lib.hid (by rw [HQ.out]; omega)
                  go_roundw
                  case rel => first | exact ⟨j + 1, by omega, by go_num, by rw [HQ2.out], S2, G2⟩ | ((repeat apply Exists.intro); exact ⟨⟨j + 1, by omega, by go_num, by rw [HQ2.out], S2, G2⟩, rfl⟩)
                  case measure => first | (simp [intOf]; done) | (simp [intOf]; omega)
                · have h3I : (s.size : Int) < (q : Int) + 3 := by omega
                  have G2 := Lib.hid (gs_same (by omega) hG.out)
                  rw [← HQ.out] at G2
                  have HQ2 : Hid (((q : Int) + 1) = ((i + (j + 1) : Nat) : Int)) := Lib.hid (by rw [HQ.out]; omega)
                  go_wp2_with fail
                  go_roundw
                  case rel => first | exact ⟨j + 1, by omega, by go_num, by rw [HQ2.out], hS, G2⟩ | ((repeat apply Exists.intro); exact ⟨⟨j + 1, by omega, by go_num, by rw [HQ2.out], hS, G2⟩, rfl⟩)
                  case measure => first | (simp [intOf]; done) | (simp [intOf]; omega)
              · obtain rfl : j = 1 := by omega
                go_wp2_with fail
                go_roundw
                case rel => first | exact ⟨i + 1, _, _, hin, by first | rfl | go_num, K1, hS, hG⟩ | ((repeat apply Exists.intro); exact ⟨⟨i + 1, _, _, hin, by first | rfl | go_num, K1, hS, hG⟩, rfl⟩)
                case measure => first | (simp [intOf]; done) | (simp [intOf]; omega)
      · have hnI : ((n : Int) == 0) = false := by rw [beq_eq_false_iff_ne]; omega
        have n3 : 3 ≤ n := hr4 hn0
        have hin : i + n ≤ s.size := by omega
        have K1 := Lib.hid (HKk.out hn0)
        have F5 := Lib.hid (flush_any W W.heap.size o p w2 hS.out (by omega) (by omega))
        have hfl := fl_len o p
        have hfl2 : (fl o p).length ≤ 10000 := by omega
        clear HKb HKk hfl hr4
        obtain ⟨o4, ho4⟩ : ∃ o4, o4 = fl o p := ⟨_, rfl⟩
        have HO4 := Lib.hid ho4
        unfold FlP at F5
        rw [← ho4] at F5 K1 hfl2
        clear ho4
        go_wp2_with fail
        refine F5.out.mono ?_; rintro e w6 ⟨rfl, hS6, hF6⟩
        have G6 := Lib.hid (hG.out.fr hF6)
        obtain ⟨b1, b2, vo, vp, c5, c6, f5, f6, o5, o6, hd⟩ := hS6
        obtain ⟨a5, k5, rfl⟩ := o5.len
        have O5 := Lib.hid o5
        have hul : (u8s o4).length ≤ 10000 := by rw [u8s_len]; exact hfl2
        have L1 := Lib.hid (show ((u8s o4).length + 3) * 1 ≤ 1000000000000 ∧ (u8s o4).length + 3 ≤ 1000000000000 by omega)
        have X1 : (128 + (n : Int) - 3) = ((UInt8.ofNat (125 + n)).toNat : Int) := by rw [UInt8.toNat_ofNat']; omega
        have X2 : (b : Int) / 256 = ((UInt8.ofNat (b / 256)).toNat : Int) := by rw [UInt8.toNat_ofNat']; omega
        have X3 : (b : Int) % 256 = ((UInt8.ofNat b).toNat : Int) := by rw [UInt8.toNat_ofNat']; omega
        have HX : Hid (u8s o4 ++ [.int .u8 (128 + (n : Int) - 3), .int .u8 ((b : Int) / 256), .int .u8 ((b : Int) % 256)] = u8s (o4 ++ [UInt8.ofNat (125 + n), UInt8.ofNat (b / 256), UInt8.ofNat b])) := Lib.hid (by rw [X1, X2, X3]; simp [u8s])
        have SB := Lib.hid (fun (w1 : World) v' (l : List UInt8) (ho : Own w1 (W.heap.size + 3) 5 v' (u8s (o4 ++ l))) hg hat => st_three b1 b2 c5 c6 f5 f6 o5 o6 hd ho hg hat)
        have hrow : Hid (∀ (w1 : World) (o : Obj), (w6.alloc o).grownBy w1 (Value.slice a5 (u8s o4).length k5).ownBlock → w1.cell? ⟨W.heap.size + 1, 0, none⟩ = some (.slice a5 (u8s o4).length k5) ∧ w1.frozen? ⟨W.heap.size + 1, 0, none⟩ = false) := Lib.hid (fun w1 o hg => by
          have e2 : w1.heap[W.heap.size + 1]? = w6.heap[W.heap.size + 1]? := (hg.block _ (by simp; omega) (fun e => by have := (o5.lt _ e.symm).1; omega)).trans (Below.heap_alloc w6 _ _ (by omega))
          exact ⟨(World.cell?_of_block (a := ⟨W.heap.size + 1, 0, none⟩) e2).trans c5, (World.frozen?_of_block (a := ⟨W.heap.size + 1, 0, none⟩) e2).trans f5⟩)
        clear b1 o5 o6 hd F5 hS hG hF6 X1 X2 X3
        obtain ⟨m2, hm2⟩ : ∃ m2, m2 = u8s (o4 ++ [UInt8.ofNat (125 + n), UInt8.ofNat (b / 256), UInt8.ofNat b]) := ⟨_, rfl⟩
        have HM2 := Lib.hid hm2
        clear hm2
        go_wp2_with (at_builtin; refine own_append rfl _ _ 41 rfl (W.heap.size + 3) 5 (.int .u8 0) 1 Tryd.underlying41 infoU8 rfl _ _ rfl (O5.out.alloc _) ⟨w6.heap.size, 0, none⟩ 3 3 [.int .u8 (128 + (n : Int) - 3), .int .u8 ((b : Int) / 256), .int .u8 ((b : Int) % 256)] rfl rfl (World.news_of_block (heap_alloc_new _ _)) (by simp [Value.oneCell']) L1.out.1 L1.out.2 (by simp; omega) ?_; intro v1 w1 ho1 hg1 hb1 hat1; rw [HX.out] at ho1; obtain ⟨k7, f7⟩ := hrow.out w1 _ hg1; have SR := Lib.hid (SB.out w1 v1 _ ho1 ((World.grownBy_alloc w6 _ _).trans hg1) (hat1.imp id (fun h => ⟨_, h, by simp⟩))); rw [← HM2.out] at ho1; obtain ⟨a7, c7, rfl⟩ := ho1.len; clear ho1 hg1 hb1 hat1)
        have S1 := Lib.hid SR.out.1
        have G1 := Lib.hid (G6.out.fr SR.out.2)
        clear SR G6 SB O5 hrow c5 c6 f5 f6 k7 f7 HX HM2
        go_loopw [8, 57] (fun aa jj wr => ∃ j : Nat, j ≤ n ∧ jj = .int .i64 (j : Int) ∧ aa = .int .i64 ((i + j : Nat) : Int) ∧ Hid (St W W.heap.size (o4 ++ [UInt8.ofNat (125 + n), UInt8.ofNat (b / 256), UInt8.ofNat b]) [] wr) ∧ Hid (Gs W.heap.size (i + j) (i + j) s wr)) (fun _ jj _ => n - (intOf jj).toNat)
        case atStart => exact ⟨0, Nat.zero_le _, rfl, rfl, S1, G1⟩
        case round =>
          obtain ⟨j, hj, rfl, rfl, hS, hG⟩ := hrel
          by_cases hjn : j < n
          · obtain ⟨q, hq⟩ : ∃ q, q = i + j := ⟨_, rfl⟩
            rw [← hq] at hG ⊢
            have hqn : q < s.size := by omega
            have hq1 : i + (j + 1) = q + 1 := by omega
            have HQ := Lib.hid hq1
            have q0 : (0 : Int) ≤ (q : Int) := by omega
            have hjI : (j : Int) < (n : Int) := by omega
            clear hq hq1
            by_cases h3 : q + 3 ≤ s.size
            · have h3I : (q : Int) + 3 ≤ (s.size : Int) := by omega
              have hkey := keyOf_string_mk (P := Tryd.prog) Tryd.underlying9 (s := s.extract q (q + 3)) (by rw [ByteArray.size_extract]; unfold maxLen; omega)
              have hGu := hG.out
              unfold Gs at hGu
              have hq15 : q ≤ 1500 := by omega
              go_wp2_with (first
                | (at_lookup; refine wpList_lookup_groups _ rfl _ _ 40 rfl 9 45 3 .i64 keyed Tryd.underlying40 (zeroInts _) (W.heap.size + 3) W.heap.size q _ rfl hGu (by unfold maxLen; omega) _ _ rfl hkey ?_; intro v zs hz hoi hzl hback)
                | (at_builtin; refine wpList_append_own_at _ rfl _ _ 45 rfl (W.heap.size + 3) 3 i0 (.int .i64 0) 1 8 Tryd.underlying45 hi0 hz0 hz1 hz2 rfl (by decide) _ _ _ rfl (hoi.1.alloc _) ⟨wr.heap.size, 0, none⟩ 1 1 [.int .i64 (q : Int)] rfl rfl (cell_one_new _ _ _) (ints_oneCell .i64 [(q : Int)]) (by unfold maxLen; omega) (by omega) (by have := hS.out.2.1; simp; omega) ?_; intro v' w1 hown' hgrow hnil hloc)
                | (at_mapUpdate; refine wpList_mapUpdate_back _ rfl _ _ _ 40 rfl hback rfl rfl rfl ((World.grownBy_alloc _ _ _).trans hgrow) (hoi.appended hown' (WalkArith.wf_i64 (by omega))) (by simp; omega) (hloc.imp id (fun h => ⟨_, h, by simp⟩)) ?_; intro w2 hown2 hgrow2; have S2 := Lib.hid (upd_st hS.out hG.out hoi ((World.grownBy_alloc wr _ _).trans hgrow) hgrow2); have G2 : Hid (Gs W.heap.size (q + 1) (q + 1) s w2) := Lib.hid (gs_next h3 (zs_of h3 hz hoi) (by rw [← (hoi.appended hown' (WalkArith.wf_i64 (by omega))).datum_pos (by simp)]; exact hown2)); clear hown2 hgrow2 hown' hgrow hnil hloc hback hoi hz hzl hGu hkey))
              rw [← HQ.out] at G2
              have HQ2 : Hid (((q : Int) + 1) = ((i + (j + 1) : Nat) : Int)) := Lib.hid (by rw [HQ.out]; omega)
              go_roundw
              case rel => first | exact ⟨j + 1, by omega, by go_num, by rw [HQ2.out], S2, G2⟩ | ((repeat apply Exists.intro); exact ⟨⟨j + 1, by omega, by go_num, by rw [HQ2.out], S2, G2⟩, rfl⟩)
              case measure => first | (simp [intOf]; done) | (simp [intOf]; omega)
            · have h3I : (s.size : Int) < (q : Int) + 3 := by omega
              have G2 := Lib.hid (gs_same (by omega) hG.out)
              rw [← HQ.out] at G2
              have HQ2 : Hid (((q : Int) + 1) = ((i + (j + 1) : Nat) : Int)) := Lib.hid (by rw [HQ.out]; omega)
              go_wp2_with fail
              go_roundw
              case rel => first | exact ⟨j + 1, by omega, by go_num, by rw [HQ2.out], hS, G2⟩ | ((repeat apply Exists.intro); exact ⟨⟨j + 1, by omega, by go_num, by rw [HQ2.out], hS, G2⟩, rfl⟩)
              case measure => first | (simp [intOf]; done) | (simp [intOf]; omega)
          · obtain rfl : j = n := by omega
            go_wp2_with fail
            go_roundw
            case rel => first | exact ⟨i + j, _, _, hin, by first | rfl | go_num, K1, hS, hG⟩ | ((repeat apply Exists.intro); exact ⟨⟨i + j, _, _, hin, by first | rfl | go_num, K1, hS, hG⟩, rfl⟩)
            case measure => first | (simp [intOf]; done) | (simp [intOf]; omega)
    · have F5 := Lib.hid (flush_any W W.heap.size o p wr hS.out (by omega) (by omega))
      have HD := Lib.hid (hK.out.done (by omega))
      unfold FlP at F5
      have kd : decide ((i : Int) < (s.size : Int)) = false := decide_eq_false (by omega)
      have kd2 : decide (i < s.size) = false := decide_eq_false (by omega)
      obtain ⟨o4, ho4⟩ : ∃ o4, o4 = fl o p := ⟨_, rfl⟩
      have HO4 := Lib.hid ho4
      rw [← ho4] at F5 HD
      clear ho4 hK
      go_wp2_with fail
      refine F5.out.mono ?_; rintro e w6 ⟨rfl, hS6, -⟩
      obtain ⟨b1, b2, vo, vp, c5, c6, f5, f6, o5, o6, hd⟩ := hS6
      have B1 := Lib.hid b1
      have cv := own_string o5 Tryd.underlying41 Tryd.underlying5 Tryd.underlying9
      obtain ⟨a5, k5, rfl⟩ := o5.len
      clear o5 o6 hd b1 c6 f5 f6 F5
      go_wp2_with fail
      go_ret2
      rw [← HD.out]
      exact ⟨rfl, B1.out⟩
end Go.Proofs.YtnbpninnanjemaaDoor.Lz
