/-
  PROVED HERE: the contract of the document's LzPack. Conditions: as each theorem states.
-/
import Derived.Test.YtnbpninnanjemaaDoorLzD
namespace Go.Proofs.YtnbpninnanjemaaDoor.Lz
open Go.RowKit
def PkD (l : List UInt8) (w : World) (e : Ending) (w' : World) : Prop := e = .returned (.tuple #[.string ⟨l.toArray⟩, .int .i64 0]) ∧ Below w.heap.size w w'
set_option maxRecDepth 100000 in
theorem docPack_far (s : ByteArray) (h : 4000 < s.size) (W : World) : Calls Tryd.prog 5 #[.string s] W fun e w' => e = .returned (.tuple #[.string ⟨#[]⟩, .int .i64 4]) ∧ W = w' := by
  have h2 : (4000 : Int) < (s.size : Int) := by omega
  go_enter Tryd.func5, Tryd.ntmps5
  go_wp2_with fail
  go_ret2
  exact ⟨rfl, rfl⟩
theorem u8_mod (x : Nat) : UInt8.ofNat (x % 256) = UInt8.ofNat x := by
  apply UInt8.toNat_inj.1
  rw [UInt8.toNat_ofNat', UInt8.toNat_ofNat']
  omega
theorem bst_next (s : ByteArray) (at_ b : Nat) : bst s at_ (b + 1) = if (bst s at_ b).1 < min (al s (at_ - (b + 1)) at_) 130 then (min (al s (at_ - (b + 1)) at_) 130, b + 1) else bst s at_ b := rfl
theorem ds_new (W : World) : DS W W.heap.size ⟨#[]⟩ ⟨#[]⟩ ((W.alloc (.cells #[.string ⟨#[]⟩] 9)).alloc (.cells #[.string ⟨#[]⟩] 9)) := by
  refine ⟨((Below.refl _ _).alloc (Nat.le_refl _) _).alloc (by simp) _, by simp, ?_, ?_, ?_, ?_⟩
  · rw [World.cell?_alloc_past _ _ _ (by simp), World.cell?_alloc_at _ _ _ _ (by simp)]; rfl
  · rw [World.cell?_alloc_at _ _ _ _ (by simp)]; rfl
  · rw [World.frozen?_alloc_past _ _ _ (by simp), World.frozen?_alloc_at _ _ _ _ (by simp)]
  · rw [World.frozen?_alloc_at _ _ _ _ (by simp)]
set_option maxRecDepth 100000 in
set_option maxHeartbeats 4000000 in
theorem docPack_any (s : ByteArray) (hs : s.size ≤ 1500) (W : World) : Calls Tryd.prog 5 #[.string s] W (PkD (pk s 0 [] []) W) := by
  have hZ : Hid (pk s 0 (bs ⟨#[]⟩) (bs ⟨#[]⟩) = pk s 0 [] []) := Lib.hid rfl
  generalize hR : pk s 0 [] [] = Z at hZ ⊢
  clear hR
  have hD0 := Lib.hid (ds_new W)
  have AL := Lib.hid (fun p q (h1 : p ≤ q) (h2 : q ≤ s.size) w => alike_any s p q h1 h2 (by omega) w)
  have h4 : ¬ (4000 : Int) < (s.size : Int) := by omega
  go_enter Tryd.func5, Tryd.ntmps5
  go_wp2_with fail
  go_loopw [7] (fun a wr => ∃ (i : Nat) (o p : ByteArray), i ≤ s.size ∧ a = .int .i64 (i : Int) ∧ Hid (o.size + 2 * p.size ≤ 2 * i) ∧ Hid (pk s i (bs o) (bs p) = Z) ∧ Hid (DS W W.heap.size o p wr)) (fun a _ => s.size - (intOf a).toNat)
  case atStart => exact ⟨0, ⟨#[]⟩, ⟨#[]⟩, Nat.zero_le _, rfl, Lib.hid (by decide), hZ, hD0⟩
  case round =>
    obtain ⟨i, o, p, hi, rfl, hsz, hu, hD⟩ := hrel
    clear hZ hD0
    by_cases hlt : i < s.size
    · have i1 : (0 : Int) ≤ (i : Int) := by omega
      have i2 : (i : Int) < (s.size : Int) := by omega
      obtain ⟨M, hM⟩ : ∃ M, M = min 1023 i := ⟨_, rfl⟩
      have hMi : M ≤ i := by omega
      have hM2 : M ≤ 1023 := by omega
      have HM := Lib.hid hM
      clear hM
      obtain ⟨wo, rfl⟩ : ∃ wo : World, wo = wr := ⟨_, rfl⟩
      go_wp2_with fail
      go_loopw [8, 9, 10] (fun n k b wx => ∃ c n' k' : Nat, c ≤ M ∧ b = .int .i64 ((c + 1 : Nat) : Int) ∧ n = .int .i64 (n' : Int) ∧ k = .int .i64 (k' : Int) ∧ n' ≤ 130 ∧ k' ≤ 1023 ∧ Hid (bst s i c = (n', k')) ∧ Hid (∃ d, wx = wo.drewN d)) (fun _ _ b _ => M + 1 - (intOf b).toNat)
      case atStart => exact ⟨0, 0, 0, Nat.zero_le _, rfl, rfl, rfl, by omega, by omega, Lib.hid rfl, Lib.hid ⟨0, rfl⟩⟩
      case round =>
        obtain ⟨c, n, k, hc, rfl, rfl, rfl, hn130, hk1023, hbst, hW⟩ := hrel
        by_cases hcM : c < M
        · have e1 : decide (((c + 1 : Nat) : Int) ≤ 1023) = true := decide_eq_true (by omega)
          have e2 : decide (c + 1 ≤ i) = true := decide_eq_true (by omega)
          have e3 : ((c + 1 : Nat) : Int) ≤ 1023 := by omega
          have e4 : c + 1 ≤ i := by omega
          obtain ⟨q, hq⟩ : ∃ q, q = i - (c + 1) := ⟨_, rfl⟩
          have w0 : (i : Int) - ((c : Int) + 1) = (q : Int) := by omega
          have w1 : IntKind.i64.wrap (q : Int) = (q : Int) := IntWalk.i64_in _ (by omega)
          have hpI : (q : Int) ≤ (s.size : Int) := by omega
          have hpI2 : (0 : Int) ≤ (q : Int) := by omega
          have hpN : q ≤ s.size := by omega
          have C := Lib.hid (AL.out q i (by omega) (by omega))
          unfold AlP at C
          have HB := Lib.hid (bst_next s i c)
          rw [hbst.out, ← hq] at HB
          have hal := al_le s q i
          have hcs : c + 1 ≤ M := by omega
          clear hq hbst
          generalize al s q i = m at *
          by_cases hm : m ≤ 130
          · have hmI : (m : Int) ≤ 130 := by omega
            by_cases hnm : n < m
            · have hnI : (n : Int) < (m : Int) := by omega
              have hB2 : Hid (bst s i (c + 1) = (m, c + 1)) := Lib.hid (by rw [HB.out, if_pos (by simp only; omega), Nat.min_eq_left hm])
              clear hal HB
              go_wp2_with fail
              go_quiet ((go_at_call 15; exact Calls.quiet_of (C.out _)))
              all_goals
                clear w0 w1
                go_wp2_with fail
                have hW2 : Hid (∃ d, wr.drewN nq = wo.drewN d) := Lib.hid (by obtain ⟨d, hd⟩ := hW.out; exact ⟨_, by rw [hd, World.drewN_drewN]⟩)
                go_roundw
                case rel => first | exact ⟨c + 1, m, c + 1, hcs, by go_num, by first | rfl | go_num, by go_num, by omega, by omega, hB2, hW2⟩ | ((repeat apply Exists.intro); exact ⟨⟨c + 1, m, c + 1, hcs, by go_num, by first | rfl | go_num, by go_num, by omega, by omega, hB2, hW2⟩, rfl⟩)
                case measure => simp [intOf]; omega
            · have hnI : (m : Int) ≤ (n : Int) := by omega
              have hB2 : Hid (bst s i (c + 1) = (n, k)) := Lib.hid (by rw [HB.out, if_neg (by simp only; omega)])
              clear hal HB
              go_wp2_with fail
              go_quiet ((go_at_call 15; exact Calls.quiet_of (C.out _)))
              all_goals
                clear w0 w1
                go_wp2_with fail
                have hW2 : Hid (∃ d, wr.drewN nq = wo.drewN d) := Lib.hid (by obtain ⟨d, hd⟩ := hW.out; exact ⟨_, by rw [hd, World.drewN_drewN]⟩)
                go_roundw
                case rel => first | exact ⟨c + 1, n, k, hcs, by go_num, by first | rfl | go_num, by first | rfl | go_num, by omega, by omega, hB2, hW2⟩ | ((repeat apply Exists.intro); exact ⟨⟨c + 1, n, k, hcs, by go_num, by first | rfl | go_num, by first | rfl | go_num, by omega, by omega, hB2, hW2⟩, rfl⟩)
                case measure => simp [intOf]; omega
          · have hmJ : (130 : Int) < (m : Int) := by omega
            by_cases hnm : n < 130
            · have hnI : (n : Int) < 130 := by omega
              have hB2 : Hid (bst s i (c + 1) = (130, c + 1)) := Lib.hid (by rw [HB.out, if_pos (by simp only; omega), Nat.min_eq_right (by omega)])
              clear hal HB
              go_wp2_with fail
              go_quiet ((go_at_call 15; exact Calls.quiet_of (C.out _)))
              all_goals
                clear w0 w1
                go_wp2_with fail
                have hW2 : Hid (∃ d, wr.drewN nq = wo.drewN d) := Lib.hid (by obtain ⟨d, hd⟩ := hW.out; exact ⟨_, by rw [hd, World.drewN_drewN]⟩)
                go_roundw
                case rel => first | exact ⟨c + 1, 130, c + 1, hcs, by go_num, by first | rfl | go_num, by go_num, by omega, by omega, hB2, hW2⟩ | ((repeat apply Exists.intro); exact ⟨⟨c + 1, 130, c + 1, hcs, by go_num, by first | rfl | go_num, by go_num, by omega, by omega, hB2, hW2⟩, rfl⟩)
                case measure => simp [intOf]; omega
            · have hnI : 130 ≤ (n : Int) := by omega
              have hB2 : Hid (bst s i (c + 1) = (n, k)) := Lib.hid (by rw [HB.out, if_neg (by simp only; omega)])
              clear hal HB
              go_wp2_with fail
              go_quiet ((go_at_call 15; exact Calls.quiet_of (C.out _)))
              all_goals
                clear w0 w1
                go_wp2_with fail
                have hW2 : Hid (∃ d, wr.drewN nq = wo.drewN d) := Lib.hid (by obtain ⟨d, hd⟩ := hW.out; exact ⟨_, by rw [hd, World.drewN_drewN]⟩)
                go_roundw
                case rel => first | exact ⟨c + 1, n, k, hcs, by go_num, by first | rfl | go_num, by first | rfl | go_num, by omega, by omega, hB2, hW2⟩ | ((repeat apply Exists.intro); exact ⟨⟨c + 1, n, k, hcs, by go_num, by first | rfl | go_num, by first | rfl | go_num, by omega, by omega, hB2, hW2⟩, rfl⟩)
                case measure => simp [intOf]; omega
        · obtain rfl : c = M := by omega
          have hDN : Hid (DS W W.heap.size o p wr) := Lib.hid (by obtain ⟨d, hd⟩ := hW.out; rw [hd]; exact hD.out.drewN d)
          by_cases hbig : 1023 ≤ i
          · skip
            by_cases hn3 : n < 3
            · have hnI : (n : Int) < 3 := by omega
              have h0 := (R_doc s i).1
              rw [← HM.out, hbst.out] at h0
              have hu2 := Lib.hid ((pk_byte hlt (h0 hn3) _ _).symm.trans hu.out)
              have EP : Hid (bs (p ++ s.extract i (i + 1)) = bs p ++ [ub s i]) := Lib.hid (by rw [bs_app]; unfold bs; rw [lst_one s i hlt])
              have hps : Hid ((p ++ s.extract i (i + 1)).size = p.size + 1) := Lib.hid (by rw [ByteArray.size_append, ByteArray.size_extract]; omega)
              have hpz : (p ++ s.extract i (i + 1)).size ≤ 5000 := by have h1 := hps.out; have h2 := hsz.out; omega
              rw [← EP.out] at hu2
              clear h0 hu
              have w2 : IntKind.i64.wrap ((i : Int) + 1) = (i : Int) + 1 := IntWalk.i64_in _ (by omega)
              have w3 : ((i : Int) + 1).toNat = i + 1 := by omega
              have w4 : (i : Int) + 1 ≤ (s.size : Int) := by omega
              have w5 : (0 : Int) ≤ (i : Int) + 1 := by omega
              have w6 : (i : Int) ≤ (i : Int) + 1 := by omega
              have hpz0 : p.size ≤ 4000 := by have h2 := hsz.out; omega
              have hD2 := Lib.hid (hDN.out.setP (p ++ s.extract i (i + 1))).drew
              obtain ⟨-, -, c3, c4, c5, c6⟩ := hDN.out
              have e2 : (1023 : Int) < (c : Int) + 1 := by have := HM.out; omega
              go_wp2_with fail
              go_region_with (fail)
              clear w2 w3 w4 w5 w6 c3 c4 c5 c6
              have hsz2 : Hid (o.size + 2 * (p ++ s.extract i (i + 1)).size ≤ 2 * (i + 1)) := Lib.hid (by have h1 := hps.out; have h2 := hsz.out; omega)
              go_wp2_with fail
              go_roundw
              case rel => first | exact ⟨i + 1, o, _, by omega, by go_num, hsz2, hu2, hD2⟩ | ((repeat apply Exists.intro); exact ⟨⟨i + 1, o, _, by omega, by go_num, hsz2, hu2, hD2⟩, rfl⟩)
              case measure => simp [intOf]; omega
            · have hnI : (3 : Int) ≤ (n : Int) := by omega
              have hR0 := (R_doc s i).2
              rw [← HM.out, hbst.out] at hR0
              have hR1 := hR0 (by simp only; omega)
              have hne : (R s i).1 ≠ 0 := by rw [hR1]; simp only; omega
              have hu2 := Lib.hid ((pk_back hlt hne _ _).symm.trans hu.out)
              have hle := (R_le s i).2.2.1
              rw [hR1] at hu2 hle
              simp only at hu2 hle
              have TE := Lib.hid (tell_any W W.heap.size o p (by have := hsz.out; omega) (by have := hsz.out; omega) wr hDN.out)
              clear hR0 hR1 hne hu
              have e2 : (1023 : Int) < (c : Int) + 1 := by have := HM.out; omega
              go_wp2_with fail
              refine TE.out.mono ?_; rintro e w2 ⟨o2, rfl, hb2, hd2⟩
              have HD2 := Lib.hid hd2
              have HO := Lib.hid hb2
              obtain ⟨-, -, c3, c4, c5, c6⟩ := hd2
              have C := Lib.hid (fun (m : Int) (hm : 0 ≤ m) W => Chr.char_any m hm W)
              clear hb2 TE
              go_wp2_with fail
              have v1 : IntKind.i64.wrap (125 + (n : Int)) = 125 + (n : Int) := IntWalk.i64_in _ (by omega)
              have v2 : IntKind.u64.wrap (125 + (n : Int)) = 125 + (n : Int) := by rw [IntKind.wrap_u64]; omega
              have v4 : IntKind.i64.wrap ((k : Int) / 256) = (k : Int) / 256 := IntWalk.i64_in _ (by omega)
              have v5 : IntKind.u64.wrap ((k : Int) / 256) = (k : Int) / 256 := by rw [IntKind.wrap_u64]; omega
              have v7 : (0 : Int) ≤ (k : Int) / 256 := by omega
              have v6 : IntKind.u64.wrap (k : Int) = (k : Int) := by rw [IntKind.wrap_u64]; omega
              have hoz : o2.size ≤ 10000 := by
                have h1 := T_len (bs p)
                have h2 : o2.size = (bs o ++ T (bs p)).length := by rw [← HO.out]; rfl
                have h3 := hsz.out
                rw [List.length_append, bs_len] at h2
                rw [bs_len] at h1
                omega
              have hsz2 : ∀ x y z : UInt8, (o2 ++ ((⟨#[x]⟩ : ByteArray) ++ (⟨#[y]⟩ : ByteArray) ++ (⟨#[z]⟩ : ByteArray))).size ≤ 20000 := fun x y z => by
                rw [ByteArray.size_append, ByteArray.size_append, ByteArray.size_append]
                have e1 : (⟨#[x]⟩ : ByteArray).size = 1 := rfl
                have e2 : (⟨#[y]⟩ : ByteArray).size = 1 := rfl
                have e3 : (⟨#[z]⟩ : ByteArray).size = 1 := rfl
                omega
              go_region_with ((go_at_call 14; refine ((C.out _ (by omega) _)).mono ?_; rintro e w3 ⟨rfl, hb⟩; have HD2 : Hid (DS W W.heap.size o2 ⟨#[]⟩ w3) := Lib.hid (by first | exact HD2.out.below hb | exact HD2.out.drew.below hb); obtain ⟨-, -, c3, c4, c5, c6⟩ := HD2.out; clear hb))
              all_goals
                clear v1 v2 v4 v5 v6 v7 c3 c4 c5 c6 C hsz2
                have hE : bs (o2 ++ ((⟨#[UInt8.ofNat ((125 + n) % 256)]⟩ : ByteArray) ++ (⟨#[UInt8.ofNat (k / 256 % 256)]⟩ : ByteArray) ++ (⟨#[UInt8.ofNat (k % 256)]⟩ : ByteArray))) = bs o ++ T (bs p) ++ [UInt8.ofNat (125 + n), UInt8.ofNat (k / 256), UInt8.ofNat k] := by
                  rw [bs_app, bs_app, bs_app, HO.out, u8_mod, u8_mod, u8_mod]; rfl
                have hz3 : (o2 ++ ((⟨#[UInt8.ofNat ((125 + n) % 256)]⟩ : ByteArray) ++ (⟨#[UInt8.ofNat (k / 256 % 256)]⟩ : ByteArray) ++ (⟨#[UInt8.ofNat (k % 256)]⟩ : ByteArray))).size = o2.size + 3 := by
                  rw [ByteArray.size_append]; rfl
                have hz4 : o2.size ≤ o.size + 2 * p.size := by
                  have h1 := T_len (bs p)
                  have h2 : o2.size = (bs o ++ T (bs p)).length := by rw [← HO.out]; rfl
                  rw [List.length_append, bs_len] at h2
                  rw [bs_len] at h1
                  omega
                have HE := Lib.hid hE
                clear hE
                generalize o2 ++ ((⟨#[UInt8.ofNat ((125 + n) % 256)]⟩ : ByteArray) ++ (⟨#[UInt8.ofNat (k / 256 % 256)]⟩ : ByteArray) ++ (⟨#[UInt8.ofNat (k % 256)]⟩ : ByteArray)) = O3 at *
                have hu3 : Hid (pk s (i + n) (bs O3) (bs ⟨#[]⟩) = Z) := Lib.hid (by rw [HE.out]; exact hu2.out)
                have hs3 : Hid (O3.size + 2 * (⟨#[]⟩ : ByteArray).size ≤ 2 * (i + n)) := Lib.hid (by
                  have h1 := hsz.out
                  have h2 : (⟨#[]⟩ : ByteArray).size = 0 := rfl
                  omega)
                have hD4 := Lib.hid (HD2.out.setO O3)
                have hin : i + n ≤ s.size := by omega
                clear hz3 hz4 hle
                go_wp2_with fail
                go_roundw
                case rel => first | exact ⟨i + n, O3, ⟨#[]⟩, hin, by go_num, hs3, hu3, hD4⟩ | ((repeat apply Exists.intro); exact ⟨⟨i + n, O3, ⟨#[]⟩, hin, by go_num, hs3, hu3, hD4⟩, rfl⟩)
                case measure => simp [intOf]; omega
          · skip
            by_cases hn3 : n < 3
            · have hnI : (n : Int) < 3 := by omega
              have h0 := (R_doc s i).1
              rw [← HM.out, hbst.out] at h0
              have hu2 := Lib.hid ((pk_byte hlt (h0 hn3) _ _).symm.trans hu.out)
              have EP : Hid (bs (p ++ s.extract i (i + 1)) = bs p ++ [ub s i]) := Lib.hid (by rw [bs_app]; unfold bs; rw [lst_one s i hlt])
              have hps : Hid ((p ++ s.extract i (i + 1)).size = p.size + 1) := Lib.hid (by rw [ByteArray.size_append, ByteArray.size_extract]; omega)
              have hpz : (p ++ s.extract i (i + 1)).size ≤ 5000 := by have h1 := hps.out; have h2 := hsz.out; omega
              rw [← EP.out] at hu2
              clear h0 hu
              have w2 : IntKind.i64.wrap ((i : Int) + 1) = (i : Int) + 1 := IntWalk.i64_in _ (by omega)
              have w3 : ((i : Int) + 1).toNat = i + 1 := by omega
              have w4 : (i : Int) + 1 ≤ (s.size : Int) := by omega
              have w5 : (0 : Int) ≤ (i : Int) + 1 := by omega
              have w6 : (i : Int) ≤ (i : Int) + 1 := by omega
              have hpz0 : p.size ≤ 4000 := by have h2 := hsz.out; omega
              have hD2 := Lib.hid (hDN.out.setP (p ++ s.extract i (i + 1))).drew
              obtain ⟨-, -, c3, c4, c5, c6⟩ := hDN.out
              have e2 : (c : Int) + 1 ≤ 1023 := by have := HM.out; omega
              have e3 : i < c + 1 := by have := HM.out; omega
              go_wp2_with fail
              go_region_with (fail)
              clear w2 w3 w4 w5 w6 c3 c4 c5 c6
              have hsz2 : Hid (o.size + 2 * (p ++ s.extract i (i + 1)).size ≤ 2 * (i + 1)) := Lib.hid (by have h1 := hps.out; have h2 := hsz.out; omega)
              go_wp2_with fail
              go_roundw
              case rel => first | exact ⟨i + 1, o, _, by omega, by go_num, hsz2, hu2, hD2⟩ | ((repeat apply Exists.intro); exact ⟨⟨i + 1, o, _, by omega, by go_num, hsz2, hu2, hD2⟩, rfl⟩)
              case measure => simp [intOf]; omega
            · have hnI : (3 : Int) ≤ (n : Int) := by omega
              have hR0 := (R_doc s i).2
              rw [← HM.out, hbst.out] at hR0
              have hR1 := hR0 (by simp only; omega)
              have hne : (R s i).1 ≠ 0 := by rw [hR1]; simp only; omega
              have hu2 := Lib.hid ((pk_back hlt hne _ _).symm.trans hu.out)
              have hle := (R_le s i).2.2.1
              rw [hR1] at hu2 hle
              simp only at hu2 hle
              have TE := Lib.hid (tell_any W W.heap.size o p (by have := hsz.out; omega) (by have := hsz.out; omega) wr hDN.out)
              clear hR0 hR1 hne hu
              have e2 : (c : Int) + 1 ≤ 1023 := by have := HM.out; omega
              have e3 : i < c + 1 := by have := HM.out; omega
              go_wp2_with fail
              refine TE.out.mono ?_; rintro e w2 ⟨o2, rfl, hb2, hd2⟩
              have HD2 := Lib.hid hd2
              have HO := Lib.hid hb2
              obtain ⟨-, -, c3, c4, c5, c6⟩ := hd2
              have C := Lib.hid (fun (m : Int) (hm : 0 ≤ m) W => Chr.char_any m hm W)
              clear hb2 TE
              go_wp2_with fail
              have v1 : IntKind.i64.wrap (125 + (n : Int)) = 125 + (n : Int) := IntWalk.i64_in _ (by omega)
              have v2 : IntKind.u64.wrap (125 + (n : Int)) = 125 + (n : Int) := by rw [IntKind.wrap_u64]; omega
              have v4 : IntKind.i64.wrap ((k : Int) / 256) = (k : Int) / 256 := IntWalk.i64_in _ (by omega)
              have v5 : IntKind.u64.wrap ((k : Int) / 256) = (k : Int) / 256 := by rw [IntKind.wrap_u64]; omega
              have v7 : (0 : Int) ≤ (k : Int) / 256 := by omega
              have v6 : IntKind.u64.wrap (k : Int) = (k : Int) := by rw [IntKind.wrap_u64]; omega
              have hoz : o2.size ≤ 10000 := by
                have h1 := T_len (bs p)
                have h2 : o2.size = (bs o ++ T (bs p)).length := by rw [← HO.out]; rfl
                have h3 := hsz.out
                rw [List.length_append, bs_len] at h2
                rw [bs_len] at h1
                omega
              have hsz2 : ∀ x y z : UInt8, (o2 ++ ((⟨#[x]⟩ : ByteArray) ++ (⟨#[y]⟩ : ByteArray) ++ (⟨#[z]⟩ : ByteArray))).size ≤ 20000 := fun x y z => by
                rw [ByteArray.size_append, ByteArray.size_append, ByteArray.size_append]
                have e1 : (⟨#[x]⟩ : ByteArray).size = 1 := rfl
                have e2 : (⟨#[y]⟩ : ByteArray).size = 1 := rfl
                have e3 : (⟨#[z]⟩ : ByteArray).size = 1 := rfl
                omega
              go_region_with ((go_at_call 14; refine ((C.out _ (by omega) _)).mono ?_; rintro e w3 ⟨rfl, hb⟩; have HD2 : Hid (DS W W.heap.size o2 ⟨#[]⟩ w3) := Lib.hid (by first | exact HD2.out.below hb | exact HD2.out.drew.below hb); obtain ⟨-, -, c3, c4, c5, c6⟩ := HD2.out; clear hb))
              all_goals
                clear v1 v2 v4 v5 v6 v7 c3 c4 c5 c6 C hsz2
                have hE : bs (o2 ++ ((⟨#[UInt8.ofNat ((125 + n) % 256)]⟩ : ByteArray) ++ (⟨#[UInt8.ofNat (k / 256 % 256)]⟩ : ByteArray) ++ (⟨#[UInt8.ofNat (k % 256)]⟩ : ByteArray))) = bs o ++ T (bs p) ++ [UInt8.ofNat (125 + n), UInt8.ofNat (k / 256), UInt8.ofNat k] := by
                  rw [bs_app, bs_app, bs_app, HO.out, u8_mod, u8_mod, u8_mod]; rfl
                have hz3 : (o2 ++ ((⟨#[UInt8.ofNat ((125 + n) % 256)]⟩ : ByteArray) ++ (⟨#[UInt8.ofNat (k / 256 % 256)]⟩ : ByteArray) ++ (⟨#[UInt8.ofNat (k % 256)]⟩ : ByteArray))).size = o2.size + 3 := by
                  rw [ByteArray.size_append]; rfl
                have hz4 : o2.size ≤ o.size + 2 * p.size := by
                  have h1 := T_len (bs p)
                  have h2 : o2.size = (bs o ++ T (bs p)).length := by rw [← HO.out]; rfl
                  rw [List.length_append, bs_len] at h2
                  rw [bs_len] at h1
                  omega
                have HE := Lib.hid hE
                clear hE
                generalize o2 ++ ((⟨#[UInt8.ofNat ((125 + n) % 256)]⟩ : ByteArray) ++ (⟨#[UInt8.ofNat (k / 256 % 256)]⟩ : ByteArray) ++ (⟨#[UInt8.ofNat (k % 256)]⟩ : ByteArray)) = O3 at *
                have hu3 : Hid (pk s (i + n) (bs O3) (bs ⟨#[]⟩) = Z) := Lib.hid (by rw [HE.out]; exact hu2.out)
                have hs3 : Hid (O3.size + 2 * (⟨#[]⟩ : ByteArray).size ≤ 2 * (i + n)) := Lib.hid (by
                  have h1 := hsz.out
                  have h2 : (⟨#[]⟩ : ByteArray).size = 0 := rfl
                  omega)
                have hD4 := Lib.hid (HD2.out.setO O3)
                have hin : i + n ≤ s.size := by omega
                clear hz3 hz4 hle
                go_wp2_with fail
                go_roundw
                case rel => first | exact ⟨i + n, O3, ⟨#[]⟩, hin, by go_num, hs3, hu3, hD4⟩ | ((repeat apply Exists.intro); exact ⟨⟨i + n, O3, ⟨#[]⟩, hin, by go_num, hs3, hu3, hD4⟩, rfl⟩)
                case measure => simp [intOf]; omega
    · have hu2 := Lib.hid ((pk_end (by omega) _ _).symm.trans hu.out)
      have TE := Lib.hid (tell_any W W.heap.size o p (by have := hsz.out; omega) (by have := hsz.out; omega) wr hD.out)
      have kd : decide (i < s.size) = false := decide_eq_false hlt
      have kd2 : decide ((i : Int) < (s.size : Int)) = false := decide_eq_false (by omega)
      clear hu
      go_wp2_with fail
      refine TE.out.mono ?_; rintro e w2 ⟨o2, rfl, hb2, hd2⟩
      have HD2 := Lib.hid hd2
      have HO := Lib.hid (hb2.trans hu2.out)
      obtain ⟨-, -, c3, c4, c5, c6⟩ := hd2
      clear hb2 TE
      go_wp2_with fail
      go_ret2
      exact ⟨by rw [← HO.out]; rfl, HD2.out.1⟩
end Go.Proofs.YtnbpninnanjemaaDoor.Lz
