/-
  PROVED HERE: the contract of the document's TextDecode. Conditions: as each theorem states.
-/
import Derived.Test.YthkigjhbcempbaaDoorTdE
import Derived.Deep.CutBlock
namespace Go.Proofs.YthkigjhbcempbaaDoor.Td
open Go.RowKit
theorem may_ext (k b0 b1 b2 b3 c1 c2 c3 : Nat) (h1 : 1 < k → b1 = c1) (h2 : 2 < k → b2 = c2) (h3 : 3 < k → b3 = c3) : may k b0 b1 b2 b3 = may k b0 c1 c2 c3 := by
  unfold may
  split
  · rfl
  · congr 1
    apply propext
    constructor <;> rintro ⟨x1, x2, x3, x4, x5⟩ <;> exact ⟨x1, x2, by omega, by omega, by omega⟩
theorem one_ext (k b0 b1 b2 b3 c1 c2 c3 : Nat) (h1 : 1 < k → b1 = c1) (h2 : 2 < k → b2 = c2) (h3 : 3 < k → b3 = c3) : one k b0 b1 b2 b3 = one k b0 c1 c2 c3 := by
  unfold one
  rw [may_ext k b0 b1 b2 b3 c1 c2 c3 h1 h2 h3]
  split
  · rfl
  · by_cases h : may k b0 c1 c2 c3 = true ∧ k = most b0
    · have hm : most b0 ≤ 4 := by unfold most; (repeat' split) <;> omega
      rw [if_pos h, if_pos h]
      rcases (show k = 2 ∨ k = 3 ∨ k = 4 ∨ k < 2 by omega) with rfl | rfl | rfl | hk
      · rw [h1 (by decide)]; rfl
      · rw [h1 (by decide), h2 (by decide)]; rfl
      · rw [h1 (by decide), h2 (by decide), h3 (by decide)]
      · exfalso
        have := h.1
        unfold may at this
        split at this
        · contradiction
        · have := of_decide_eq_true this; omega
    · rw [if_neg h, if_neg h]
theorem pre_any (u : ByteArray) (k : Nat) (hk : 1 ≤ k) (hku : k ≤ u.size) (W : World) : Calls Tryd.prog 25 #[.string (u.extract 0 k)] W (fun e w' => ∃ i : Int, BPost (may k (byteAt u 0) (byteAt u 1) (byteAt u 2) (byteAt u 3)) i W e w' ∧ (may k (byteAt u 0) (byteAt u 1) (byteAt u 2) (byteAt u 3) = true → i = one k (byteAt u 0) (byteAt u 1) (byteAt u 2) (byteAt u 3))) := by
  have hz : (u.extract 0 k).size = k := by rw [ByteArray.size_extract]; omega
  have h := begins_any (u.extract 0 k) (by omega) W
  rw [hz] at h
  have hb : ∀ i, i < k → byteAt (u.extract 0 k) i = byteAt u i := fun i hi => by rw [byteAt_extract u 0 k i (by omega) hku, Nat.zero_add]
  rw [hb 0 (by omega)] at h
  rw [may_ext k (byteAt u 0) (byteAt (u.extract 0 k) 1) (byteAt (u.extract 0 k) 2) (byteAt (u.extract 0 k) 3) (byteAt u 1) (byteAt u 2) (byteAt u 3) (hb 1) (hb 2) (hb 3), one_ext k (byteAt u 0) (byteAt (u.extract 0 k) 1) (byteAt (u.extract 0 k) 2) (byteAt (u.extract 0 k) 3) (byteAt u 1) (byteAt u 2) (byteAt u 3) (hb 1) (hb 2) (hb 3)] at h
  exact h
def DRel (s : ByteArray) (Z : List Int × List Int) (W : World) (t v u : Value) (wr : World) : Prop := ∃ (p f : Nat) (x : ByteArray) (a b : List Int), p ≤ s.size ∧ t = .string x ∧ Hid (x = s.extract p s.size) ∧ Hid (dec s f p a b = Z) ∧ Hid (s.size ≤ p + f) ∧ Hid (a.length ≤ p ∧ b.length ≤ p) ∧ (∃ k c, v = .slice k a.length c) ∧ (∃ k c, u = .slice k b.length c) ∧ Hid (Two W wr W.heap.size 3 3 v (i64s a) u (i64s b) none none)
set_option maxRecDepth 100000 in
set_option maxHeartbeats 2000000 in
theorem docDecode_any (s : ByteArray) (hs : s.size ≤ 200) (W : World) : Calls Tryd.prog 15 #[.string s] W (TPost (dec s s.size 0 [] []) W) := by
  generalize hZ : dec s s.size 0 [] [] = Z
  have HZ := Lib.hid hZ
  clear hZ
  go_enter Tryd.func15, Tryd.ntmps15
  go_wp2_with fail
  go_loopw [0, 2, 3] (fun t v u wr => DRel s Z W t v u wr) (fun t _ _ _ => match t with | .string x => x.size | _ => 0)
  case atStart => exact ⟨0, s.size, s, [], [], by omega, rfl, Lib.hid (ByteArray.ext (by rw [ByteArray.data_extract]; exact Array.extract_size.symm)), HZ, Lib.hid (by omega), Lib.hid ⟨by simp, by simp⟩, ⟨_, _, rfl⟩, ⟨_, _, rfl⟩, Lib.hid ⟨own_nil _ _ _, own_nil _ _ _, (fun k e => by cases e), Nat.le_refl _, Below.refl _ _, trivial, trivial⟩⟩
  case round =>
    obtain ⟨p, f, x, a, b, hp, rfl, hx, hu, hfu, hlen, ⟨k1, c1, rfl⟩, ⟨k2, c2, rfl⟩, hTw⟩ := hrel
    clear HZ
    have hxz : x.size = s.size - p := by rw [hx.out, size_tail]
    have hxzH := Lib.hid hxz
    by_cases hlt : p < s.size
    · obtain ⟨f, rfl⟩ : ∃ f', f = f' + 1 := ⟨f - 1, by have := hfu.out; omega⟩
      have hlt' : (0 : Int) < (x.size : Int) := by omega
      have hx1 : 1 ≤ x.size := by omega
      have hx0 : decide (0 < x.size) = true := decide_eq_true hx1
      have hx2 : x.size ≤ 200 := by omega
      have U := Lib.hid ((dec_step s f p a b hlt).symm.trans hu.out)
      have SI := step_is (s.size - p) (byteAt s p) (byteAt s (p + 1)) (byteAt s (p + 2)) (byteAt s (p + 3)) (by omega) (byteAt_lt _ _) (byteAt_lt _ _) (byteAt_lt _ _) (byteAt_lt _ _)
      have hsb := stp_bd (s.size - p) (byteAt s p) (byteAt s (p + 1)) (byteAt s (p + 2)) (byteAt s (p + 3)) (by omega)
      change 1 ≤ (sp s p).2 ∧ (sp s p).2 ≤ s.size - p ∧ (sp s p).2 ≤ 4 ∧ (sp s p).1 ≤ 1114111 at hsb
      change dstep (s.size - p) (byteAt s p) (byteAt s (p + 1)) (byteAt s (p + 2)) (byteAt s (p + 3)) = (((sp s p).1 : Int), (sp s p).2) at SI
      have hbx : ∀ i, byteAt s (p + i) = byteAt x i := fun i => by rw [hx.out, byteAt_tail s p i (by omega)]
      rw [← hxz, show byteAt s p = byteAt x 0 from hbx 0, hbx 1, hbx 2, hbx 3] at SI
      generalize sp s p = q at *
      obtain ⟨r, k⟩ := q
      simp only at hsb U SI
      obtain ⟨e1, e2, e3, e4⟩ := hsb
      unfold dstep at SI
      obtain ⟨D, hD⟩ : ∃ D, dst 5 1 0 x.size (byteAt x 0) (byteAt x 1) (byteAt x 2) (byteAt x 3) = D := ⟨_, rfl⟩
      rw [hD] at SI
      have SIH := Lib.hid SI
      have HD := Lib.hid hD
      clear SI hD hbx hxz
      have PRE := Lib.hid (fun k h1 h2 W => pre_any x k h1 h2 W)
      go_upto_block 2 with fail
      go_cut [4, 5] (fun n i wx => n = .int .i64 ((D.2 : Nat) : Int) ∧ i = .int .i64 D.1 ∧ Hid (Two W wx W.heap.size 3 3 (.slice k1 a.length c1) (i64s a) (.slice k2 b.length c2) (i64s b) none none))
      case first =>
        go_wp2_with fail
        go_loopw [4, 5, 6] (fun n i j wr2 => ∃ (m g : Nat), m ≤ x.size ∧ m ≤ 4 ∧ n = .int .i64 (m : Int) ∧ i = .int .i64 (-1) ∧ j = .int .i64 ((m : Int) + 1) ∧ Hid (g + m = 5) ∧ Hid (dst g (m + 1) m x.size (byteAt x 0) (byteAt x 1) (byteAt x 2) (byteAt x 3) = D) ∧ Hid (Two W wr2 W.heap.size 3 3 (.slice k1 a.length c1) (i64s a) (.slice k2 b.length c2) (i64s b) none none)) (fun _ _ j _ => 6 - (RowKit.intOf j).toNat)
        case atStart => exact ⟨0, 5, by omega, by omega, rfl, rfl, rfl, Lib.hid rfl, HD, hTw⟩
        case round =>
          clear hTw
          obtain ⟨m, g, hm, hm4, rfl, rfl, rfl, hg, hd, hT2⟩ := hrel
          by_cases hmx : m < x.size
          · have hmx' : (m : Int) + 1 ≤ (x.size : Int) := by omega
            have C := Lib.hid (PRE.out (m + 1) (by omega) hmx wr)
            have mE : ∃ y, may (m + 1) (byteAt x 0) (byteAt x 1) (byteAt x 2) (byteAt x 3) = y := ⟨_, rfl⟩
            obtain ⟨y, hmay⟩ := mE
            rw [hmay] at C
            cases y with
            | false =>
              have E := Lib.hid (dst_stop g (m + 1) m x.size (byteAt x 0) (byteAt x 1) (byteAt x 2) (byteAt x 3) hmay)
              rw [hd.out] at E
              clear hmay
              go_wp2_with fail
              refine C.out.mono ?_; rintro e w5 ⟨i, ⟨rfl, hb⟩, hi⟩
              have T5 := Lib.hid (hT2.out.below hb)
              clear hb hi
              go_wp2_with fail
              go_meet
              exact ⟨by rw [E.out], by rw [E.out], T5⟩
            | true =>
              have hm3 : m < 4 := by
                have h := hmay
                by_cases h4 : 4 < m + 1
                · rw [(may_far (m + 1) _ _ _ _ h4).1] at h; cases h
                · omega
              obtain ⟨g, rfl⟩ : ∃ g', g = g' + 1 := ⟨g - 1, by have := hg.out; omega⟩
              obtain ⟨o, ho⟩ : ∃ o, one (m + 1) (byteAt x 0) (byteAt x 1) (byteAt x 2) (byteAt x 3) = o := ⟨_, rfl⟩
              rw [ho] at C
              by_cases ho0 : 0 ≤ o
              · have E := Lib.hid (dst_full g (m + 1) m x.size (byteAt x 0) (byteAt x 1) (byteAt x 2) (byteAt x 3) (by omega) hmay (by rw [ho]; exact ho0))
                rw [hd.out, ho] at E
                clear hmay ho
                go_wp2_with fail
                refine C.out.mono ?_; rintro e w5 ⟨i, ⟨rfl, hb⟩, hi⟩
                have hi := hi trivial
                subst hi
                have T5 := Lib.hid (hT2.out.below hb)
                clear hb
                go_wp2_with fail
                go_meet
                exact ⟨by rw [E.out]; rfl, by rw [E.out], T5⟩
              · have E := Lib.hid (show dst (g + 1) (m + 1) m x.size (byteAt x 0) (byteAt x 1) (byteAt x 2) (byteAt x 3) = dst g (m + 2) (m + 1) x.size (byteAt x 0) (byteAt x 1) (byteAt x 2) (byteAt x 3) by
                  rw [dst, if_neg (by omega), if_neg (by rw [hmay]; simp), ho, if_neg ho0])
                rw [hd.out] at E
                clear hmay ho
                go_wp2_with fail
                refine C.out.mono ?_; rintro e w5 ⟨i, ⟨rfl, hb⟩, hi⟩
                have hi := hi trivial
                subst hi
                have T5 := Lib.hid (hT2.out.below hb)
                clear hb
                go_wp2_with fail
                go_roundw
                case rel => first | exact ⟨m + 1, g, by omega, by omega, by go_num, rfl, by go_num, Lib.hid (by have := hg.out; omega), Lib.hid E.out.symm, T5⟩ | ((repeat apply Exists.intro); exact ⟨⟨m + 1, g, by omega, by omega, by go_num, rfl, by go_num, Lib.hid (by have := hg.out; omega), Lib.hid E.out.symm, T5⟩, rfl⟩)
                case measure => first | (simp [RowKit.intOf]; done) | (simp [RowKit.intOf]; omega)
          · have E := Lib.hid (dst_end g (m + 1) m x.size (byteAt x 0) (byteAt x 1) (byteAt x 2) (byteAt x 3) (by omega))
            rw [hd.out] at E
            have hmx' : ¬ (m : Int) + 1 ≤ (x.size : Int) := by omega
            go_wp2_with fail
            go_meet
            exact ⟨by rw [E.out], by rw [E.out], hT2⟩
      case rest =>
        obtain ⟨rfl, rfl, hT1⟩ := hcut
        have T1 := hT1
        clear hT1 hTw HD
        have l1 : a.length ≤ 200 := by have := hlen.out; omega
        have l2 : b.length ≤ 200 := by have := hlen.out; omega
        obtain ⟨d1, d2⟩ := D
        have XN := Lib.hid (show x.extract k x.size = s.extract (p + k) s.size by
          have := hxzH.out
          rw [hx.out] at this ⊢
          apply ByteArray.ext
          simp only [ByteArray.data_extract, Array.extract_extract]
          congr 1
          omega)
        have SS := SIH.out
        clear SIH
        injection SS with s1 s2
        simp only at s1 s2
        have hmax : max (d2 : Int) 1 = (k : Int) := by omega
        have k0 : (k : Int) ≤ (x.size : Int) := by have := hxzH.out; omega
        clear s2
        by_cases hneg : d1 < 0
        · rw [if_pos hneg] at s1
          have hr : (r : Int) = 65533 := s1.symm
          rw [hr] at U
          clear s1 hr
          go_wp2_with (first | (at_builtin; refine two_app1 rfl _ _ 43 rfl (.int .i64 0) 8 Tryd.underlying43 (by kernel_rfl) rfl (T1.out.lay1 _ _) rfl _ rfl rfl (by rw [i64s_len]; omega) (by rw [i64s_len]; omega) ?_; intro v1 w3 ho1; rw [i64s_snoc] at ho1; have T2 := Lib.hid ho1; clear ho1 T1) | (at_builtin; refine two_app2 rfl _ _ 43 rfl (.int .i64 0) 8 Tryd.underlying43 (by kernel_rfl) rfl (T2.out.lay2 _ _) rfl _ rfl rfl (by rw [i64s_len]; omega) (by rw [i64s_len]; omega) ?_; intro v2 w4 ho2; rw [i64s_snoc] at ho2; have T3 := Lib.hid ho2; clear ho2 T2))
          go_roundw
          case rel => first | exact ⟨p + k, f, _, _, _, by omega, rfl, XN, U, Lib.hid (by have := hfu.out; omega), Lib.hid (by have := hlen.out; simp; omega), (by obtain ⟨a', c', e'⟩ := T3.out.1.len; rw [i64s_len] at e'; exact ⟨a', c', e'⟩), (by obtain ⟨a', c', e'⟩ := T3.out.2.1.len; rw [i64s_len] at e'; exact ⟨a', c', e'⟩), T3⟩ | ((repeat apply Exists.intro); exact ⟨⟨p + k, f, _, _, _, by omega, rfl, XN, U, Lib.hid (by have := hfu.out; omega), Lib.hid (by have := hlen.out; simp; omega), (by obtain ⟨a', c', e'⟩ := T3.out.1.len; rw [i64s_len] at e'; exact ⟨a', c', e'⟩), (by obtain ⟨a', c', e'⟩ := T3.out.2.1.len; rw [i64s_len] at e'; exact ⟨a', c', e'⟩), T3⟩, rfl⟩)
          case measure => simp only [ByteArray.size_extract]; omega
        · rw [if_neg hneg] at s1
          subst s1
          have ng : ¬ (r : Int) < 0 := by omega
          clear hneg
          go_wp2_with (first | (at_builtin; refine two_app1 rfl _ _ 43 rfl (.int .i64 0) 8 Tryd.underlying43 (by kernel_rfl) rfl (T1.out.lay1 _ _) rfl _ rfl rfl (by rw [i64s_len]; omega) (by rw [i64s_len]; omega) ?_; intro v1 w3 ho1; rw [i64s_snoc] at ho1; have T2 := Lib.hid ho1; clear ho1 T1) | (at_builtin; refine two_app2 rfl _ _ 43 rfl (.int .i64 0) 8 Tryd.underlying43 (by kernel_rfl) rfl (T2.out.lay2 _ _) rfl _ rfl rfl (by rw [i64s_len]; omega) (by rw [i64s_len]; omega) ?_; intro v2 w4 ho2; rw [i64s_snoc] at ho2; have T3 := Lib.hid ho2; clear ho2 T2))
          go_roundw
          case rel => first | exact ⟨p + k, f, _, _, _, by omega, rfl, XN, U, Lib.hid (by have := hfu.out; omega), Lib.hid (by have := hlen.out; simp; omega), (by obtain ⟨a', c', e'⟩ := T3.out.1.len; rw [i64s_len] at e'; exact ⟨a', c', e'⟩), (by obtain ⟨a', c', e'⟩ := T3.out.2.1.len; rw [i64s_len] at e'; exact ⟨a', c', e'⟩), T3⟩ | ((repeat apply Exists.intro); exact ⟨⟨p + k, f, _, _, _, by omega, rfl, XN, U, Lib.hid (by have := hfu.out; omega), Lib.hid (by have := hlen.out; simp; omega), (by obtain ⟨a', c', e'⟩ := T3.out.1.len; rw [i64s_len] at e'; exact ⟨a', c', e'⟩), (by obtain ⟨a', c', e'⟩ := T3.out.2.1.len; rw [i64s_len] at e'; exact ⟨a', c', e'⟩), T3⟩, rfl⟩)
          case measure => simp only [ByteArray.size_extract]; omega
    · have U := Lib.hid ((dec_end s f p a b (by omega)).symm.trans hu.out)
      have hlt' : ¬ (0 : Int) < (x.size : Int) := by omega
      clear hxz
      go_wp2_with fail
      go_ret2
      rw [← U.out]
      exact ⟨_, _, rfl, hTw.out.1, hTw.out.2.1, hTw.out.2.2.2.2.1⟩
end Go.Proofs.YthkigjhbcempbaaDoor.Td
