/-
  PROVED HERE: the contract of text.Decode. Conditions: as each theorem states.
-/
import Derived.Test.YthkigjhbcempbaaDoorTdD
import Derived.Test.YthkigjhbcempbaaDoorTwo
import Derived.Test.YthkigjhbcempbaaDoorShelf
import Derived.Deep.RegionLaw
import Derived.Deep.DeepCutAuto
namespace Go.Proofs.YthkigjhbcempbaaDoor.Td
open Go.RowKit Go.Lib
def sp (s : ByteArray) (p : Nat) : Nat × Nat := stp (s.size - p) (byteAt s p) (byteAt s (p + 1)) (byteAt s (p + 2)) (byteAt s (p + 3))
def dec (s : ByteArray) : Nat → Nat → List Int → List Int → List Int × List Int
  | 0, _, a, b => (a, b)
  | f + 1, p, a, b => if s.size ≤ p then (a, b) else dec s f (p + (sp s p).2) (a ++ [((sp s p).1 : Int)]) (b ++ [((sp s p).2 : Int)])
set_option maxRecDepth 20000 in
theorem decodeN_bd (n b0 b1 b2 b3 : Nat) (hn : 1 ≤ n) : 1 ≤ (decodeN n b0 b1 b2 b3).2 ∧ (decodeN n b0 b1 b2 b3).2 ≤ n ∧ (decodeN n b0 b1 b2 b3).2 ≤ 4 ∧ (decodeN n b0 b1 b2 b3).1 ≤ 1114111 := by
  unfold decodeN
  repeat' split
  all_goals (refine ⟨?_, ?_, ?_, ?_⟩ <;> simp only <;> omega)
theorem bgn_le (n b0 b1 b2 b3 : Nat) (hn : 1 ≤ n) : bgn n b0 b1 b2 b3 ≤ n ∧ bgn n b0 b1 b2 b3 ≤ 4 := by
  unfold bgn
  (repeat' split) <;> omega
theorem stp_bd (n b0 b1 b2 b3 : Nat) (hn : 1 ≤ n) : 1 ≤ (stp n b0 b1 b2 b3).2 ∧ (stp n b0 b1 b2 b3).2 ≤ n ∧ (stp n b0 b1 b2 b3).2 ≤ 4 ∧ (stp n b0 b1 b2 b3).1 ≤ 1114111 := by
  have h1 := decodeN_bd n b0 b1 b2 b3 hn
  have h2 := bgn_le n b0 b1 b2 b3 hn
  have h3 := bgn_bd n b0 b1 b2 b3
  unfold stp
  split
  · exact ⟨h3, h2.1, h2.2, by simp⟩
  · exact h1
theorem dec_end (s : ByteArray) (f p : Nat) (a b : List Int) (h : s.size ≤ p) : dec s f p a b = (a, b) := by
  cases f with
  | zero => rfl
  | succ f => rw [dec, if_pos h]
theorem dec_step (s : ByteArray) (f p : Nat) (a b : List Int) (h : p < s.size) : dec s (f + 1) p a b = dec s f (p + (sp s p).2) (a ++ [((sp s p).1 : Int)]) (b ++ [((sp s p).2 : Int)]) := by
  rw [dec, if_neg (by omega)]
theorem get_byteAt (u : ByteArray) (k : Nat) : (u.get! k).toNat = byteAt u k := by
  unfold byteAt
  rcases u with ⟨d⟩
  show (d[k]!).toNat = _
  rw [Array.getElem!_eq_getD, Array.getD_eq_getD_getElem?]
  rfl
theorem byteAt_tail (s : ByteArray) (p k : Nat) (_hp : p ≤ s.size) : byteAt (s.extract p s.size) k = byteAt s (p + k) := by
  by_cases h : p + k < s.size
  · exact byteAt_extract s p s.size k h (Nat.le_refl _)
  · unfold byteAt
    have e1 : (s.extract p s.size).data[k]? = none := by
      rw [Array.getElem?_eq_none_iff]
      show (s.extract p s.size).size ≤ k
      rw [ByteArray.size_extract]; omega
    have e2 : s.data[p + k]? = none := by
      rw [Array.getElem?_eq_none_iff]
      show s.size ≤ p + k
      omega
    rw [e1, e2]
theorem size_tail (s : ByteArray) (p : Nat) : (s.extract p s.size).size = s.size - p := by rw [ByteArray.size_extract]; omega
theorem decode_tail (s : ByteArray) (p : Nat) (hp : p < s.size) : Lib.decodeGo (s.extract p s.size) = decodeN (s.size - p) (byteAt s p) (byteAt s (p + 1)) (byteAt s (p + 2)) (byteAt s (p + 3)) := by
  unfold Lib.decodeGo
  rw [size_tail, if_neg (by omega), decode_at, get_byteAt, get_byteAt, get_byteAt, get_byteAt, size_tail]
  rw [byteAt_tail s p _ (by omega), byteAt_tail s p _ (by omega), byteAt_tail s p _ (by omega), byteAt_tail s p _ (by omega)]
  rfl
theorem tabs_below {W w : World} {g h : Nat} (hT : Lib.Utf8Tabs g h W) (hB : Below W.heap.size W w) : Lib.Utf8Tabs g h w :=
  ⟨fun c hc => keepCell hB (hT.1 c hc), fun i hi => ⟨keepCell hB (hT.2 i hi).1, keepCell hB (hT.2 i hi).2⟩⟩
def TRel (s : ByteArray) (Z : List Int × List Int) (W : World) (v u i : Value) (wr : World) : Prop := ∃ (p f : Nat) (a b : List Int), p ≤ s.size ∧ i = .int .i64 (p : Int) ∧ Hid (dec s f p a b = Z) ∧ Hid (s.size ≤ p + f) ∧ Hid (a.length ≤ p ∧ b.length ≤ p) ∧ (∃ k c, v = .slice k a.length c) ∧ (∃ k c, u = .slice k b.length c) ∧ Hid (Two W wr W.heap.size 3 3 v (i64s a) u (i64s b) none none)
def TPost (Z : List Int × List Int) (W : World) (e : Ending) (w' : World) : Prop := ∃ v u, e = .returned (.tuple #[v, u]) ∧ Own w' W.heap.size 3 v (i64s Z.1) ∧ Own w' W.heap.size 3 u (i64s Z.2) ∧ Below W.heap.size W w'
theorem tdec (s : ByteArray) (p : Nat) (hp : p < s.size) (W : World) (hT : Lib.Utf8Tabs 0 1 W) : Calls Tryd.prog 26 #[.string (s.extract p s.size)] W fun e w' => e = .returned (.tuple #[.int .i32 ((decodeN (s.size - p) (byteAt s p) (byteAt s (p + 1)) (byteAt s (p + 2)) (byteAt s (p + 3))).1 : Nat), .int .i64 ((decodeN (s.size - p) (byteAt s p) (byteAt s (p + 1)) (byteAt s (p + 2)) (byteAt s (p + 3))).2 : Nat)]) ∧ Below W.heap.size W w' := by
  rw [← decode_tail s p hp]
  exact Tryd.utf8_DecodeRuneInString _ W hT
theorem tbgn (s : ByteArray) (p : Nat) (hp : p < s.size) (hs : s.size ≤ 200) (W : World) : Calls Tryd.prog 27 #[.string (s.extract p s.size)] W fun e w' => e = .returned (.int .i64 (bgn (s.size - p) (byteAt s p) (byteAt s (p + 1)) (byteAt s (p + 2)) (byteAt s (p + 3)) : Nat)) ∧ W = w' :=
  begun_any _ (by rw [size_tail]; omega) (by rw [size_tail]; omega) W _ (by rw [size_tail, byteAt_tail s p _ (by omega), byteAt_tail s p _ (by omega), byteAt_tail s p _ (by omega), byteAt_tail s p _ (by omega)]; rfl)
set_option maxRecDepth 100000 in
set_option maxHeartbeats 2000000 in
theorem decode_any (s : ByteArray) (hs : s.size ≤ 200) (W : World) (hT : Lib.Utf8Tabs 0 1 W) : Calls Tryd.prog 16 #[.string s] W (TPost (dec s s.size 0 [] []) W) := by
  have HT := Lib.hid hT
  generalize hZ : dec s s.size 0 [] [] = Z
  have HZ := Lib.hid hZ
  clear hT hZ
  go_enter Tryd.func16, Tryd.ntmps16
  go_wp2_with fail
  go_loopw [2, 3, 4] (fun v u i wr => TRel s Z W v u i wr) (fun _ _ i _ => s.size + 1 - (RowKit.intOf i).toNat)
  case atStart => exact ⟨0, s.size, [], [], by omega, rfl, HZ, Lib.hid (by omega), Lib.hid ⟨by simp, by simp⟩, ⟨_, _, rfl⟩, ⟨_, _, rfl⟩, Lib.hid ⟨own_nil _ _ _, own_nil _ _ _, (fun k e => by cases e), Nat.le_refl _, Below.refl _ _, trivial, trivial⟩⟩
  case round =>
    obtain ⟨p, f, a, b, hp, rfl, hu, hfu, hlen, ⟨k1, c1, rfl⟩, ⟨k2, c2, rfl⟩, hTw⟩ := hrel
    clear HZ
    by_cases hlt : p < s.size
    · obtain ⟨f, rfl⟩ : ∃ f', f = f' + 1 := ⟨f - 1, by have := hfu.out; omega⟩
      have hlt' : (p : Int) < (s.size : Int) := by omega
      have U := Lib.hid ((dec_step s f p a b hlt).symm.trans hu.out)
      have DC := tdec s p hlt wr (tabs_below HT.out hTw.out.2.2.2.2.1)
      have hsp : sp s p = if (decodeN (s.size - p) (byteAt s p) (byteAt s (p + 1)) (byteAt s (p + 2)) (byteAt s (p + 3))).1 = 65533 ∧ (decodeN (s.size - p) (byteAt s p) (byteAt s (p + 1)) (byteAt s (p + 2)) (byteAt s (p + 3))).2 = 1 then (65533, bgn (s.size - p) (byteAt s p) (byteAt s (p + 1)) (byteAt s (p + 2)) (byteAt s (p + 3))) else decodeN (s.size - p) (byteAt s p) (byteAt s (p + 1)) (byteAt s (p + 2)) (byteAt s (p + 3)) := rfl
      have hbd := decodeN_bd (s.size - p) (byteAt s p) (byteAt s (p + 1)) (byteAt s (p + 2)) (byteAt s (p + 3)) (by omega)
      have hsb := stp_bd (s.size - p) (byteAt s p) (byteAt s (p + 1)) (byteAt s (p + 2)) (byteAt s (p + 3)) (by omega)
      have BG := Lib.hid (fun W => tbgn s p hlt hs W)
      change 1 ≤ (sp s p).2 ∧ (sp s p).2 ≤ s.size - p ∧ (sp s p).2 ≤ 4 ∧ (sp s p).1 ≤ 1114111 at hsb
      generalize decodeN (s.size - p) (byteAt s p) (byteAt s (p + 1)) (byteAt s (p + 2)) (byteAt s (p + 3)) = D at *
      generalize bgn (s.size - p) (byteAt s p) (byteAt s (p + 1)) (byteAt s (p + 2)) (byteAt s (p + 3)) = G at *
      generalize sp s p = q at *
      obtain ⟨R, K⟩ := D
      obtain ⟨r, k⟩ := q
      simp only at hsp hbd hsb U DC
      have HSP := Lib.hid hsp
      have DCH := Lib.hid DC
      obtain ⟨b1, b2, b3, b4⟩ := hbd
      obtain ⟨e1, e2, e3, e4⟩ := hsb
      clear hsp DC
      have hcase : r = R ∧ ((R = 65533 ∧ K = 1 ∧ k = G) ∨ (R = 65533 ∧ K ≠ 1 ∧ k = K) ∨ (R ≠ 65533 ∧ k = K)) := by
        have h := HSP.out
        by_cases h1 : R = 65533
        · by_cases h2 : K = 1
          · rw [if_pos ⟨h1, h2⟩] at h
            injection h with h3 h4
            exact ⟨by rw [h3, h1], .inl ⟨h1, h2, h4⟩⟩
          · rw [if_neg (fun e => h2 e.2)] at h
            injection h with h3 h4
            exact ⟨h3, .inr (.inl ⟨h1, h2, h4⟩)⟩
        · rw [if_neg (fun e => h1 e.1)] at h
          injection h with h3 h4
          exact ⟨h3, .inr (.inr ⟨h1, h4⟩)⟩
      clear HSP
      obtain ⟨rfl, hcase⟩ := hcase
      have l1 : a.length ≤ 200 := by have := hlen.out; omega
      have l2 : b.length ≤ 200 := by have := hlen.out; omega
      rcases hcase with ⟨x1, x2, rfl⟩ | ⟨x1, x2, rfl⟩ | ⟨x1, rfl⟩
      · have q1 : ((r : Int) == 65533) = true := by rw [x1]; rfl
        have q2 : ((K : Int) == 1) = true := by rw [x2]; rfl
        clear x1 x2
        go_wp2_with fail
        refine DCH.out.mono ?_; rintro e w1 ⟨rfl, hb1⟩
        have T1 := Lib.hid (hTw.out.below hb1)
        clear hb1
        go_wp2_with fail
        refine (BG.out _).mono ?_; rintro e w2 ⟨rfl, rfl⟩
        go_wp2_with (first | (at_builtin; refine two_app1 rfl _ _ 43 rfl (.int .i64 0) 8 Tryd.underlying43 (by kernel_rfl) rfl (T1.out.lay1 _ _) rfl _ rfl rfl (by rw [i64s_len]; omega) (by rw [i64s_len]; omega) ?_; intro v1 w3 ho1; rw [i64s_snoc] at ho1; have T2 := Lib.hid ho1; clear ho1 T1) | (at_builtin; refine two_app2 rfl _ _ 43 rfl (.int .i64 0) 8 Tryd.underlying43 (by kernel_rfl) rfl (T2.out.lay2 _ _) rfl _ rfl rfl (by rw [i64s_len]; omega) (by rw [i64s_len]; omega) ?_; intro v2 w4 ho2; rw [i64s_snoc] at ho2; have T3 := Lib.hid ho2; clear ho2 T2))
        go_roundw
        case rel => first | exact ⟨p + k, f, _, _, by omega, by go_num, U, Lib.hid (by have := hfu.out; omega), Lib.hid (by have := hlen.out; simp; omega), (by obtain ⟨a', c', e'⟩ := T3.out.1.len; rw [i64s_len] at e'; exact ⟨a', c', e'⟩), (by obtain ⟨a', c', e'⟩ := T3.out.2.1.len; rw [i64s_len] at e'; exact ⟨a', c', e'⟩), T3⟩ | ((repeat apply Exists.intro); exact ⟨⟨p + k, f, _, _, by omega, by go_num, U, Lib.hid (by have := hfu.out; omega), Lib.hid (by have := hlen.out; simp; omega), (by obtain ⟨a', c', e'⟩ := T3.out.1.len; rw [i64s_len] at e'; exact ⟨a', c', e'⟩), (by obtain ⟨a', c', e'⟩ := T3.out.2.1.len; rw [i64s_len] at e'; exact ⟨a', c', e'⟩), T3⟩, rfl⟩)
        case measure => first | (simp [RowKit.intOf]; done) | (simp [RowKit.intOf]; omega)
      · have q1 : ((r : Int) == 65533) = true := by rw [x1]; rfl
        have q2 : ((k : Int) == 1) = false := by rw [beq_eq_false_iff_ne]; omega
        clear x1 x2
        go_wp2_with fail
        refine DCH.out.mono ?_; rintro e w1 ⟨rfl, hb1⟩
        have T1 := Lib.hid (hTw.out.below hb1)
        clear hb1
        go_wp2_with (first | (at_builtin; refine two_app1 rfl _ _ 43 rfl (.int .i64 0) 8 Tryd.underlying43 (by kernel_rfl) rfl (T1.out.lay1 _ _) rfl _ rfl rfl (by rw [i64s_len]; omega) (by rw [i64s_len]; omega) ?_; intro v1 w3 ho1; rw [i64s_snoc] at ho1; have T2 := Lib.hid ho1; clear ho1 T1) | (at_builtin; refine two_app2 rfl _ _ 43 rfl (.int .i64 0) 8 Tryd.underlying43 (by kernel_rfl) rfl (T2.out.lay2 _ _) rfl _ rfl rfl (by rw [i64s_len]; omega) (by rw [i64s_len]; omega) ?_; intro v2 w4 ho2; rw [i64s_snoc] at ho2; have T3 := Lib.hid ho2; clear ho2 T2))
        go_roundw
        case rel => first | exact ⟨p + k, f, _, _, by omega, by go_num, U, Lib.hid (by have := hfu.out; omega), Lib.hid (by have := hlen.out; simp; omega), (by obtain ⟨a', c', e'⟩ := T3.out.1.len; rw [i64s_len] at e'; exact ⟨a', c', e'⟩), (by obtain ⟨a', c', e'⟩ := T3.out.2.1.len; rw [i64s_len] at e'; exact ⟨a', c', e'⟩), T3⟩ | ((repeat apply Exists.intro); exact ⟨⟨p + k, f, _, _, by omega, by go_num, U, Lib.hid (by have := hfu.out; omega), Lib.hid (by have := hlen.out; simp; omega), (by obtain ⟨a', c', e'⟩ := T3.out.1.len; rw [i64s_len] at e'; exact ⟨a', c', e'⟩), (by obtain ⟨a', c', e'⟩ := T3.out.2.1.len; rw [i64s_len] at e'; exact ⟨a', c', e'⟩), T3⟩, rfl⟩)
        case measure => first | (simp [RowKit.intOf]; done) | (simp [RowKit.intOf]; omega)
      · have q1 : ((r : Int) == 65533) = false := by rw [beq_eq_false_iff_ne]; omega
        clear x1
        go_wp2_with fail
        refine DCH.out.mono ?_; rintro e w1 ⟨rfl, hb1⟩
        have T1 := Lib.hid (hTw.out.below hb1)
        clear hb1
        go_wp2_with (first | (at_builtin; refine two_app1 rfl _ _ 43 rfl (.int .i64 0) 8 Tryd.underlying43 (by kernel_rfl) rfl (T1.out.lay1 _ _) rfl _ rfl rfl (by rw [i64s_len]; omega) (by rw [i64s_len]; omega) ?_; intro v1 w3 ho1; rw [i64s_snoc] at ho1; have T2 := Lib.hid ho1; clear ho1 T1) | (at_builtin; refine two_app2 rfl _ _ 43 rfl (.int .i64 0) 8 Tryd.underlying43 (by kernel_rfl) rfl (T2.out.lay2 _ _) rfl _ rfl rfl (by rw [i64s_len]; omega) (by rw [i64s_len]; omega) ?_; intro v2 w4 ho2; rw [i64s_snoc] at ho2; have T3 := Lib.hid ho2; clear ho2 T2))
        go_roundw
        case rel => first | exact ⟨p + k, f, _, _, by omega, by go_num, U, Lib.hid (by have := hfu.out; omega), Lib.hid (by have := hlen.out; simp; omega), (by obtain ⟨a', c', e'⟩ := T3.out.1.len; rw [i64s_len] at e'; exact ⟨a', c', e'⟩), (by obtain ⟨a', c', e'⟩ := T3.out.2.1.len; rw [i64s_len] at e'; exact ⟨a', c', e'⟩), T3⟩ | ((repeat apply Exists.intro); exact ⟨⟨p + k, f, _, _, by omega, by go_num, U, Lib.hid (by have := hfu.out; omega), Lib.hid (by have := hlen.out; simp; omega), (by obtain ⟨a', c', e'⟩ := T3.out.1.len; rw [i64s_len] at e'; exact ⟨a', c', e'⟩), (by obtain ⟨a', c', e'⟩ := T3.out.2.1.len; rw [i64s_len] at e'; exact ⟨a', c', e'⟩), T3⟩, rfl⟩)
        case measure => first | (simp [RowKit.intOf]; done) | (simp [RowKit.intOf]; omega)
    · have U := Lib.hid ((dec_end s f p a b (by omega)).symm.trans hu.out)
      go_wp2_with fail
      go_ret2
      rw [← U.out]
      exact ⟨_, _, rfl, hTw.out.1, hTw.out.2.1, hTw.out.2.2.2.2.1⟩
end Go.Proofs.YthkigjhbcempbaaDoor.Td
