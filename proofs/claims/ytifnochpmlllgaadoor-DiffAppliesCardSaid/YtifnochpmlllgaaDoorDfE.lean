/-
  PROVED HERE: the law DiffApplies returns true. Conditions: as each theorem states.
-/
import Derived.Test.YtifnochpmlllgaaDoorDfD
namespace Go.Proofs.YtifnochpmlllgaaDoor.Df
open Go.RowKit
set_option maxRecDepth 100000 in
set_option maxHeartbeats 4000000 in
theorem applies_walk (s : ByteArray) (v : Value) (l : List Ed) (W : World) (hl : Eds W v l) (hg : Err.Home W) :
    Calls Tryd.prog 13 #[.string s, v] W fun e w' => e = .returned (.bool true) ∧ Below W.heap.size W w' := by
  have hcH := Lib.hid hl
  have HG := Lib.hid hg
  have D1 := Lib.hid (fun w' hl' hs hn ht => docApply_any s v l w' hl' hs hn ht)
  have D2 := Lib.hid (fun w' hl' hs hn ht => apply_any s v l w' hl' hs hn ht)
  have D3 := Lib.hid (fun w' hl' hs hn ht => docBack_any s v l w' hl' hs hn ht)
  have D4 := Lib.hid (fun w' hl' hs hn ht => back_any s v l w' hl' hs hn ht)
  obtain ⟨a, cap, rfl, -⟩ := hl
  clear hg
  by_cases h1 : 300 < s.size
  · clear D1 D2 D3 D4
    go_enter Tryd.func13, Tryd.ntmps13
    go_wp2_with fail
    go_ret
    exact ⟨rfl, Below.refl _ _⟩
  by_cases h2 : 40 < l.length
  · clear D1 D2 D3 D4
    go_enter Tryd.func13, Tryd.ntmps13
    go_wp2_with fail
    go_ret
    exact ⟨rfl, Below.refl _ _⟩
  go_enter Tryd.func13, Tryd.ntmps13
  go_wp2_with fail
  go_loop [5] (fun i => ∃ k : Nat, k ≤ l.length ∧ i = .int .i64 k ∧ Hid (∀ j (h : j < l.length), j < k → l[j].text.size ≤ 5000)) (fun i => l.length - (intOf i).toNat)
  case atStart => exact ⟨0, Nat.zero_le _, rfl, Lib.hid (fun j _ h => absurd h (Nat.not_lt_zero j))⟩
  case round =>
    obtain ⟨k, hk, rfl, hall⟩ := hrel
    by_cases hlt : k < l.length
    · obtain ⟨ad, rfl, c0, c1, c2⟩ := hcH.out.at_ k hlt
      have i1 : (0 : Int) ≤ (k : Int) := by omega
      have i2 : (k : Int) < (l.length : Int) := by omega
      have hN : l[k].text.size ≤ 5000 → Hid (∀ j (h : j < l.length), j < k + 1 → l[j].text.size ≤ 5000) := fun h => Lib.hid (fun j hj hjk => by
        rcases Nat.lt_succ_iff_lt_or_eq.1 hjk with h1 | h1
        · exact hall.out j hj h1
        · subst h1; exact h)
      have hNH := Lib.hid hN
      clear hN
      generalize l[k] = e at *
      obtain ⟨wh, n, tx⟩ := e
      simp only at c0 c1 c2 hNH
      rcases (show tx.size ≤ 200 ∨ (200 < tx.size ∧ tx.size ≤ 4000) ∨ (4000 < tx.size ∧ tx.size ≤ 4009) ∨ 4009 < tx.size by omega) with q | ⟨q1, q2⟩ | ⟨q1, q2⟩ | q
      · have hN2 := hNH.out (by omega)
        go_wp2_with fail
        go_round
        case rel => exact ⟨k + 1, by omega, by go_num, hN2⟩
        case measure => simp [intOf]; omega
      · go_wp2_with fail
        go_ret
        exact ⟨rfl, Below.refl _ _⟩
      · have hN2 := hNH.out (by omega)
        have q0 : 200 < tx.size := by omega
        go_wp2_with fail
        go_round
        case rel => exact ⟨k + 1, by omega, by go_num, hN2⟩
        case measure => simp [intOf]; omega
      · have q0 : 200 < tx.size := by omega
        have q3 : 4000 < tx.size := by omega
        go_wp2_with fail
        go_ret
        exact ⟨rfl, Below.refl _ _⟩
    · obtain rfl : k = l.length := by omega
      have hT := Lib.hid (fun j (h : j < l.length) => hall.out j h h)
      have hs2 : s.size ≤ 1000 := by omega
      have hn2 : l.length ≤ 100 := by omega
      have hb : ((run s l 0 ⟨#[]⟩).1 == (run s l 0 ⟨#[]⟩).1 && (-1 : Int) == -1) = true := by simp
      generalize hL : (if (run s l 0 ⟨#[]⟩).1 = 0 then bk s l 0 else []) = L at *
      have hLn : L.length ≤ 100 := by
        rw [← hL]
        split
        · have : ∀ (l : List Ed) (o : Nat), (bk s l o).length = l.length := by
            intro l
            induction l with
            | nil => intro o; rfl
            | cons e r ih => intro o; rw [bk, List.length_cons, ih, List.length_cons]
          rw [this]; exact hn2
        · simp
      have hbH := Lib.hid hb
      generalize run s l 0 ⟨#[]⟩ = R at *
      obtain ⟨c, T⟩ := R
      simp only at hbH
      clear hall hb hL
      go_wp2_with fail
      refine (D1.out _ hcH.out hs2 hn2 hT.out).mono ?_; rintro e w1 ⟨rfl, b1⟩
      have B1 := Lib.hid b1
      clear b1
      go_wp2_with fail
      refine (D2.out _ (hcH.out.below B1.out) hs2 hn2 hT.out).mono ?_; rintro e w2 ⟨rfl, b2⟩
      have B2 := Lib.hid (B1.out.trans (b2.mono B1.out.size))
      clear b2
      go_wp2_with fail
      refine (D3.out _ (hcH.out.below B2.out) hs2 hn2 hT.out).mono ?_; rintro e w3 ⟨v3, rfl, E3, b3⟩
      have B3 := Lib.hid (B2.out.trans (b3.mono B2.out.size))
      have E3H := Lib.hid E3
      clear b3 E3
      go_wp2_with fail
      refine (D4.out _ (hcH.out.below B3.out) hs2 hn2 hT.out).mono ?_; rintro e w4 ⟨v4, rfl, E4, b4⟩
      have B4 := Lib.hid (B3.out.trans (b4.mono B3.out.size))
      have E3H2 := Lib.hid (E3H.out.below b4)
      have E4H := Lib.hid E4
      clear b4 E4 E3H
      go_wp2_with fail
      refine (Err.bare_any _ c (-1) c _ (HG.out.below B4.out) (ev_is c _)).mono ?_; rintro e w5 ⟨rfl, b5⟩
      rw [hbH.out]
      have B5 := Lib.hid (B4.out.trans (b5.mono B4.out.size))
      have E3H3 := Lib.hid (E3H2.out.below b5)
      have E4H3 := Lib.hid (E4H.out.below b5)
      clear b5 E3H2 E4H
      go_wp2_with fail
      refine (Err.bare_any _ c (-1) c _ (HG.out.below B5.out) (ev_is c _)).mono ?_; rintro e w6 ⟨rfl, b6⟩
      rw [hbH.out]
      have B6 := Lib.hid (B5.out.trans (b6.mono B5.out.size))
      have E3H4 := Lib.hid (E3H3.out.below b6)
      have E4H4 := Lib.hid (E4H3.out.below b6)
      clear b6 E3H3 E4H3
      go_wp2_with fail
      refine (same_any v4 v3 L _ E4H4.out E3H4.out hLn).mono ?_; rintro e w7 ⟨rfl, b7⟩
      have B7 := Lib.hid (B6.out.trans (b7.mono B6.out.size))
      clear b7
      go_wp2_with fail
      go_ret
      exact ⟨rfl, B7.out⟩
end Go.Proofs.YtifnochpmlllgaaDoor.Df
