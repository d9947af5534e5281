/-
  PROVED HERE: the contract of diff.Apply. Conditions: as each theorem states.
-/
import Derived.Test.YtifnochpmlllgaaDoorDfA
namespace Go.Proofs.YtifnochpmlllgaaDoor.Df
open Go.RowKit
/-- An error of a number, as the program has it. -/
def ev (c : Int) : Value := if c = 0 then .nilIface else .iface 23 (.int .i64 c)
theorem ev_is (c : Int) (w : World) : Err.ErrIs w (ev c) c (-1) := by
  unfold ev
  by_cases h : c = 0
  · rw [if_pos h]; exact .inl ⟨rfl, h, rfl⟩
  · rw [if_neg h]; exact .inr (.inl ⟨rfl, rfl⟩)
def AP (r : Int × ByteArray) (W : World) (e : Ending) (w' : World) : Prop := e = .returned (.tuple #[.string r.2, ev r.1]) ∧ Below W.heap.size W w'
theorem dtl_app (a b : ByteArray) : (a ++ b).data.toList = a.data.toList ++ b.data.toList := by rw [ByteArray.data_append, Array.toList_append]
set_option maxRecDepth 100000 in
set_option maxHeartbeats 2000000 in
theorem apply_any (s : ByteArray) (v : Value) (l : List Ed) (W : World) (hl : Eds W v l) (hs : s.size ≤ 1000) (hn : l.length ≤ 100) (ht : ∀ j (h : j < l.length), l[j].text.size ≤ 5000) :
    Calls Tryd.prog 62 #[.string s, v] W (AP (run s l 0 ⟨#[]⟩) W) := by
  have hcH := Lib.hid hl
  obtain ⟨a, cap, rfl, -⟩ := hl
  have htH := Lib.hid ht
  clear ht
  go_enter Tryd.func62, Tryd.ntmps62
  go_wp2_with fail
  go_loopw [0, 11] (fun t i wr => ∃ k o : Nat, ∃ O : ByteArray, k ≤ l.length ∧ i = .int .i64 k ∧ o ≤ s.size ∧ t = .string (s.extract o s.size) ∧ O.size ≤ o + 5000 * k ∧ Hid (Bld.Bl wr W.heap.size W.heap.size O.data.toList) ∧ Hid (run s (l.drop k) o O = run s l 0 ⟨#[]⟩) ∧ Hid (Below W.heap.size W wr)) (fun _ i _ => l.length - (intOf i).toNat)
  case atStart => exact ⟨0, 0, ⟨#[]⟩, Nat.zero_le _, rfl, Nat.zero_le _, by rw [ext_all], Nat.zero_le _, Lib.hid (Bld.Bl.new (Nat.le_refl _)), Lib.hid rfl, Lib.hid ((Below.refl _ _).alloc (Nat.le_refl _) _)⟩
  case round =>
    obtain ⟨k, o, O, hk, rfl, ho, rfl, hO, hBl, hr, hB⟩ := hrel
    have hsz : (s.extract o s.size).size = s.size - o := by rw [ByteArray.size_extract]; omega
    have hOl : O.data.toList.length = O.size := rfl
    by_cases hlt : k < l.length
    · obtain ⟨ad, rfl, d0, d1, d2⟩ := hcH.out.at_ k hlt
      have c0 := keepCell hB.out d0
      have c1 := keepCell hB.out d1
      have c2 := keepCell hB.out d2
      have hte := htH.out k hlt
      have hd := drop_next l k hlt
      rw [hd] at hr
      generalize l[k] = e at *
      obtain ⟨wh, n, tx⟩ := e
      clear d0 d1 d2 hd
      simp only at c0 c1 c2 hte
      have hBl2 := Lib.hid (hBl.out.keep ((Below.refl _ _).alloc (Nat.le_refl _) (.cells #[.int .i64 wh, .int .i64 n, .string tx] 96)))
      have hB2 := Lib.hid (hB.out.alloc hB.out.size (.cells #[.int .i64 wh, .int .i64 n, .string tx] 96))
      have i1 : (0 : Int) ≤ (k : Int) := by omega
      have i2 : (k : Int) < (l.length : Int) := by omega
      by_cases hb : wh < 1 ∨ 3 < wh
      · have hR := hr.out
        rw [run_bad s _ _ o O (show wh < 1 ∨ 3 < wh ∨ n < 0 by omega)] at hR
        have hRH := Lib.hid hR
        have b1 : (wh == 1) = false := by rw [beq_eq_false_iff_ne]; omega
        have b2 : (wh == 2) = false := by rw [beq_eq_false_iff_ne]; omega
        have b3 : (wh == 3) = false := by rw [beq_eq_false_iff_ne]; omega
        have b4 : (wh != 1) = true := by rw [bne_iff_ne]; omega
        have b5 : (wh != 2) = true := by rw [bne_iff_ne]; omega
        have b6 : (wh != 3) = true := by rw [bne_iff_ne]; omega
        clear hR hr
        go_wp2_with fail
        go_ret2
        exact ⟨by rw [← hRH.out]; rfl, hB2.out⟩
      have hw1 : 1 ≤ wh := by omega
      have hw3 : wh ≤ 3 := by omega
      by_cases hneg : n < 0
      · have hR := hr.out
        rw [run_bad s _ _ o O (show wh < 1 ∨ 3 < wh ∨ n < 0 by omega)] at hR
        have hRH := Lib.hid hR
        clear hR hr
        rcases (show wh = 1 ∨ wh = 2 ∨ wh = 3 by omega) with rfl | rfl | rfl
        all_goals
          go_wp2_with fail
          go_ret2
          exact ⟨by rw [← hRH.out]; rfl, hB2.out⟩
      obtain ⟨n, rfl⟩ := Int.eq_ofNat_of_zero_le (show 0 ≤ n by omega)
      rcases (show wh = 3 ∨ wh = 1 ∨ wh = 2 by omega) with rfl | hw
      · have hR := hr.out
        rw [run_give s _ _ o O rfl (by simp)] at hR
        have hRH := Lib.hid hR
        have hOs : (O ++ tx).size = O.size + tx.size := ByteArray.size_append
        have WS := Lib.hid (Bld.writeString_any W.heap.size W.heap.size O.data.toList tx _ hBl2.out (by rw [hOl]; omega) hB2.out.size)
        clear hR hr
        go_wp2_with fail
        refine (WS.out).mono ?_; rintro e w2 ⟨rfl, h2, h3⟩
        have hBl3 := Lib.hid (show Bld.Bl w2 W.heap.size W.heap.size (O ++ tx).data.toList by rw [dtl_app]; exact h2)
        have hB3 := Lib.hid (hB2.out.trans h3)
        clear h2 h3
        go_wp2_with fail
        go_roundw
        case rel => first | exact ⟨k + 1, o, O ++ tx, by omega, by go_num, ho, rfl, by omega, hBl3, hRH, hB3⟩ | ((repeat apply Exists.intro); exact ⟨⟨k + 1, o, O ++ tx, by omega, by go_num, ho, rfl, by omega, hBl3, hRH, hB3⟩, rfl⟩)
        case measure => simp [intOf]; omega
      by_cases hf : ((s.size - o : Nat) : Int) < (n : Int)
      · have hR := hr.out
        rw [run_far s _ _ o O hw (by simp) hf] at hR
        have hRH := Lib.hid hR
        have hf2 : s.size - o < n := by omega
        clear hR hr hf
        rcases hw with rfl | rfl
        all_goals
          go_wp2_with fail
          go_ret2
          exact ⟨by rw [← hRH.out]; rfl, hB2.out⟩
      have hle : n ≤ s.size - o := by omega
      have hX := ext_ext s o n
      have hXs : (s.extract (o + n) s.size).size = s.size - (o + n) := by rw [ByteArray.size_extract]; omega
      rcases hw with rfl | rfl
      · have hR := hr.out
        rw [run_keep s _ _ o O rfl (by simp) hf] at hR
        have hRH := Lib.hid hR
        have hY := ext_head s o n (by omega)
        have hYs : (s.extract o (o + n)).size = n := by rw [ByteArray.size_extract]; omega
        have hOs : (O ++ s.extract o (o + n)).size ≤ o + n + 5000 * (k + 1) := by rw [ByteArray.size_append, hYs]; omega
        have WS := Lib.hid (Bld.writeString_far W.heap.size W.heap.size O.data.toList (s.extract o (o + n)) _ hBl2.out (by rw [hOl, hYs]; omega) hB2.out.size)
        have hNb := Lib.hid (hBl.out.nb (.cells #[.int .i64 1, .int .i64 (n : Nat), .string tx] 96))
        have hlt2 := hBl.out.lt
        clear hR hr hf
        go_wp2_with fail
        refine (WS.out).mono ?_; rintro e w2 ⟨rfl, h2, h3, h4⟩
        have hBl3 := Lib.hid (show Bld.Bl w2 W.heap.size W.heap.size (O ++ s.extract o (o + n)).data.toList by rw [dtl_app]; exact h2)
        have hB3 := Lib.hid (hB2.out.trans h3)
        have hc1 : w2.cell? ⟨wr.heap.size, 1, none⟩ = some (.int .i64 (n : Nat)) := (World.cell?_of_block (a := ⟨wr.heap.size, 1, none⟩) (h4 wr.heap.size (by simp) (by omega) hNb.out)).trans (by simp)
        clear h2 h3 h4
        go_wp2_with fail
        go_roundw
        case rel => first | exact ⟨k + 1, o + n, _, by omega, by go_num, by omega, rfl, hOs, hBl3, hRH, hB3⟩ | ((repeat apply Exists.intro); exact ⟨⟨k + 1, o + n, _, by omega, by go_num, by omega, rfl, hOs, hBl3, hRH, hB3⟩, rfl⟩)
        case measure => simp [intOf]; omega
      · have hR := hr.out
        rw [run_take s _ _ o O rfl (by simp) hf] at hR
        have hRH := Lib.hid hR
        clear hR hr hf
        go_wp2_with fail
        go_roundw
        case rel => first | exact ⟨k + 1, o + n, O, by omega, by go_num, by omega, rfl, by omega, hBl2, hRH, hB2⟩ | ((repeat apply Exists.intro); exact ⟨⟨k + 1, o + n, O, by omega, by go_num, by omega, rfl, by omega, hBl2, hRH, hB2⟩, rfl⟩)
        case measure => simp [intOf]; omega
    · obtain rfl : k = l.length := by omega
      have hR := hr.out
      rw [List.drop_length, run] at hR
      by_cases h1 : o < s.size
      · rw [if_pos h1] at hR
        have hRH := Lib.hid hR
        have t1 : 0 < s.size - o := by omega
        have t2 := str_full (s.extract o s.size) (by omega)
        clear hR hr
        go_wp2_with fail
        go_ret2
        exact ⟨by rw [← hRH.out]; rfl, hB.out⟩
      · rw [if_neg h1] at hR
        have hE : s.extract o s.size = ⟨#[]⟩ := by
          apply ByteArray.ext
          rw [ByteArray.data_extract]
          exact Array.extract_empty_of_stop_le_start (by omega)
        have LN := Lib.hid (Bld.len_any W.heap.size W.heap.size O.data.toList wr hBl.out)
        have SN := Lib.hid (Bld.string_any W.heap.size W.heap.size O.data.toList wr hBl.out hB.out.size)
        have hts : (⟨O.data.toList.toArray⟩ : ByteArray) = O := by apply ByteArray.ext; simp
        rw [hOl] at LN
        rw [hts] at SN
        clear hts
        by_cases h2 : 4000 < O.size
        · rw [if_pos h2] at hR
          have hRH := Lib.hid hR
          clear hR hr
          go_wp2_with fail
          refine (LN.out).mono ?_; rintro e w2 ⟨rfl, rfl⟩
          go_wp2_with fail
          go_ret2
          exact ⟨by rw [← hRH.out]; rfl, hB.out⟩
        · rw [if_neg h2] at hR
          have hRH := Lib.hid hR
          have t2 : O.size ≤ 4000 := by omega
          clear hR hr
          go_wp2_with fail
          refine (LN.out).mono ?_; rintro e w2 ⟨rfl, rfl⟩
          go_wp2_with fail
          refine (SN.out).mono ?_; rintro e w2 ⟨rfl, h3⟩
          have hB3 := Lib.hid (hB.out.trans h3)
          clear h3
          go_wp2_with fail
          go_ret2
          exact ⟨by rw [← hRH.out]; rfl, hB3.out⟩
end Go.Proofs.YtifnochpmlllgaaDoor.Df
