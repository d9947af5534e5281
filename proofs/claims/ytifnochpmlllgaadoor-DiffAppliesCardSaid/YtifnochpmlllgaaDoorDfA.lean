/-
  PROVED HERE: what edits make of a text (plain law); the contracts of the document's DiffApply and of diff.Apply. Conditions: as each theorem states.
-/
import Derived.Test.YtifnochpmlllgaaDoorEds
import Derived.Test.YtifnochpmlllgaaDoorBld
import Derived.Test.YtifnochpmlllgaaDoorRef
import Derived.Test.YtifnochpmlllgaaDoorErrB
namespace Go.Proofs.YtifnochpmlllgaaDoor.Df
open Go.RowKit
def cd (s : ByteArray) (e : Ed) (o : Nat) : Int := if e.what < 1 ∨ 3 < e.what ∨ e.n < 0 then 1 else if e.what = 3 then 0 else if ((s.size - o : Nat) : Int) < e.n then 2 else 0
def nxo (e : Ed) (o : Nat) : Nat := if e.what = 3 then o else o + e.n.toNat
def nxO (s : ByteArray) (e : Ed) (o : Nat) (O : ByteArray) : ByteArray := if e.what = 3 then O ++ e.text else if e.what = 1 then O ++ s.extract o (o + e.n.toNat) else O
/-- What both tell: an error's number, and a text. -/
def run (s : ByteArray) : List Ed → Nat → ByteArray → Int × ByteArray
  | [], o, O => if o < s.size then (2, ⟨#[]⟩) else if 4000 < O.size then (4, ⟨#[]⟩) else (0, O)
  | e :: r, o, O => if cd s e o = 0 then run s r (nxo e o) (nxO s e o O) else (cd s e o, ⟨#[]⟩)
theorem drop_next (l : List Ed) (k : Nat) (h : k < l.length) : l.drop k = l[k] :: l.drop (k + 1) := List.drop_eq_getElem_cons h
theorem run_bad (s : ByteArray) (e : Ed) (r : List Ed) (o : Nat) (O : ByteArray) (h : e.what < 1 ∨ 3 < e.what ∨ e.n < 0) : run s (e :: r) o O = (1, ⟨#[]⟩) := by
  have : cd s e o = 1 := if_pos h
  rw [run, this, if_neg (by decide)]
theorem run_give (s : ByteArray) (e : Ed) (r : List Ed) (o : Nat) (O : ByteArray) (h : e.what = 3) (hn : 0 ≤ e.n) : run s (e :: r) o O = run s r o (O ++ e.text) := by
  have : cd s e o = 0 := by unfold cd; rw [if_neg (by omega), if_pos h]
  rw [run, this, if_pos rfl, nxo, nxO, if_pos h, if_pos h]
theorem run_far (s : ByteArray) (e : Ed) (r : List Ed) (o : Nat) (O : ByteArray) (h : e.what = 1 ∨ e.what = 2) (hn : 0 ≤ e.n) (hf : ((s.size - o : Nat) : Int) < e.n) : run s (e :: r) o O = (2, ⟨#[]⟩) := by
  have : cd s e o = 2 := by unfold cd; rw [if_neg (by omega), if_neg (by omega), if_pos hf]
  rw [run, this, if_neg (by decide)]
theorem run_keep (s : ByteArray) (e : Ed) (r : List Ed) (o : Nat) (O : ByteArray) (h : e.what = 1) (hn : 0 ≤ e.n) (hf : ¬ ((s.size - o : Nat) : Int) < e.n) : run s (e :: r) o O = run s r (o + e.n.toNat) (O ++ s.extract o (o + e.n.toNat)) := by
  have : cd s e o = 0 := by unfold cd; rw [if_neg (by omega), if_neg (by omega), if_neg hf]
  rw [run, this, if_pos rfl, nxo, nxO, if_neg (by omega), if_neg (by omega), if_pos h]
theorem run_take (s : ByteArray) (e : Ed) (r : List Ed) (o : Nat) (O : ByteArray) (h : e.what = 2) (hn : 0 ≤ e.n) (hf : ¬ ((s.size - o : Nat) : Int) < e.n) : run s (e :: r) o O = run s r (o + e.n.toNat) O := by
  have : cd s e o = 0 := by unfold cd; rw [if_neg (by omega), if_neg (by omega), if_neg hf]
  rw [run, this, if_pos rfl, nxo, nxO, if_neg (by omega), if_neg (by omega), if_neg (by omega)]
theorem ext_all (s : ByteArray) : s.extract 0 s.size = s := by
  apply ByteArray.ext
  rw [ByteArray.data_extract]
  exact Array.extract_size
theorem ext_ext (s : ByteArray) (o n : Nat) : (s.extract o s.size).extract n (s.size - o) = s.extract (o + n) s.size := by
  apply ByteArray.ext
  rw [ByteArray.data_extract, ByteArray.data_extract, ByteArray.data_extract, Array.extract_extract]
  congr 1
  omega
theorem ext_head (s : ByteArray) (o n : Nat) (h : o + n ≤ s.size) : (s.extract o s.size).extract 0 n = s.extract o (o + n) := by
  apply ByteArray.ext
  rw [ByteArray.data_extract, ByteArray.data_extract, ByteArray.data_extract, Array.extract_extract]
  congr 1
  omega
def DP (r : Int × ByteArray) (W : World) (e : Ending) (w' : World) : Prop := e = .returned (.tuple #[.string r.2, .int .i64 r.1]) ∧ Below W.heap.size W w'
set_option maxRecDepth 100000 in
set_option maxHeartbeats 2000000 in
theorem docApply_any (s : ByteArray) (v : Value) (l : List Ed) (W : World) (hl : Eds W v l) (hs : s.size ≤ 1000) (hn : l.length ≤ 100) (ht : ∀ j (h : j < l.length), l[j].text.size ≤ 5000) :
    Calls Tryd.prog 61 #[.string s, v] W (DP (run s l 0 ⟨#[]⟩) W) := by
  have hcH := Lib.hid hl
  obtain ⟨a, cap, rfl, -⟩ := hl
  have htH := Lib.hid ht
  clear ht
  go_enter Tryd.func61, Tryd.ntmps61
  go_wp2_with fail
  go_loopw [0, 6, 11] (fun t u i wr => ∃ k o : Nat, ∃ O : ByteArray, k ≤ l.length ∧ i = .int .i64 k ∧ o ≤ s.size ∧ t = .string (s.extract o s.size) ∧ u = .string O ∧ O.size ≤ o + 5000 * k ∧ Hid (run s (l.drop k) o O = run s l 0 ⟨#[]⟩) ∧ Hid (Below W.heap.size W wr)) (fun _ _ i _ => l.length - (intOf i).toNat)
  case atStart => exact ⟨0, 0, ⟨#[]⟩, Nat.zero_le _, rfl, Nat.zero_le _, by rw [ext_all], rfl, Nat.zero_le _, Lib.hid rfl, Lib.hid (Below.refl _ _)⟩
  case round =>
    obtain ⟨k, o, O, hk, rfl, ho, rfl, rfl, hO, hr, hB⟩ := hrel
    have hsz : (s.extract o s.size).size = s.size - o := by rw [ByteArray.size_extract]; omega
    by_cases hlt : k < l.length
    · obtain ⟨ad, rfl, d0, d1, d2⟩ := hcH.out.at_ k hlt
      have c0 := keepCell hB.out d0
      have c1 := keepCell hB.out d1
      have c2 := keepCell hB.out d2
      have hte := htH.out k hlt
      have hd := drop_next l k hlt
      rw [hd] at hr
      generalize l[k] = e at *
      obtain ⟨wh, n, tx⟩ := e
      clear d0 d1 d2 hd
      simp only at c0 c1 c2 hte
      have i1 : (0 : Int) ≤ (k : Int) := by omega
      have i2 : (k : Int) < (l.length : Int) := by omega
      by_cases hb : wh < 1 ∨ 3 < wh
      · have hR := hr.out
        rw [run_bad s _ _ o O (show wh < 1 ∨ 3 < wh ∨ n < 0 by omega)] at hR
        have hRH := Lib.hid hR
        clear hR hr
        go_wp2_with fail
        refine (Ref.within_no _ _ _ (by omega) _).mono ?_; rintro e w' ⟨rfl, rfl⟩
        go_wp2_with fail
        go_ret2
        exact ⟨by rw [← hRH.out]; rfl, (hB.out.alloc hB.out.size _)⟩
      have hw1 : 1 ≤ wh := by omega
      have hw3 : wh ≤ 3 := by omega
      by_cases hneg : n < 0
      · have hR := hr.out
        rw [run_bad s _ _ o O (show wh < 1 ∨ 3 < wh ∨ n < 0 by omega)] at hR
        have hRH := Lib.hid hR
        clear hR hr
        go_wp2_with fail
        refine (Ref.within_yes _ _ _ (by omega) (by omega) _).mono ?_; rintro e w' ⟨rfl, rfl⟩
        go_wp2_with fail
        go_ret2
        exact ⟨by rw [← hRH.out]; rfl, (hB.out.alloc hB.out.size _)⟩
      have hn0 : ¬ n < 0 := hneg
      obtain ⟨n, rfl⟩ := Int.eq_ofNat_of_zero_le (show 0 ≤ n by omega)
      have hB2 := Lib.hid (hB.out.alloc hB.out.size (.cells #[.int .i64 wh, .int .i64 (n : Nat), .string tx] 96))
      rcases (show wh = 3 ∨ wh = 1 ∨ wh = 2 by omega) with rfl | hw
      · have hR := hr.out
        rw [run_give s _ _ o O rfl (by simp)] at hR
        have hRH := Lib.hid hR
        have hOs : (O ++ tx).size = O.size + tx.size := ByteArray.size_append
        have l1 : ¬ 9223372036854775807 < O.size + tx.size := by omega
        clear hR hr
        go_wp2_with fail
        refine (Ref.within_yes _ _ _ (by omega) (by omega) _).mono ?_; rintro e w' ⟨rfl, rfl⟩
        go_wp2_with fail
        go_roundw
        case rel => first | exact ⟨k + 1, o, O ++ tx, by omega, by go_num, ho, rfl, rfl, by omega, hRH, hB2⟩ | ((repeat apply Exists.intro); exact ⟨⟨k + 1, o, O ++ tx, by omega, by go_num, ho, rfl, rfl, by omega, hRH, hB2⟩, rfl⟩)
        case measure => simp [intOf]; omega
      by_cases hf : ((s.size - o : Nat) : Int) < (n : Int)
      · have hR := hr.out
        rw [run_far s _ _ o O hw (by simp) hf] at hR
        have hRH := Lib.hid hR
        have hf2 : s.size - o < n := by omega
        clear hR hr hf
        rcases hw with rfl | rfl
        all_goals
          go_wp2_with fail
          refine (Ref.within_yes _ _ _ (by omega) (by omega) _).mono ?_; rintro e w' ⟨rfl, rfl⟩
          go_wp2_with fail
          go_ret2
          exact ⟨by rw [← hRH.out]; rfl, hB2.out⟩
      have hle : n ≤ s.size - o := by omega
      have hX := ext_ext s o n
      have hXs : (s.extract (o + n) s.size).size = s.size - (o + n) := by rw [ByteArray.size_extract]; omega
      rcases hw with rfl | rfl
      · have hR := hr.out
        rw [run_keep s _ _ o O rfl (by simp) hf] at hR
        have hRH := Lib.hid hR
        have hY := ext_head s o n (by omega)
        have hYs : (s.extract o (o + n)).size = n := by rw [ByteArray.size_extract]; omega
        have hOs : (O ++ s.extract o (o + n)).size = O.size + n := by rw [ByteArray.size_append, hYs]
        have l1 : ¬ 9223372036854775807 < O.size + n := by omega
        have hOsH := Lib.hid hOs
        clear hR hr hf hOs
        go_wp2_with fail
        refine (Ref.within_yes _ _ _ (by omega) (by omega) _).mono ?_; rintro e w' ⟨rfl, rfl⟩
        go_wp2_with fail
        have hO2 : (O ++ s.extract o (o + n)).size ≤ o + n + 5000 * (k + 1) := by rw [hOsH.out]; omega
        go_roundw
        case rel => first | exact ⟨k + 1, o + n, _, by omega, by go_num, by omega, rfl, rfl, hO2, hRH, hB2⟩ | ((repeat apply Exists.intro); exact ⟨⟨k + 1, o + n, _, by omega, by go_num, by omega, rfl, rfl, hO2, hRH, hB2⟩, rfl⟩)
        case measure => simp [intOf]; omega
      · have hR := hr.out
        rw [run_take s _ _ o O rfl (by simp) hf] at hR
        have hRH := Lib.hid hR
        clear hR hr hf
        go_wp2_with fail
        refine (Ref.within_yes _ _ _ (by omega) (by omega) _).mono ?_; rintro e w' ⟨rfl, rfl⟩
        go_wp2_with fail
        go_roundw
        case rel => first | exact ⟨k + 1, o + n, O, by omega, by go_num, by omega, rfl, rfl, by omega, hRH, hB2⟩ | ((repeat apply Exists.intro); exact ⟨⟨k + 1, o + n, O, by omega, by go_num, by omega, rfl, rfl, by omega, hRH, hB2⟩, rfl⟩)
        case measure => simp [intOf]; omega
    · obtain rfl : k = l.length := by omega
      have hR := hr.out
      rw [List.drop_length, run] at hR
      by_cases h1 : o < s.size
      · rw [if_pos h1] at hR
        have hRH := Lib.hid hR
        have t1 : 0 < s.size - o := by omega
        clear hR hr
        go_wp2_with fail
        go_ret2
        exact ⟨by rw [← hRH.out]; rfl, hB.out⟩
      · rw [if_neg h1] at hR
        have t1 : s.size - o ≤ 0 := by omega
        by_cases h2 : 4000 < O.size
        · rw [if_pos h2] at hR
          have hRH := Lib.hid hR
          clear hR hr
          go_wp2_with fail
          go_ret2
          exact ⟨by rw [← hRH.out]; rfl, hB.out⟩
        · rw [if_neg h2] at hR
          have hRH := Lib.hid hR
          have t2 : O.size ≤ 4000 := by omega
          clear hR hr
          go_wp2_with fail
          go_ret2
          exact ⟨by rw [← hRH.out]; rfl, hB.out⟩
end Go.Proofs.YtifnochpmlllgaaDoor.Df
