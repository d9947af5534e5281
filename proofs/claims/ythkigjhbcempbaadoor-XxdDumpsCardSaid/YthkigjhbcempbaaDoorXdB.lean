/-
  PROVED HERE: the contracts of xxd.Dump and xxd.Plain. Conditions: as each theorem states.
-/
import Derived.Test.YthkigjhbcempbaaDoorXdA
import Derived.Test.YthkigjhbcempbaaDoorBld
import Derived.Test.YthkigjhbcempbaaDoorShelf
import Derived.Deep.DeepCutAuto
namespace Go.Proofs.YthkigjhbcempbaaDoor.Xd
open Go.RowKit Dig Shw
set_option maxRecDepth 100000 in
set_option maxHeartbeats 2000000 in
theorem plain_any (s : ByteArray) (hs : s.size ≤ 600) (W : World) :
    Calls Tryd.prog 20 #[.string s] W fun e w' => e = .returned (.string ⟨(pk s s.size).toArray⟩) ∧ Below W.heap.size W w' := by
  have B0 := Lib.hid (Bld.Bl.new (w := W) (B := W.heap.size) (Nat.le_refl _))
  have W0 : Hid (Below W.heap.size W (W.alloc (.cells #[.pointer none, .slice none 0 0] 69))) := Lib.hid ((Below.refl _ W).alloc (Nat.le_refl _) _)
  go_enter Tryd.func20, Tryd.ntmps20
  go_wp2_with fail
  go_loopw [4] (fun i wr => ∃ a : Nat, i = .int .i64 a ∧ a % 30 = 0 ∧ a < s.size + 30 ∧ Hid (Bld.Bl wr W.heap.size W.heap.size (pk s (min a s.size))) ∧ Hid (Below W.heap.size W wr)) (fun i _ => s.size - (intOf i).toNat)
  case atStart => exact ⟨0, rfl, rfl, by omega, Lib.hid (by rw [Nat.zero_min]; exact B0.out), W0⟩
  case round =>
    obtain ⟨a, rfl, ha, hb, hB, hW⟩ := hrel
    by_cases hlt : a < s.size
    · obtain ⟨m, hm⟩ : ∃ m, min (a + 30) s.size = m := ⟨_, rfl⟩
      have hm1 : a < m := by omega
      have hm2 : m ≤ s.size := by omega
      have hm3 : m ≤ a + 30 := by omega
      have hz : (s.extract a m).size ≤ 1000 := by rw [ByteArray.size_extract]; omega
      have ST := Lib.hid (pk_step s a ha hlt)
      rw [hm] at ST
      have hmI : (min ((a : Int) + 30) (s.size : Int)) = (m : Int) := by omega
      rw [show min a s.size = a by omega] at hB
      go_wp2_with fail
      refine (hex_any (s.extract a m) hz _).mono ?_; rintro e w1 ⟨rfl, hb1⟩
      have hl := hexs_len (s.extract a m) (s.extract a m).size
      have B1 := Lib.hid (hB.out.keep hb1)
      have W1 := Lib.hid (hW.out.trans (hb1.mono hW.out.size))
      have hpl := pk_len s a
      generalize hexs (s.extract a m) (s.extract a m).size = hxs at *
      have hzz : (⟨hxs.toArray⟩ : ByteArray).size ≤ 2000 := by show hxs.toArray.size ≤ 2000; simp; omega
      have hsz : ((⟨hxs.toArray⟩ : ByteArray) ++ ⟨#[10]⟩).size ≤ 3000 := by
        rw [ByteArray.size_append]
        have : (⟨#[10]⟩ : ByteArray).size = 1 := rfl
        omega
      have hdl : ((⟨hxs.toArray⟩ : ByteArray) ++ ⟨#[10]⟩).data.toList = hxs ++ [10] := by simp [ByteArray.data_append]
      have HD := Lib.hid hdl
      clear hdl hb1 hB hW
      go_wp2_with fail
      refine (Bld.writeString_any W.heap.size W.heap.size _ _ w1 B1.out (by omega) (W1.out.size)).mono ?_; rintro e w2 ⟨rfl, hB2, hb2⟩
      rw [HD.out, ← ST.out, ← hm] at hB2
      have B2 := Lib.hid hB2
      have W2 := Lib.hid (W1.out.trans hb2)
      clear hB2 hb2
      go_wp2_with fail
      go_roundw
      case rel => first | exact ⟨a + 30, by go_num, by omega, by omega, B2, W2⟩ | ((repeat apply Exists.intro); exact ⟨⟨a + 30, by go_num, by omega, by omega, B2, W2⟩, rfl⟩)
      case measure => simp [intOf]; omega
    · have hB' := hB.out
      rw [show min a s.size = s.size by omega] at hB'
      have B1 := Lib.hid hB'
      clear hB hB'
      go_wp2_with fail
      refine (Bld.string_any W.heap.size W.heap.size _ wr B1.out hW.out.size).mono ?_; rintro e w1 ⟨rfl, hb1⟩
      have W1 := Lib.hid (hW.out.trans hb1)
      clear hb1
      go_wp2_with fail
      go_ret
      exact ⟨rfl, W1.out⟩
theorem wd_is (g k : Nat) : wd g k = 2 * k + (k + g - 1) / g := rfl
theorem rep_data (n : Nat) : (⟨(Lib.repeatL (⟨#[32]⟩ : ByteArray).data.toList n).toArray⟩ : ByteArray).data.toList = List.replicate n 32 := by
  show Lib.repeatL [32] n = List.replicate n 32
  induction n with
  | zero => rfl
  | succ n ih => rw [Lib.repeatL, ih, List.replicate_succ]; rfl
set_option maxRecDepth 100000 in
set_option maxHeartbeats 4000000 in
theorem dump_any (s : ByteArray) (hs : s.size ≤ 600) (cols g : Nat) (hc : 1 ≤ cols ∧ cols ≤ 256) (hg : 1 ≤ g ∧ g ≤ cols) (W : World) :
    Calls Tryd.prog 19 #[.string s, .int .i64 cols, .int .i64 g] W fun e w' => e = .returned (.tuple #[.string ⟨(acc s cols g ((s.size + cols - 1) / cols)).toArray⟩, .nilIface]) ∧ Below W.heap.size W w' := by
  have B0 := Lib.hid (Bld.Bl.new (w := W) (B := W.heap.size) (Nat.le_refl _))
  have W0 : Hid (Below W.heap.size W (W.alloc (.cells #[.pointer none, .slice none 0 0] 69))) := Lib.hid ((Below.refl _ W).alloc (Nat.le_refl _) _)
  obtain ⟨hc1, hc2⟩ := hc
  obtain ⟨hg1, hg2⟩ := hg
  obtain ⟨q, hq⟩ : ∃ q, (cols + g - 1) / g = q := ⟨_, rfl⟩
  have hwide : ((cols : Int) + (g : Int) - 1).tdiv (g : Int) = (q : Int) := by
    rw [show (cols : Int) + (g : Int) - 1 = ((cols + g - 1 : Nat) : Int) by omega, ← hq]
    rfl
  have hwl := wd_le g cols hg1
  have hw2 : q ≤ 600 := by rw [wd_is, hq] at hwl; omega
  have WQ : Hid (wd g cols = 2 * cols + q) := Lib.hid (by rw [wd_is, hq])
  clear hwl hq
  have hcg : decide (cols < g) = false := by simp; omega
  go_enter Tryd.func19, Tryd.ntmps19
  go_wp2_with fail
  go_loopw [10] (fun i wr => ∃ (n a : Nat) (ai : Int), i = .int .i64 ai ∧ ai = a ∧ Hid (a = n * cols) ∧ a < s.size + cols ∧ n ≤ a ∧ Hid (Bld.Bl wr W.heap.size W.heap.size (acc s cols g n)) ∧ Hid (Below W.heap.size W wr)) (fun i _ => s.size - (intOf i).toNat)
  case atStart => exact ⟨0, 0, 0, rfl, rfl, Lib.hid (Nat.zero_mul _).symm, by omega, Nat.le_refl _, B0, W0⟩
  case round =>
    obtain ⟨n, a, _, rfl, rfl, ha, hb, hna, hB, hW⟩ := hrel
    by_cases hlt : a < s.size
    · obtain ⟨m, hm⟩ : ∃ m, min (a + cols) s.size = m := ⟨_, rfl⟩
      have hm1 : a < m := by omega
      have hm2 : m ≤ s.size := by omega
      have hm3 : m ≤ a + cols := by omega
      have hmI : (min ((a : Int) + (cols : Int)) (s.size : Int)) = (m : Int) := by omega
      have hal := acc_len s cols g hg1 hc2 n
      have hzr : (s.extract a m).size = m - a := by rw [ByteArray.size_extract]; omega
      have hcnt := cnt_le a 16 8
      have hpl : (place a).length ≤ 64 := by unfold place; rw [List.length_reverse, le_len]; exact hcnt
      have PR := Lib.hid (print_yes a 16 8 (by omega) (by omega) (by omega))
      have hpp : (⟨(le a 16 (cnt a 16 8)).reverse.toArray⟩ : ByteArray) = ⟨(place a).toArray⟩ := rfl
      rw [hpp] at PR
      clear hpp hcnt
      have hps : (⟨(place a).toArray⟩ : ByteArray).size ≤ 64 := by show (place a).toArray.size ≤ 64; simp; exact hpl
      have hps2 : ((⟨(place a).toArray⟩ : ByteArray) ++ ⟨#[58]⟩).size ≤ 65 := by
        rw [ByteArray.size_append]
        have : (⟨#[58]⟩ : ByteArray).size = 1 := rfl
        omega
      have hpd := Lib.hid (show ((⟨(place a).toArray⟩ : ByteArray) ++ ⟨#[58]⟩).data.toList = place a ++ [58] by simp [ByteArray.data_append])
      go_wp2_with fail
      refine (PR.out _).mono ?_; rintro e w1 ⟨rfl, hb1⟩
      have B1 := Lib.hid (hB.out.keep hb1)
      have W1 := Lib.hid (hW.out.trans (hb1.mono hW.out.size))
      clear hB hW hb1 PR
      go_wp2_with fail
      refine (Bld.writeString_any W.heap.size W.heap.size _ _ w1 B1.out (by omega) (W1.out.size)).mono ?_; rintro e w2 ⟨rfl, hB2, hb2⟩
      rw [hpd.out] at hB2
      have B2 := Lib.hid hB2
      have W2 := Lib.hid (W1.out.trans hb2)
      clear hB2 hb2 B1 W1 hps hps2 hpd
      go_wp2_with fail
      go_loopw [14, 68] (fun nv i wr => ∃ k : Nat, k ≤ m - a ∧ i = .int .i64 k ∧ nv = .int .i64 (wd g k) ∧ Hid (Bld.Bl wr W.heap.size W.heap.size (acc s cols g n ++ (place a ++ [58]) ++ dk s a g k)) ∧ Hid (Below W.heap.size W wr)) (fun _ i _ => (m - a) - (intOf i).toNat)
      case atStart => exact ⟨0, Nat.zero_le _, rfl, by rw [wd_zero g hg1]; rfl, by simpa [dk] using B2, W2⟩
      case round =>
        obtain ⟨k, hk, rfl, rfl, hB, hW⟩ := hrel
        have hwk := wd_le g k hg1
        have hdk := dk_len s a g hg1 k
        by_cases hlt2 : k < m - a
        · have hone := hexs_one s a m k (by omega) hm2
          have hsz1 : ((s.extract a m).extract k (k + 1)).size = 1 := by rw [ByteArray.size_extract]; omega
          have HX := Lib.hid (hex_any ((s.extract a m).extract k (k + 1)) (by omega))
          rw [hsz1, hone] at HX
          have hcell : cell s a k = hx (byteAt s (a + k)) := by unfold cell; rw [if_pos (by omega)]
          rw [← hcell] at HX
          have hcl := cell_len s a k
          have hcs : (⟨(cell s a k).toArray⟩ : ByteArray).size ≤ 2 := by show (cell s a k).toArray.size ≤ 2; simp [hcl]
          have hwS := Lib.hid (wd_succ g k hg1)
          have hwb : wd g k ≤ 2000 := by omega
          have hdS : dk s a g (k + 1) = dk s a g k ++ (gap g k ++ cell s a k) := rfl
          clear hone hcell
          have hmod : ((k : Int).tmod (g : Int)) = ((k % g : Nat) : Int) := rfl
          by_cases hgp : k % g = 0
          · have hgap : gap g k = [32] := by unfold gap; rw [if_pos hgp]
            have hwS2 : Hid (((wd g k : Nat) : Int) + 1 + 2 = ((wd g (k + 1) : Nat) : Int)) := Lib.hid (by have := hwS.out; rw [if_pos hgp] at this; omega)
            rw [hgap] at hdS
            have hmb : (((k % g : Nat) : Int) == 0) = true := by simp; omega
            have HD := Lib.hid hdS
            clear hdS hgap hgp
            go_wp2_with fail
            refine (Bld.writeString_any W.heap.size W.heap.size _ _ wr hB.out (by simp only [List.length_append, List.length_cons, List.length_nil]; have : (⟨#[32]⟩ : ByteArray).size = 1 := rfl; omega) (hW.out.size)).mono ?_; rintro e w3 ⟨rfl, hB3, hb3⟩
            have B3 := Lib.hid hB3
            have W3 := Lib.hid (hW.out.trans hb3)
            clear hB3 hb3 hB hW
            go_wp2_with fail
            refine (HX.out _).mono ?_; rintro e w4 ⟨rfl, hb4⟩
            have B4 := Lib.hid (B3.out.keep hb4)
            have W4 := Lib.hid (W3.out.trans (hb4.mono W3.out.size))
            clear hb4 B3 W3
            go_wp2_with fail
            refine (Bld.writeString_any W.heap.size W.heap.size _ _ w4 B4.out (by simp only [List.length_append, List.length_cons, List.length_nil]; have : (⟨#[32]⟩ : ByteArray).data.toList.length = 1 := rfl; omega) (W4.out.size)).mono ?_; rintro e w5 ⟨rfl, hB5, hb5⟩
            have e5 : acc s cols g n ++ (place a ++ [58]) ++ dk s a g k ++ (⟨#[32]⟩ : ByteArray).data.toList ++ (⟨(cell s a k).toArray⟩ : ByteArray).data.toList = acc s cols g n ++ (place a ++ [58]) ++ dk s a g (k + 1) := by
              rw [HD.out]; simp
            rw [e5] at hB5
            have B5 := Lib.hid hB5
            have W5 := Lib.hid (W4.out.trans hb5)
            clear hwS
            clear hB5 hb5 e5
            go_wp2_with fail
            go_roundw
            case rel => first | exact ⟨k + 1, by omega, by go_num, by rw [← hwS2.out], B5, W5⟩ | ((repeat apply Exists.intro); exact ⟨⟨k + 1, by omega, by go_num, by rw [← hwS2.out], B5, W5⟩, rfl⟩)
            case measure => simp [intOf]; omega
          · have hgap : gap g k = [] := by unfold gap; rw [if_neg hgp]
            have hwS2 : Hid (((wd g k : Nat) : Int) + 2 = ((wd g (k + 1) : Nat) : Int)) := Lib.hid (by have := hwS.out; rw [if_neg hgp] at this; omega)
            rw [hgap] at hdS
            have hmb : (((k % g : Nat) : Int) == 0) = false := by simp; omega
            have HD := Lib.hid hdS
            clear hdS hgap hgp hwS
            go_wp2_with fail
            refine (HX.out _).mono ?_; rintro e w4 ⟨rfl, hb4⟩
            have B4 := Lib.hid (hB.out.keep hb4)
            have W4 := Lib.hid (hW.out.trans (hb4.mono hW.out.size))
            clear hb4 hB hW
            go_wp2_with fail
            refine (Bld.writeString_any W.heap.size W.heap.size _ _ w4 B4.out (by simp only [List.length_append, List.length_cons, List.length_nil]; omega) (W4.out.size)).mono ?_; rintro e w5 ⟨rfl, hB5, hb5⟩
            have e5 : acc s cols g n ++ (place a ++ [58]) ++ dk s a g k ++ (⟨(cell s a k).toArray⟩ : ByteArray).data.toList = acc s cols g n ++ (place a ++ [58]) ++ dk s a g (k + 1) := by
              rw [HD.out]; simp
            rw [e5] at hB5
            have B5 := Lib.hid hB5
            have W5 := Lib.hid (W4.out.trans hb5)
            clear hB5 hb5 e5
            go_wp2_with fail
            go_roundw
            case rel => first | exact ⟨k + 1, by omega, by go_num, by rw [← hwS2.out], B5, W5⟩ | ((repeat apply Exists.intro); exact ⟨⟨k + 1, by omega, by go_num, by rw [← hwS2.out], B5, W5⟩, rfl⟩)
            case measure => simp [intOf]; omega
        · obtain rfl : k = m - a := by omega
          obtain ⟨r, hr⟩ : ∃ r, cols = (m - a) + r := ⟨cols - (m - a), by omega⟩
          have hfar : Hid (dk s a g cols = dk s a g (m - a) ++ List.replicate (wd g cols - wd g (m - a)) 32) := Lib.hid (by
            by_cases hh : r = 0
            · subst hh
              rw [Nat.add_zero] at hr
              rw [← hr]; simp
            · rw [hr]; exact dk_far s a g (m - a) hg1 (by omega) r)
          have hwm : wd g (m - a) ≤ wd g cols := by rw [hr]; exact wd_mono g (m - a) hg1 r
          have hwle := wd_le g cols hg1
          have hwq := WQ.out
          obtain ⟨y, hy⟩ : ∃ y, wd g (m - a) = y := ⟨_, rfl⟩
          rw [hy] at hwm hfar hwk hdk
          have hY := Lib.hid hy
          have RP := Lib.hid (fun w => Tryd.strings_Repeat ⟨#[32]⟩ (wd g cols - y + 2) w (by omega) (by have : (⟨#[32]⟩ : ByteArray).size = 1 := rfl; rw [this]; omega))
          have hrd := rep_data (wd g cols - y + 2)
          generalize (⟨(Lib.repeatL (⟨#[32]⟩ : ByteArray).data.toList (wd g cols - y + 2)).toArray⟩ : ByteArray) = R at *
          have hRs : R.size = wd g cols - y + 2 := by
            have := congrArg List.length hrd
            rw [List.length_replicate] at this
            exact this
          have hsh := shT_size (s.extract a m)
          have SH := Lib.hid (shown_any (s.extract a m) (by omega))
          have hrow : Hid (acc s cols g (n + 1) = acc s cols g n ++ (place a ++ [58]) ++ dk s a g (m - a) ++ (List.replicate (wd g cols - y + 2) 32 ++ (shT (s.extract a m)).data.toList ++ [10])) := Lib.hid (by
            rw [acc_succ, ← ha.out]
            unfold rowT
            rw [hm, hfar.out, ← List.replicate_append_replicate]
            simp)
          have hrd' := Lib.hid hrd
          generalize shT (s.extract a m) = T at *
          have hsz2 : ((R ++ T) ++ ⟨#[10]⟩).size ≤ 3000 := by
            rw [ByteArray.size_append, ByteArray.size_append]
            have : (⟨#[10]⟩ : ByteArray).size = 1 := rfl
            omega
          have hdat : Hid (((R ++ T) ++ ⟨#[10]⟩).data.toList = List.replicate (wd g cols - y + 2) 32 ++ T.data.toList ++ [10]) := Lib.hid (by rw [ByteArray.data_append, ByteArray.data_append]; simp [hrd])
          have hyi : (2 * (cols : Int) + (q : Int) - ((y : Nat) : Int) + 2) = ((wd g cols - y + 2 : Nat) : Int) := by omega
          obtain ⟨z, hz⟩ : ∃ z, wd g cols - y + 2 = z := ⟨_, rfl⟩
          rw [hz] at hyi RP
          clear hrd hfar hwm hwle hwq hr
          rw [hy]
          go_wp2_with fail
          refine (RP.out _).mono ?_; rintro e w3 ⟨rfl, hb3⟩
          have B3 := Lib.hid (hB.out.keep hb3)
          have W3 := Lib.hid (hW.out.trans (hb3.mono hW.out.size))
          clear hb3 hB hW RP
          go_wp2_with fail
          refine (SH.out _).mono ?_; rintro e w4 ⟨rfl, hb4⟩
          have B4 := Lib.hid (B3.out.keep hb4)
          have W4 := Lib.hid (W3.out.trans (hb4.mono W3.out.size))
          clear hb4 B3 W3 SH
          have hRs2 : R.size ≤ 2000 := by omega
          have hTs2 : T.size ≤ 600 := by omega
          have hsz1 : (R ++ T).size ≤ 2600 := by rw [ByteArray.size_append]; omega
          go_wp2_with fail
          refine (Bld.writeString_any W.heap.size W.heap.size _ _ w4 B4.out (by simp only [List.length_append, List.length_cons, List.length_nil]; omega) (W4.out.size)).mono ?_; rintro e w5 ⟨rfl, hB5, hb5⟩
          rw [hdat.out, ← hrow.out] at hB5
          have B5 := Lib.hid hB5
          have W5 := Lib.hid (W4.out.trans hb5)
          have hnx : Hid (a + cols = (n + 1) * cols) := Lib.hid (by rw [Nat.succ_mul, ha.out])
          clear hB5 hb5
          go_wp2_with fail
          go_roundw
          case rel => first | exact ⟨n + 1, a + cols, (a : Int) + (cols : Int), rfl, by omega, hnx, by omega, by omega, B5, W5⟩ | ((repeat apply Exists.intro); exact ⟨⟨n + 1, a + cols, (a : Int) + (cols : Int), rfl, by omega, hnx, by omega, by omega, B5, W5⟩, rfl⟩)
          case measure => simp [intOf]; omega
    · have hn := rows_is hc1 (show s.size ≤ n * cols by rw [← ha.out]; omega) (by rw [← ha.out]; exact hb)
      have HN := Lib.hid hn
      clear hn
      go_wp2_with fail
      refine (Bld.string_any W.heap.size W.heap.size _ wr hB.out hW.out.size).mono ?_; rintro e w1 ⟨rfl, hb1⟩
      have W1 := Lib.hid (hW.out.trans hb1)
      clear hb1
      go_wp2_with fail
      go_ret2
      refine ⟨?_, W1.out⟩
      have hacc : acc s cols g ((s.size + cols - 1) / cols) = acc s cols g n := by rw [← HN.out]
      rw [hacc]
      rfl
end Go.Proofs.YthkigjhbcempbaaDoor.Xd
