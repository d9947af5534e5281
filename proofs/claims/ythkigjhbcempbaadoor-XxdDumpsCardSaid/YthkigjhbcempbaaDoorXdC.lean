/-
  PROVED HERE: the contracts of the document's XxdDump and XxdPlain. Conditions: as each theorem states.
-/
import Derived.Test.YthkigjhbcempbaaDoorXdA
import Derived.Deep.DeepCutAuto
namespace Go.Proofs.YthkigjhbcempbaaDoor.Xd
open Go.RowKit Dig Shw
def tx (l : List UInt8) : ByteArray := ⟨l.toArray⟩
theorem tx_size (l : List UInt8) : (tx l).size = l.length := by show l.toArray.size = _; simp
theorem tx_app (l m : List UInt8) : tx l ++ tx m = tx (l ++ m) := by apply ByteArray.ext; simp [tx, ByteArray.data_append]
theorem tx_one (s : ByteArray) (k : Nat) (h : k < s.size) : hexT (s.extract k (k + 1)) 1 = tx (hx (byteAt s k)) := by
  show (⟨(hexs (s.extract k (k + 1)) 1).toArray⟩ : ByteArray) = _
  rw [hexs_one' s k h]; rfl
set_option maxRecDepth 100000 in
set_option maxHeartbeats 2000000 in
theorem docPlain_any (s : ByteArray) (hs : s.size ≤ 600) (W : World) :
    Calls Tryd.prog 21 #[.string s] W fun e w' => e = .returned (.string ⟨(pk s s.size).toArray⟩) ∧ Below W.heap.size W w' := by
  go_enter Tryd.func21, Tryd.ntmps21
  go_wp2_with fail
  go_loopw [3, 7] (fun v i wr => ∃ k : Nat, k ≤ s.size ∧ v = .string (tx (pk s k)) ∧ i = .int .i64 k ∧ Hid (Below W.heap.size W wr)) (fun _ i _ => s.size - (intOf i).toNat)
  case atStart => exact ⟨0, Nat.zero_le _, rfl, rfl, Lib.hid (Below.refl _ _)⟩
  case round =>
    obtain ⟨k, hk, rfl, rfl, hW⟩ := hrel
    have hl := pk_len s k
    by_cases hlt : k < s.size
    · have hz1 : (s.extract k (k + 1)).size = 1 := by rw [ByteArray.size_extract]; omega
      have HX := Lib.hid (docHex_any (s.extract k (k + 1)) (by omega))
      rw [hz1, tx_one s k hlt] at HX
      have hS : Hid (pk s (k + 1) = pk s k ++ (hx (byteAt s k) ++ if k % 30 = 29 ∨ k + 1 = s.size then [10] else [])) := Lib.hid rfl
      have hxl : (hx (byteAt s k)).length = 2 := rfl
      generalize hx (byteAt s k) = H at *
      have ht1 := tx_size (pk s k)
      have ht2 := tx_size H
      have ht3 : (tx (pk s k) ++ tx H).size ≤ 2000 := by rw [ByteArray.size_append]; omega
      have hT := Lib.hid (tx_app (pk s k) H)
      have hT2 := Lib.hid (tx_app (pk s k ++ H) [10])
      have hTN : Hid (tx [10] = ⟨#[10]⟩) := Lib.hid rfl
      have hmod : ((k : Int).tmod 30) = (k : Int) % 30 := rfl
      have ht4 : Hid ((tx (pk s k) ++ tx H ++ ⟨#[10]⟩).size ≤ 2001) := Lib.hid (by
        rw [ByteArray.size_append]
        have : (⟨#[10]⟩ : ByteArray).size = 1 := rfl
        omega)
      have ht5 : (tx (pk s k)).size ≤ 1800 := by omega
      have ht6 : (tx H).size ≤ 2 := by omega
      clear ht1 ht2
      by_cases h29 : k % 30 = 29
      · have q1 : (((k : Int) % 30) == 29) = true := by simp; omega
        have hS2 : Hid (tx (pk s (k + 1)) = tx (pk s k) ++ tx H ++ ⟨#[10]⟩) := Lib.hid (by rw [hS.out, if_pos (.inl h29), hT.out, ← hTN.out, hT2.out, List.append_assoc])
        clear h29
        go_wp2_with fail
        refine (HX.out _).mono ?_; rintro e w1 ⟨rfl, hb1⟩
        have W1 := Lib.hid (hW.out.trans (hb1.mono hW.out.size))
        clear hb1
        go_wp2_with fail
        go_roundw
        case rel => exact ⟨k + 1, by omega, by rw [hS2.out], by go_num, W1⟩
        case measure => simp [intOf]; omega
      · have q1 : (((k : Int) % 30) == 29) = false := by simp; omega
        by_cases hend : k + 1 = s.size
        · have q2 : ((k : Int) == (s.size : Int) - 1) = true := by simp; omega
          have hS2 : Hid (tx (pk s (k + 1)) = tx (pk s k) ++ tx H ++ ⟨#[10]⟩) := Lib.hid (by rw [hS.out, if_pos (.inr hend), hT.out, ← hTN.out, hT2.out, List.append_assoc])
          clear h29 hend
          go_wp2_with fail
          refine (HX.out _).mono ?_; rintro e w1 ⟨rfl, hb1⟩
          have W1 := Lib.hid (hW.out.trans (hb1.mono hW.out.size))
          clear hb1
          go_wp2_with fail
          go_roundw
          case rel => exact ⟨k + 1, by omega, by rw [hS2.out], by go_num, W1⟩
          case measure => simp [intOf]; omega
        · have q2 : ((k : Int) == (s.size : Int) - 1) = false := by simp; omega
          have hS2 : Hid (tx (pk s (k + 1)) = tx (pk s k) ++ tx H) := Lib.hid (by rw [hS.out, if_neg (by omega), hT.out, List.append_nil])
          clear h29 hend
          go_wp2_with fail
          refine (HX.out _).mono ?_; rintro e w1 ⟨rfl, hb1⟩
          have W1 := Lib.hid (hW.out.trans (hb1.mono hW.out.size))
          clear hb1
          go_wp2_with fail
          go_roundw
          case rel => exact ⟨k + 1, by omega, by rw [hS2.out], by go_num, W1⟩
          case measure => simp [intOf]; omega
    · obtain rfl : k = s.size := by omega
      go_wp2_with fail
      go_ret
      exact ⟨rfl, hW.out⟩
theorem rowT_tx (s : ByteArray) (at_ cols g : Nat) : tx (rowT s at_ cols g) = tx (place at_) ++ ⟨#[58]⟩ ++ tx (dk s at_ g cols) ++ ⟨#[32, 32]⟩ ++ shT (s.extract at_ (min (at_ + cols) s.size)) ++ ⟨#[10]⟩ := by
  unfold rowT
  have e : shT (s.extract at_ (min (at_ + cols) s.size)) = tx (shT (s.extract at_ (min (at_ + cols) s.size))).data.toList := by apply ByteArray.ext; simp [tx]
  rw [e, show (⟨#[58]⟩ : ByteArray) = tx [58] from rfl, show (⟨#[32, 32]⟩ : ByteArray) = tx [32, 32] from rfl, show (⟨#[10]⟩ : ByteArray) = tx [10] from rfl]
  rw [tx_app, tx_app, tx_app, tx_app, tx_app]
  simp [tx]
set_option maxRecDepth 100000 in
set_option maxHeartbeats 4000000 in
theorem docDump_any (s : ByteArray) (hs : s.size ≤ 600) (cols g : Nat) (hc : 1 ≤ cols ∧ cols ≤ 256) (hg : 1 ≤ g ∧ g ≤ cols) (W : World) :
    Calls Tryd.prog 18 #[.string s, .int .i64 cols, .int .i64 g] W fun e w' => e = .returned (.tuple #[.string ⟨(acc s cols g ((s.size + cols - 1) / cols)).toArray⟩, .int .i64 0]) ∧ Below W.heap.size W w' := by
  obtain ⟨hc1, hc2⟩ := hc
  obtain ⟨hg1, hg2⟩ := hg
  go_enter Tryd.func18, Tryd.ntmps18
  go_wp2_with fail
  refine (Ref.within_yes _ _ _ (by omega) (by omega) _).mono ?_; rintro e w' ⟨rfl, rfl⟩
  go_wp2_with fail
  refine (Ref.within_yes _ _ _ (by omega) (by omega) _).mono ?_; rintro e w' ⟨rfl, rfl⟩
  go_wp2_with fail
  go_loopw [8, 9] (fun v i wr => ∃ (n a : Nat) (ai : Int), v = .string (tx (acc s cols g n)) ∧ i = .int .i64 ai ∧ ai = a ∧ Hid (a = n * cols) ∧ a < s.size + cols ∧ n ≤ a ∧ Hid (Below W.heap.size W wr)) (fun _ i _ => s.size - (intOf i).toNat)
  case atStart => exact ⟨0, 0, 0, rfl, rfl, rfl, Lib.hid (Nat.zero_mul _).symm, by omega, Nat.le_refl _, Lib.hid (Below.refl _ _)⟩
  case round =>
    obtain ⟨n, a, _, rfl, rfl, rfl, ha, hb, hna, hW⟩ := hrel
    have hal := acc_len s cols g hg1 hc2 n
    have hat := tx_size (acc s cols g n)
    have hat2 : (tx (acc s cols g n)).size ≤ 2000000 := by omega
    by_cases hlt : a < s.size
    · obtain ⟨m, hm⟩ : ∃ m, min (a + cols) s.size = m := ⟨_, rfl⟩
      have hm1 : a < m := by omega
      have hm2 : m ≤ s.size := by omega
      have hm3 : m ≤ a + cols := by omega
      have hmI : (min ((a : Int) + (cols : Int)) (s.size : Int)) = (m : Int) := by omega
      clear hal hat
      go_wp2_with fail
      go_loopw [10, 11] (fun v i wr => ∃ k : Nat, k ≤ cols ∧ v = .string (tx (dk s a g k)) ∧ i = .int .i64 k ∧ Hid (Below W.heap.size W wr)) (fun _ i _ => cols - (intOf i).toNat)
      case atStart => exact ⟨0, Nat.zero_le _, rfl, rfl, hW⟩
      case round =>
        obtain ⟨k, hk, rfl, rfl, hW⟩ := hrel
        have hdl := dk_len s a g hg1 k
        have hwl := wd_le g k hg1
        have hts := tx_size (dk s a g k)
        have hts2 : (tx (dk s a g k)).size ≤ 800 := by omega
        clear hdl hwl hts
        by_cases hlt2 : k < cols
        · have hdS : Hid (dk s a g (k + 1) = dk s a g k ++ (gap g k ++ cell s a k)) := Lib.hid rfl
          have hmod : ((k : Int).tmod (g : Int)) = (k : Int) % (g : Int) := rfl
          have hT2N : Hid (tx [32, 32] = ⟨#[32, 32]⟩) := Lib.hid rfl
          have hT1N : Hid (tx [32] = ⟨#[32]⟩) := Lib.hid rfl
          have hs1 : (tx (dk s a g k) ++ ⟨#[32]⟩).size ≤ 801 := by
            rw [ByteArray.size_append]
            have : (⟨#[32]⟩ : ByteArray).size = 1 := rfl
            omega
          by_cases hgp : k % g = 0
          · have hgap : gap g k = [32] := by unfold gap; rw [if_pos hgp]
            have q1 : (((k : Int) % (g : Int)) == 0) = true := by
              rw [beq_iff_eq, ← Int.natCast_emod, hgp]; rfl
            by_cases hin : a + k < s.size
            · have hcell : cell s a k = hx (byteAt s (a + k)) := by unfold cell; rw [if_pos hin]
              have hz1 : (s.extract (a + k) (a + k + 1)).size = 1 := by rw [ByteArray.size_extract]; omega
              have HX := Lib.hid (docHex_any (s.extract (a + k) (a + k + 1)) (by omega))
              rw [hz1, tx_one s (a + k) hin, ← hcell] at HX
              have hcs := tx_size (cell s a k)
              rw [cell_len] at hcs
              have hS2 : Hid (tx (dk s a g (k + 1)) = tx (dk s a g k) ++ ⟨#[32]⟩ ++ tx (cell s a k)) := Lib.hid (by rw [hdS.out, hgap, ← hT1N.out, tx_app, tx_app, List.append_assoc])
              clear hgap hgp hcell
              go_wp2_with fail
              refine (HX.out _).mono ?_; rintro e w1 ⟨rfl, hb1⟩
              have W1 := Lib.hid (hW.out.trans (hb1.mono hW.out.size))
              clear hb1
              go_wp2_with fail
              go_roundw
              case rel => first | exact ⟨k + 1, by omega, by rw [hS2.out], by go_num, W1⟩ | ((repeat apply Exists.intro); exact ⟨⟨k + 1, by omega, by rw [hS2.out], by go_num, W1⟩, rfl⟩)
              case measure => simp [intOf]; omega
            · have hcell : cell s a k = [32, 32] := by unfold cell; rw [if_neg hin]
              have hS2 : Hid (tx (dk s a g (k + 1)) = tx (dk s a g k) ++ ⟨#[32]⟩ ++ ⟨#[32, 32]⟩) := Lib.hid (by rw [hdS.out, hgap, hcell, ← hT1N.out, ← hT2N.out, tx_app, tx_app, List.append_assoc])
              clear hgap hgp hcell
              go_wp2_with fail
              have W1 := hW
              go_roundw
              case rel => first | exact ⟨k + 1, by omega, by rw [hS2.out], by go_num, W1⟩ | ((repeat apply Exists.intro); exact ⟨⟨k + 1, by omega, by rw [hS2.out], by go_num, W1⟩, rfl⟩)
              case measure => simp [intOf]; omega
          · have hgap : gap g k = [] := by unfold gap; rw [if_neg hgp]
            have q1 : (((k : Int) % (g : Int)) == 0) = false := by
              rw [← Int.natCast_emod]; simp; omega
            by_cases hin : a + k < s.size
            · have hcell : cell s a k = hx (byteAt s (a + k)) := by unfold cell; rw [if_pos hin]
              have hz1 : (s.extract (a + k) (a + k + 1)).size = 1 := by rw [ByteArray.size_extract]; omega
              have HX := Lib.hid (docHex_any (s.extract (a + k) (a + k + 1)) (by omega))
              rw [hz1, tx_one s (a + k) hin, ← hcell] at HX
              have hcs := tx_size (cell s a k)
              rw [cell_len] at hcs
              have hS2 : Hid (tx (dk s a g (k + 1)) = tx (dk s a g k) ++ tx (cell s a k)) := Lib.hid (by rw [hdS.out, hgap, tx_app, List.nil_append])
              clear hgap hgp hcell
              go_wp2_with fail
              refine (HX.out _).mono ?_; rintro e w1 ⟨rfl, hb1⟩
              have W1 := Lib.hid (hW.out.trans (hb1.mono hW.out.size))
              clear hb1
              go_wp2_with fail
              go_roundw
              case rel => first | exact ⟨k + 1, by omega, by rw [hS2.out], by go_num, W1⟩ | ((repeat apply Exists.intro); exact ⟨⟨k + 1, by omega, by rw [hS2.out], by go_num, W1⟩, rfl⟩)
              case measure => simp [intOf]; omega
            · have hcell : cell s a k = [32, 32] := by unfold cell; rw [if_neg hin]
              have hS2 : Hid (tx (dk s a g (k + 1)) = tx (dk s a g k) ++ ⟨#[32, 32]⟩) := Lib.hid (by rw [hdS.out, hgap, hcell, ← hT2N.out, tx_app, List.nil_append])
              clear hgap hgp hcell
              go_wp2_with fail
              have W1 := hW
              go_roundw
              case rel => first | exact ⟨k + 1, by omega, by rw [hS2.out], by go_num, W1⟩ | ((repeat apply Exists.intro); exact ⟨⟨k + 1, by omega, by rw [hS2.out], by go_num, W1⟩, rfl⟩)
              case measure => simp [intOf]; omega
        · obtain rfl : k = cols := by omega
          have hcnt := cnt_le a 16 8
          have hpl : (place a).length ≤ 64 := by unfold place; rw [List.length_reverse, le_len]; exact hcnt
          have PR := Lib.hid (docPrint_yes a 16 8 (by omega) (by omega) (by omega))
          have hpp : sle a 16 (cnt a 16 8) = tx (place a) := rfl
          rw [hpp] at PR
          have hps := tx_size (place a)
          have hzr : (s.extract a m).size = m - a := by rw [ByteArray.size_extract]; omega
          have SH := Lib.hid (docShown_any (s.extract a m) (by omega))
          have hsh := shT_size (s.extract a m)
          have hrow : Hid (tx (acc s k g (n + 1)) = tx (acc s k g n) ++ (tx (place a) ++ ⟨#[58]⟩ ++ tx (dk s a g k) ++ ⟨#[32, 32]⟩ ++ shT (s.extract a m) ++ ⟨#[10]⟩)) := Lib.hid (by rw [acc_succ, ← ha.out, ← tx_app, rowT_tx, hm])
          generalize shT (s.extract a m) = T at *
          generalize tx (place a) = Pl at *
          generalize tx (dk s a g k) = D at *
          generalize hA : tx (acc s k g n) = A at *
          have z1 : (⟨#[58]⟩ : ByteArray).size = 1 := rfl
          have z2 : (⟨#[32, 32]⟩ : ByteArray).size = 2 := rfl
          have z3 : (⟨#[10]⟩ : ByteArray).size = 1 := rfl
          have y1 : (Pl ++ ⟨#[58]⟩).size ≤ 65 := by rw [ByteArray.size_append]; omega
          have y2 : (Pl ++ ⟨#[58]⟩ ++ D).size ≤ 900 := by rw [ByteArray.size_append]; omega
          have y3 : (Pl ++ ⟨#[58]⟩ ++ D ++ ⟨#[32, 32]⟩).size ≤ 902 := by rw [ByteArray.size_append]; omega
          have y4 : (Pl ++ ⟨#[58]⟩ ++ D ++ ⟨#[32, 32]⟩ ++ T).size ≤ 1602 := by rw [ByteArray.size_append]; omega
          have y5 : (Pl ++ ⟨#[58]⟩ ++ D ++ ⟨#[32, 32]⟩ ++ T ++ ⟨#[10]⟩).size ≤ 1603 := by rw [ByteArray.size_append]; omega
          have hps2 : Pl.size ≤ 64 := by omega
          have hTs2 : T.size ≤ 600 := by omega
          have hnx : Hid (a + k = (n + 1) * k) := Lib.hid (by rw [Nat.succ_mul, ha.out])
          clear hpl hcnt hps hpp z1 z2 z3 hlt2 hmI
          by_cases hle : a + k ≤ s.size
          · have e1 : ((a : Int) + (k : Int)).toNat = a + k := by omega
            obtain rfl : m = a + k := by omega
            clear hm
            go_wp2_with fail
            refine (PR.out _).mono ?_; rintro e w1 ⟨rfl, hb1⟩
            have W1 := Lib.hid (hW.out.trans (hb1.mono hW.out.size))
            clear hb1
            go_wp2_with fail
            refine (SH.out _).mono ?_; rintro e w2 ⟨rfl, rfl⟩
            have W2 := W1
            go_wp2_with fail
            go_roundw
            case rel => first | exact ⟨n + 1, a + k, (a : Int) + (k : Int), by rw [hrow.out], rfl, by omega, hnx, by omega, by omega, W2⟩ | ((repeat apply Exists.intro); exact ⟨⟨n + 1, a + k, (a : Int) + (k : Int), by rw [hrow.out], rfl, by omega, hnx, by omega, by omega, W2⟩, rfl⟩)
            case measure => simp [intOf]; omega
          · obtain rfl : m = s.size := by omega
            clear hm
            go_wp2_with fail
            refine (PR.out _).mono ?_; rintro e w1 ⟨rfl, hb1⟩
            have W1 := Lib.hid (hW.out.trans (hb1.mono hW.out.size))
            clear hb1
            go_wp2_with fail
            refine (SH.out _).mono ?_; rintro e w2 ⟨rfl, rfl⟩
            have W2 := W1
            go_wp2_with fail
            go_roundw
            case rel => first | exact ⟨n + 1, a + k, (a : Int) + (k : Int), by rw [hrow.out], rfl, by omega, hnx, by omega, by omega, W2⟩ | ((repeat apply Exists.intro); exact ⟨⟨n + 1, a + k, (a : Int) + (k : Int), by rw [hrow.out], rfl, by omega, hnx, by omega, by omega, W2⟩, rfl⟩)
            case measure => simp [intOf]; omega
    · have hn := rows_is hc1 (show s.size ≤ n * cols by rw [← ha.out]; omega) (by rw [← ha.out]; exact hb)
      have HN := Lib.hid hn
      clear hn
      go_wp2_with fail
      go_ret2
      refine ⟨?_, hW.out⟩
      have hacc : acc s cols g ((s.size + cols - 1) / cols) = acc s cols g n := by rw [← HN.out]
      rw [hacc]
      rfl
end Go.Proofs.YthkigjhbcempbaaDoor.Xd
