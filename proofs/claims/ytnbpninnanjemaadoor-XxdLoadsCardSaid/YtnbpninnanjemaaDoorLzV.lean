/-
  PROVED HERE: the contract of the document's LzUnpack. Conditions: as each theorem states.
-/
import Derived.Test.YtnbpninnanjemaaDoorLzU
import Derived.Test.YtnbpninnanjemaaDoorTac
import Derived.Test.YtnbpninnanjemaaDoorRef
namespace Go.Proofs.YtnbpninnanjemaaDoor.Lz
open Go.RowKit
theorem cp_size (b n : Nat) (o : ByteArray) (h : 0 < b) (h2 : b ≤ o.size) : (cp b n o).size = o.size + n := by
  induction n generalizing o with
  | zero => rfl
  | succ n ih =>
    have hs : (o ++ o.extract (o.size - b) (o.size - b + 1)).size = o.size + 1 := by rw [ByteArray.size_append, ByteArray.size_extract]; omega
    rw [cp, ih _ (by rw [hs]; omega), hs]; omega
def UnP (r : Nat × ByteArray) (w : World) (e : Ending) (w' : World) : Prop := e = .returned (.tuple #[.string r.2, .int .i64 r.1]) ∧ Below w.heap.size w w'
theorem empty_data : (⟨#[]⟩ : ByteArray) = ByteArray.empty := rfl
theorem size_pos_str {q : ByteArray} (h : 0 < q.size) : q.toList.isEmpty = false ∧ (!q.toList.isEmpty) = true := by
  have := str_full q (by omega)
  exact ⟨this, by rw [this]; rfl⟩
theorem size_zero_str {q : ByteArray} (h : q.size = 0) : q.toList = [] ∧ q.toList.isEmpty = true ∧ (!q.toList.isEmpty) = false := by
  have h2 : q.data.toList.length = q.size := rfl
  have hh : q.toList = [] := by
    rw [ByteArray.toList_eq]
    exact List.eq_nil_of_length_eq_zero (by omega)
  exact ⟨hh, by rw [hh]; rfl, by rw [hh]; rfl⟩
set_option maxRecDepth 100000 in
set_option maxHeartbeats 4000000 in
theorem docUnpack_any (p : ByteArray) (W : World) (hp : p.size ≤ 300) : Calls Tryd.prog 7 #[.string p] W (UnP (up p 0 ⟨#[]⟩) W) := by
  have hZ : Hid (up p 0 ⟨#[]⟩ = up p 0 ⟨#[]⟩) := Lib.hid rfl
  have hq0 : Hid (p = p.extract 0 p.size) := Lib.hid (by
    apply ByteArray.ext
    rw [ByteArray.data_extract]
    have : p.data.size = p.size := rfl
    rw [← this, Array.extract_size])
  generalize hR : up p 0 ⟨#[]⟩ = R at hZ ⊢
  have HR := Lib.hid hR
  clear hR hZ
  go_enter Tryd.func7, Tryd.ntmps7
  go_wp2_with fail
  go_loopw [0, 4] (fun a b wr => ∃ (i : Nat) (q o : ByteArray), i ≤ p.size ∧ a = .string q ∧ b = .string o ∧ o.size ≤ 4000 ∧ Hid (q = p.extract i p.size) ∧ Hid (up p i o = R) ∧ Hid (Below W.heap.size W wr)) (fun a _ _ => match a with | .string q => q.size | _ => 0)
  case atStart => exact ⟨0, p, ⟨#[]⟩, Nat.zero_le _, rfl, rfl, by decide, hq0, HR, Lib.hid (Below.refl _ _)⟩
  case round =>
    obtain ⟨i, q, o, hi, rfl, rfl, ho, hq, hu, hB⟩ := hrel
    clear hq0 HR
    have hqs : q.size = p.size - i := by rw [hq.out, ByteArray.size_extract]; omega
    by_cases hlt : i < p.size
    · have hq1 : 0 < q.size := by omega
      obtain ⟨hs1, hs2⟩ := size_pos_str hq1
      obtain ⟨c, hc⟩ : ∃ c : Nat, q[0].toNat = c := ⟨_, rfl⟩
      have hcp : (ub p i).toNat = c := by
        rw [← hc, ub_eq q 0 hq1]
        have := ub_ex p i 0 (by omega)
        rw [← hq.out] at this
        rw [this, Nat.add_zero]
      have hc2 : c < 256 := by rw [← hcp]; exact ub_lt _ _
      have HC := Lib.hid hcp
      clear hcp
      by_cases h1 : c < 128
      · have d1 : decide ((c : Int) < 128) = true := decide_eq_true (by omega)
        by_cases h2 : p.size < i + c + 2
        · have d2 : decide ((q.size : Int) < (c : Int) + 2) = true := decide_eq_true (by omega)
          have hRR : Hid (R = (3, ⟨#[]⟩)) := Lib.hid (by rw [← hu.out]; exact up_short hlt HC.out h1 h2 o)
          clear hu
          go_wp2_with fail
          go_ret2
          rw [hRR.out]
          exact ⟨rfl, hB.out⟩
        · have d2 : decide ((q.size : Int) < (c : Int) + 2) = false := decide_eq_false (by omega)
          have hsz : (o ++ q.extract 1 (c + 2)).size ≤ 5000 := by rw [ByteArray.size_append, ByteArray.size_extract]; omega
          have e0 : q.extract 1 (c + 2) = p.extract (i + 1) (i + c + 2) := by rw [hq.out, ex_ex p i 1 (c + 2) (by omega) (by omega)]; rfl
          have E0 := Lib.hid e0
          have E1 : Hid (q.extract (c + 2) q.size = p.extract (i + c + 2) p.size) := Lib.hid (by
            rw [hqs]
            conv => lhs; rw [hq.out]
            rw [ex_rest p i (c + 2) (by omega)]
            rfl)
          have hz : (p.extract (i + 1) (i + c + 2)).size = c + 1 := by rw [ByteArray.size_extract]; omega
          have hzz : (o ++ p.extract (i + 1) (i + c + 2)).size = o.size + (c + 1) := by rw [ByteArray.size_append, hz]
          have HZ := Lib.hid hzz
          have HQ := Lib.hid hqs
          have hle : c + 2 ≤ q.size := by omega
          clear e0 hqs hz hzz
          go_wp2_with fail
          · have h3 : 4000 < (o.size : Int) + ((c : Int) + 1) := by assumption
            have hzz := HZ.out
            have h4 : 4000 < (o ++ p.extract (i + 1) (i + c + 2)).size := by omega
            have hRR : Hid (R = (4, ⟨#[]⟩)) := Lib.hid (by rw [← hu.out]; exact up_full hlt HC.out h1 (by omega) o h4)
            go_ret2
            rw [hRR.out]
            exact ⟨rfl, hB.out⟩
          · have h3 : (o.size : Int) + ((c : Int) + 1) ≤ 4000 := by assumption
            have hzz := HZ.out
            have h4 : (o ++ p.extract (i + 1) (i + c + 2)).size ≤ 4000 := by omega
            have hu2 := Lib.hid ((up_lit hlt HC.out h1 (by omega) o h4).symm.trans hu.out)
            go_roundw
            case rel => exact ⟨i + c + 2, _, _, by omega, rfl, rfl, by rw [E0.out]; exact h4, E1, by rw [E0.out]; exact hu2, hB⟩
            case measure => simp; omega
      · have d1 : decide ((c : Int) < 128) = false := decide_eq_false (by omega)
        by_cases h2 : p.size < i + 3
        · have d2 : decide ((q.size : Int) < 3) = true := decide_eq_true (by omega)
          have hRR : Hid (R = (3, ⟨#[]⟩)) := Lib.hid (by rw [← hu.out]; exact up_short2 hlt HC.out (by omega) h2 o)
          clear hu hqs
          go_wp2_with fail
          go_ret2
          rw [hRR.out]
          exact ⟨rfl, hB.out⟩
        · have d2 : decide ((q.size : Int) < 3) = false := decide_eq_false (by omega)
          have b1 : 1 < q.size := by omega
          have b2 : 2 < q.size := by omega
          obtain ⟨x, hx⟩ : ∃ x : Nat, (q[1]'b1).toNat = x := ⟨_, rfl⟩
          obtain ⟨y, hy⟩ : ∃ y : Nat, (q[2]'b2).toNat = y := ⟨_, rfl⟩
          have hxp : (ub p (i + 1)).toNat = x := by
            rw [← hx, ub_eq q 1 (by omega)]
            have := ub_ex p i 1 (by omega)
            rw [← hq.out] at this
            rw [this]
          have hyp : (ub p (i + 2)).toNat = y := by
            rw [← hy, ub_eq q 2 (by omega)]
            have := ub_ex p i 2 (by omega)
            rw [← hq.out] at this
            rw [this]
          have hx2 : x < 256 := by rw [← hxp]; exact ub_lt _ _
          have hy2 : y < 256 := by rw [← hyp]; exact ub_lt _ _
          have hbb : (ub p (i + 1)).toNat * 256 + (ub p (i + 2)).toNat = x * 256 + y := by rw [hxp, hyp]
          have HB := Lib.hid hbb
          have hq3 : 3 ≤ q.size := by omega
          have HQ := Lib.hid hqs
          clear hxp hyp hbb hqs
          obtain ⟨b, hb⟩ : ∃ b : Nat, x * 256 + y = b := ⟨_, rfl⟩
          have eb : (x : Int) * 256 + (y : Int) = (b : Int) := by omega
          have HB2 := Lib.hid (HB.out.trans hb)
          have hb9 : b < 65536 := by omega
          have w1 : IntKind.i64.wrap ((x : Int) * 256) = (x : Int) * 256 := IntWalk.i64_in _ (by omega)
          have w2 : IntKind.i64.wrap ((b : Int)) = (b : Int) := IntWalk.i64_in _ (by omega)
          clear HB
          go_upto_region 11 with fail
          clear hb
          go_quiet (fail)
          clear eb w1 w2 hx hy hx2 hy2
          have hB2 := Lib.hid (below_drewN hB.out nq)
          generalize wr.drewN nq = w9 at *
          clear hB
          by_cases h3 : b = 0 ∨ 1023 < b ∨ o.size < b
          · have hRR : Hid (R = (3, ⟨#[]⟩)) := Lib.hid (by rw [← hu.out]; exact up_none hlt HC.out (by omega) (by omega) HB2.out o h3)
            have HN := Lib.hid (fun (h : Int) (hh : (b : Int) < 1 ∨ h < (b : Int)) W => Ref.within_no (b : Int) 1 h hh W)
            clear hu
            go_wp2_with fail
            all_goals
              refine (HN.out _ (by omega) _).mono ?_; rintro e w' ⟨rfl, rfl⟩
              go_wp2_with fail
              go_ret2
              rw [hRR.out]
              exact ⟨rfl, hB2.out⟩
          · have HN := Lib.hid (fun (h : Int) (hh : (b : Int) ≤ h) (hh1 : 1 ≤ (b : Int)) W => Ref.within_yes (b : Int) 1 h hh1 hh W)
            have hb1 : 0 < b := by omega
            have hb2 : b ≤ o.size := by omega
            have hb3 : b ≤ 1023 := by omega
            obtain ⟨n, hn⟩ : ∃ n, n = c - 125 := ⟨_, rfl⟩
            have hn2 : n ≤ 130 := by omega
            have H3 := Lib.hid h3
            have hn3 : (c : Int) - 125 = (n : Int) := by omega
            have HNn := Lib.hid hn
            have E1 : Hid (q.extract 3 q.size = p.extract (i + 3) p.size) := Lib.hid (by
              rw [HQ.out]
              conv => lhs; rw [hq.out]
              exact ex_rest p i 3 (by omega))
            clear h3 hn
            go_wp2_with fail
            all_goals
              refine (HN.out _ (by omega) (by omega) _).mono ?_; rintro e w' ⟨rfl, rfl⟩
              go_wp2_with fail
              clear hn3
              go_loopw [4, 7] (fun u t wr => ∃ (j : Nat) (z : ByteArray), j ≤ n ∧ t = .int .i64 (j : Int) ∧ u = .string z ∧ Hid (z.size + j = o.size + n) ∧ Hid (cp b j z = cp b n o) ∧ wr = w9) (fun _ t _ => (intOf t).toNat)
              case atStart => exact ⟨n, o, Nat.le_refl _, rfl, rfl, Lib.hid rfl, Lib.hid rfl, rfl⟩
              case round =>
                obtain ⟨j, z, hj, rfl, rfl, hzs, hZ, rfl⟩ := hrel
                have hz1 : z.size ≤ 4200 := by have := hzs.out; omega
                by_cases hj0 : 0 < j
                · have hz2 : b ≤ z.size := by have := hzs.out; omega
                  have j1 : (j : Int) - 1 = ((j - 1 : Nat) : Int) := by omega
                  have ez : (z.size : Int) - (b : Int) = ((z.size - b : Nat) : Int) := by omega
                  have EX : Hid ((z.extract (z.size - b) z.size).extract 0 1 = z.extract (z.size - b) (z.size - b + 1)) := Lib.hid (by
                    rw [ex_ex z (z.size - b) 0 1 (by omega) (by omega)]; rfl)
                  have hZ2 : Hid (cp b (j - 1) (z ++ z.extract (z.size - b) (z.size - b + 1)) = cp b n o) := Lib.hid (by
                    rw [← hZ.out]
                    conv => rhs; rw [show j = (j - 1) + 1 by omega, cp])
                  have hs2 : Hid ((z ++ z.extract (z.size - b) (z.size - b + 1)).size + (j - 1) = o.size + n) := Lib.hid (by
                    have := hzs.out
                    rw [ByteArray.size_append, ByteArray.size_extract]; omega)
                  clear hzs hZ
                  go_wp2_with fail
                  go_roundw
                  case rel => exact ⟨j - 1, _, by omega, rfl, by rw [EX.out], hs2, hZ2, by trivial⟩
                  case measure => simp [intOf]; omega
                · obtain rfl : j = 0 := by omega
                  have hze : z = cp b n o := hZ.out
                  have hzH := Lib.hid hze
                  clear hze
                  go_wp2_with fail
                  · have h4 : 4000 < (z.size : Int) := by assumption
                    have hRR : Hid (R = (4, ⟨#[]⟩)) := Lib.hid (by rw [← hu.out]; exact up_full2 hlt HC.out (by omega) (by omega) HB2.out o H3.out (by rw [← HNn.out, ← hzH.out]; omega))
                    go_ret2
                    rw [hRR.out]
                    exact ⟨rfl, hB2.out⟩
                  · have h4 : (z.size : Int) ≤ 4000 := by assumption
                    have hu2 := Lib.hid ((up_back hlt HC.out (by omega) (by omega) HB2.out o H3.out (by rw [← HNn.out, ← hzH.out]; omega)).symm.trans hu.out)
                    have hqx := HQ.out
                    go_roundw
                    case rel => exact ⟨i + 3, _, _, by omega, rfl, rfl, by omega, E1, by rw [hzH.out, HNn.out]; exact hu2, hB2⟩
                    case measure => simp; omega
    · have hq1 : q.size = 0 := by omega
      obtain ⟨hs1, hs2, hs3⟩ := size_zero_str hq1
      have hRR : Hid (R = (0, o)) := Lib.hid (by rw [← hu.out]; exact up_end (by omega) o)
      clear hu hqs
      go_wp2_with fail
      go_ret2
      rw [hRR.out]
      exact ⟨rfl, hB.out⟩
end Go.Proofs.YtnbpninnanjemaaDoor.Lz
